/- Texts laid together. -/
import Derived.Test.YtlciofheonbkiaaGreatP23
import Derived.Test.YtlciofheonbkiaaGreatP27
import Derived.Test.YtlciofheonbkiaaGreatP22
import Derived.Laws.EntriesVeiled
/- A letter of sensor 2 alone: written, and read again. -/
namespace Go.Proofs.YtlciofheonbkiaaGreat
set_option maxHeartbeats 8000000
set_option maxRecDepth 100000
open Go.RowKit Vy Sh
def Vy.headL4 (n : Nat) : List UInt8 := wsL [1, 2, 4, (n : Int)] 4
def Vy.letB (s : ByteArray) : List UInt8 := [68, 87, 76, 1] ++ (headL4 s.size ++ s.data.toList)
theorem Vy.headL4_eq (n : Nat) : headL4 n = [1] ++ ([2] ++ ([4] ++ vyL n)) := by
  unfold headL4
  simp only [wsL, List.getD_cons_zero, List.getD_cons_succ, List.nil_append, Int.toNat_natCast]
  rw [show vyL (Int.toNat 1) = [1] by rw [vy_low (by decide)]; rfl, show vyL (Int.toNat 2) = [2] by rw [vy_low (by decide)]; rfl, show vyL (Int.toNat 4) = [4] by rw [vy_low (by decide)]; rfl]
  simp
theorem Vy.headL4_len (n : Nat) (h : n ≤ 200000) : (headL4 n).length ≤ 36 := ws_len (l := [1, 2, 4, (n : Int)]) (fun j => by
  match j with
  | 0 => show (1 : Int) ≤ _; decide
  | 1 => show (2 : Int) ≤ _; decide
  | 2 => show (4 : Int) ≤ _; decide
  | 3 => show (n : Int) ≤ _; omega
  | j + 4 => show (0 : Int) ≤ _; decide) 4
theorem Vy.let_str (s : ByteArray) : (⟨#[68, 87, 76, 1]⟩ ++ ⟨(headL4 s.size).toArray⟩ ++ s : ByteArray) = ⟨(letB s).toArray⟩ := by
  conv => lhs; rw [bs_list s]
  ext1
  simp [letB]
theorem Vy.let_len (s : ByteArray) (h : s.size ≤ 150000) : (letB s).length ≤ 150100 := by
  have := headL4_len s.size (by omega)
  have e : s.data.toList.length = s.size := by simp
  unfold letB
  simp only [List.length_append, List.length_cons, List.length_nil]
  omega
theorem rd_four (W : World) (a b c d : Int) (T : TypeId) : RdI (W.alloc (.cells #[.int .i64 a, .int .i64 b, .int .i64 c, .int .i64 d] T)) (.slice (some ⟨W.heap.size, 0, none⟩) 4 4) [a, b, c, d] := by
  have X := Blk.new W #[.int .i64 a, .int .i64 b, .int .i64 c, .int .i64 d] T
  refine .inr (.inr ⟨W.heap.size, 0, 4, rfl, X.lt, Nat.le_refl 4, fun k hk => ?_⟩)
  have hk : k < 4 := hk
  obtain rfl | rfl | rfl | rfl : k = 0 ∨ k = 1 ∨ k = 2 ∨ k = 3 := by omega
  · exact X.cell 0
  · exact X.cell 1
  · exact X.cell 2
  · exact X.cell 3
theorem rd_sole (W : World) (a : Int) (T : TypeId) : RdI (W.alloc (.cells #[.int .i64 a] T)) (.slice (some ⟨W.heap.size, 0, none⟩) 1 1) [a] := by
  have X := Blk.new W #[.int .i64 a] T
  refine .inr (.inr ⟨W.heap.size, 0, 1, rfl, X.lt, Nat.le_refl 1, fun k hk => ?_⟩)
  have hk : k < 1 := hk
  obtain rfl : k = 0 := by omega
  exact X.cell 0
theorem lt_right (s : ByteArray) (w : World) (hs : s.size ≤ 150000) : Calls Tryz.prog 138 #[.agg #[.int .i64 1, .int .i64 2, .int .u64 4, .string s]] w fun e w' => e = .returned (.bool true) ∧ Below w.heap.size w w' := by
  have H := hid (c_has (w.alloc (.cells #[.int .i64 1, .int .i64 2, .int .u64 4, .string s] 142)))
  have R := hid (c_right (w.alloc (.cells #[.int .i64 1, .int .i64 2, .int .u64 4, .string s] 142)))
  have z : decide ((s.size : Int) ≤ 1048576) = true := decide_eq_true (by omega)
  go_enter Tryz.func138, Tryz.ntmps138
  go_wp2_with fail
  refine H.out.mono ?_
  rintro e w2 ⟨rfl, rfl⟩
  go_wp2_with fail
  refine R.out.mono ?_
  rintro e w2 ⟨rfl, rfl⟩
  go_wp2_with fail
  go_ret
  exact ⟨rfl, (Below.refl _ _).alloc nlr _⟩
theorem lt_encode (s : ByteArray) (w : World) (hs : s.size ≤ 150000) : Calls Tryz.prog 82 #[.agg #[.int .i64 1, .int .i64 2, .int .u64 4, .string s]] w fun e w' => e = .returned (.tuple #[.string ⟨(sealL (letB s)).toArray⟩, .int .i64 0]) ∧ Below w.heap.size w w' := by
  have hb1 : Below w.heap.size w (w.alloc (.cells #[.int .i64 1, .int .i64 2, .int .u64 4, .string s] 142)) := (Below.refl _ _).alloc nlr _
  have X1 := Blk.new w #[.int .i64 1, .int .i64 2, .int .u64 4, .string s] 142
  have R := hid (lt_right s (w.alloc (.cells #[.int .i64 1, .int .i64 2, .int .u64 4, .string s] 142)) hs)
  have LS := hid (let_str s)
  have SL := hid (fun W : World => s_seal (w := W) (letB s) (by have := let_len s hs; omega))
  have PT := hid (fun W : World => v_put (rd_four W 1 2 4 (s.size : Int) 3) (fun j => by
    match j with
    | 0 => show 0 ≤ (1 : Int) ∧ (1 : Int) ≤ _; decide
    | 1 => show 0 ≤ (2 : Int) ∧ (2 : Int) ≤ _; decide
    | 2 => show 0 ≤ (4 : Int) ∧ (4 : Int) ≤ _; decide
    | 3 => show 0 ≤ (s.size : Int) ∧ (s.size : Int) ≤ _; omega
    | j + 4 => show 0 ≤ (0 : Int) ∧ (0 : Int) ≤ _; decide) (by show 4 ≤ 10000; decide))
  go_enter Tryz.func82, Tryz.ntmps82
  go_wp2_with fail
  refine R.out.mono ?_
  rintro e w2 ⟨rfl, hb2⟩
  have X2 := X1.below hb2 nlr
  have c0 : w2.cell? ⟨w.heap.size, 0, none⟩ = some (.int .i64 1) := X2.cell 0
  have c1 : w2.cell? ⟨w.heap.size, 1, none⟩ = some (.int .i64 2) := X2.cell 1
  have c2 : w2.cell? ⟨w.heap.size, 2, none⟩ = some (.int .u64 4) := X2.cell 2
  have c3 : w2.cell? ⟨w.heap.size, 3, none⟩ = some (.string s) := X2.cell 3
  go_wp2_with fail
  refine (PT.out w2).mono ?_
  rintro e w3 ⟨rfl, hb3⟩
  have hbA := hb1.trans (hb2.mono hb1.size)
  have hb4 : Below w2.heap.size w2 w3 := ((Below.refl _ _).alloc nlr _).trans (hb3.mono (by simp))
  have X3 := X2.below hb4 nlr
  have c3 : w3.cell? ⟨w.heap.size, 3, none⟩ = some (.string s) := X3.cell 3
  clear c0 c1 c2
  have eH : wsL [1, 2, 4, (s.size : Int)] ([1, 2, 4, (s.size : Int)] : List Int).length = headL4 s.size := rfl
  rw [eH]
  clear eH
  have LS := LS.out
  obtain ⟨H, eH⟩ : ∃ H, headL4 s.size = H := ⟨_, rfl⟩
  have hHl := headL4_len s.size (by omega)
  rw [eH] at LS hHl ⊢
  clear eH
  go_wp2_with fail
  refine (SL.out w3).mono ?_
  rintro e w4 ⟨rfl, hb5⟩
  have hb6 : Below w.heap.size w w4 := (hbA.trans (hb4.mono hbA.size)).trans (hb5.mono (hbA.trans (hb4.mono hbA.size)).size)
  go_wp2_with fail
  go_ret2
  exact ⟨rfl, hb6⟩
theorem lt_fail (E : Nat) (k : Int) (w : World) : Calls Tryz.prog 141 #[.bool false, .int .i64 k, .pointer (some ⟨E, 0, none⟩)] w (Ret (.tuple #[]) w) := by
  go_enter Tryz.func141, Tryz.ntmps141
  go_wp2_with fail
  go_end0
  exact ⟨rfl, rfl⟩
theorem lt_number {w : World} {E L F n : Nat} {s : ByteArray} {r : List UInt8} {T T' T'' : TypeId} (hE : Blk w E #[.int .i64 0] T) (hL : Blk w L #[.string s] T') (hF : Blk w F #[.func (.func 141) #[] #[.pointer (some ⟨E, 0, none⟩)]] T'') (hg : getF s.data.toList = some (n, r)) :
    Calls Tryz.prog 143 #[.pointer (some ⟨E, 0, none⟩), .pointer (some ⟨L, 0, none⟩), .pointer (some ⟨F, 0, none⟩)] w fun e w' => e = .returned (.int .i64 n) ∧ ∃ s' : ByteArray, s'.data.toList = r ∧ w' = w.setCell ⟨L, 0, none⟩ (.string s') := by
  have e0 : w.cell? ⟨E, 0, none⟩ = some (.int .i64 0) := hE.cell 0
  have l0 : w.cell? ⟨L, 0, none⟩ = some (.string s) := hL.cell 0
  have f0 : w.cell? ⟨F, 0, none⟩ = some (.func (.func 141) #[] #[.pointer (some ⟨E, 0, none⟩)]) := hF.cell 0
  have lf := hL.free 0
  have G := hid (v_get s w)
  have FL := hid (lt_fail E 0 w)
  have hll := hL.lt
  go_enter Tryz.func143, Tryz.ntmps143
  go_wp2_with fail
  refine G.out.mono ?_
  rintro e w2 ⟨rfl, (⟨er, -, -, -, hn⟩ | ⟨n', size, rfl, hsz, hsz1, hg', -⟩)⟩
  · rw [hg] at hn; cases hn
  rw [hg] at hg'
  obtain ⟨rfl, rfl⟩ : n = n' ∧ r = s.data.toList.drop size := by simpa using hg'
  have P : Hid ((s.extract size s.size).data.toList = s.data.toList.drop size) := Vy.sub_list s size
  have hst : (size : Int).toNat = size := Int.toNat_natCast size
  clear hg hg' G
  go_wp2_with fail
  refine FL.out.mono ?_
  rintro e w2 ⟨rfl, rfl⟩
  go_wp2_with fail
  go_ret
  exact ⟨rfl, _, P.out, rfl⟩
end Go.Proofs.YtlciofheonbkiaaGreat

/- A letter of sensor 2 alone is read. -/
namespace Go.Proofs.YtlciofheonbkiaaGreat
set_option maxHeartbeats 8000000
set_option maxRecDepth 100000
open Go.RowKit Vy Sh
theorem Vy.open_own (t : List UInt8) : openS (sealL t) = some t := by
  unfold openS
  rw [if_pos (open_seal t)]
  have : (sealL t).length = t.length + 4 := by unfold sealL; simp [sbytes]
  rw [this, Nat.add_sub_cancel]
  unfold sealL
  rw [List.take_left']
  rfl
theorem Vy.get_own (n : Nat) (r : List UInt8) (h : n ≤ 9223372036854775807) : getF (vyL n ++ r) = some (n, r) := getF_iff.2 ⟨rfl, h⟩
theorem Vy.beg_let (s : ByteArray) : begB (letB s) [68, 87, 76, 1] = true := by
  unfold begB letB
  simp
theorem Vy.cut_let (s : ByteArray) : cutL (letB s) [68, 87, 76, 1] = headL4 s.size ++ s.data.toList := by
  unfold cutL
  rw [beg_let, if_pos rfl]
  rfl
theorem Vy.vy1 (r : List UInt8) : getF ([1] ++ r) = some (1, r) := by
  have h := get_own 1 r (by decide)
  rwa [show vyL 1 = [1] by rw [vy_low (by decide)]; rfl] at h
theorem Vy.vy2 (r : List UInt8) : getF ([2] ++ r) = some (2, r) := by
  have h := get_own 2 r (by decide)
  rwa [show vyL 2 = [2] by rw [vy_low (by decide)]; rfl] at h
theorem Vy.vy4 (r : List UInt8) : getF ([4] ++ r) = some (4, r) := by
  have h := get_own 4 r (by decide)
  rwa [show vyL 4 = [4] by rw [vy_low (by decide)]; rfl] at h
structure LtSt (w W : World) (E F L X : Nat) (s : ByteArray) (a b c : Int) : Prop where
  e : Blk W E #[.int .i64 0] 44
  f : Blk W F #[.func (.func 141) #[] #[.pointer (some ⟨E, 0, none⟩)]] 197
  l : Blk W L #[.string s] 9
  x : Blk W X #[.int .i64 a, .int .i64 b, .int .u64 c, .string ⟨#[]⟩] 142
  r : Blk W w.heap.size #[.int .i64 0, .int .i64 0, .int .u64 0, .string ⟨#[]⟩] 142
  o1 : w.heap.size < E
  o2 : E < F
  o3 : F < L
  o4 : L < X
  bel : Below w.heap.size w W
theorem LtSt.below {w W W' : World} {E F L X : Nat} {s : ByteArray} {a b c : Int} (h : LtSt w W E F L X s a b c) (q : Below W.heap.size W W') : LtSt w W' E F L X s a b c :=
  ⟨h.e.below q nlr, h.f.below q nlr, h.l.below q nlr, h.x.below q nlr, h.r.below q nlr, h.o1, h.o2, h.o3, h.o4, h.bel.trans (q.mono h.bel.size)⟩
theorem LtSt.setL {w W : World} {E F L X : Nat} {s : ByteArray} {a b c : Int} (h : LtSt w W E F L X s a b c) (t : ByteArray) : LtSt w (W.setCell ⟨L, 0, none⟩ (.string t)) E F L X t a b c := by
  have h1 := h.o1; have h2 := h.o2; have h3 := h.o3; have h4 := h.o4
  have k : ∀ j, j ≠ L → (W.setCell ⟨L, 0, none⟩ (.string t)).heap[j]? = W.heap[j]? := fun j hj => Below.heap_setCell _ ⟨L, 0, none⟩ _ j hj
  exact ⟨h.e.keep (k _ (by omega)), h.f.keep (k _ (by omega)), h.l.set 0 _, h.x.keep (k _ (by omega)), h.r.keep (k _ (by omega)), h1, h2, h3, h4, h.bel.setCell (p := ⟨L, 0, none⟩) (by show _ ≤ L; omega) _⟩
theorem LtSt.setX {w W : World} {E F L X : Nat} {s : ByteArray} {a b c a' b' c' : Int} {i : Nat} {v : Value} (h : LtSt w W E F L X s a b c) (e : (#[.int .i64 a, .int .i64 b, .int .u64 c, .string ⟨#[]⟩] : Array Value).setIfInBounds i v = #[.int .i64 a', .int .i64 b', .int .u64 c', .string ⟨#[]⟩]) : LtSt w (W.setCell ⟨X, i, none⟩ v) E F L X s a' b' c' := by
  have h1 := h.o1; have h2 := h.o2; have h3 := h.o3; have h4 := h.o4
  have k : ∀ j, j ≠ X → (W.setCell ⟨X, i, none⟩ v).heap[j]? = W.heap[j]? := fun j hj => Below.heap_setCell _ ⟨X, i, none⟩ _ j hj
  exact ⟨h.e.keep (k _ (by omega)), h.f.keep (k _ (by omega)), h.l.keep (k _ (by omega)), by have := h.x.set i v; rw [e] at this; exact this, h.r.keep (k _ (by omega)), h1, h2, h3, h4, h.bel.setCell (p := ⟨X, i, none⟩) (by show _ ≤ X; omega) _⟩
theorem LtSt.number {w W : World} {E F L X n : Nat} {s : ByteArray} {a b c : Int} {r : List UInt8} (h : LtSt w W E F L X s a b c) (hg : getF s.data.toList = some (n, r)) :
    Calls Tryz.prog 143 #[.pointer (some ⟨E, 0, none⟩), .pointer (some ⟨L, 0, none⟩), .pointer (some ⟨F, 0, none⟩)] W fun e w' => e = .returned (.int .i64 n) ∧ ∃ s' : ByteArray, s'.data.toList = r ∧ LtSt w w' E F L X s' a b c := by
  refine (lt_number h.e h.l h.f hg).mono ?_
  rintro e w' ⟨rfl, s', h1, rfl⟩
  exact ⟨rfl, s', h1, h.setL s'⟩
theorem lt_decode (s : ByteArray) (w : World) (hs : s.size ≤ 150000) : Calls Tryz.prog 84 #[.string ⟨(sealL (letB s)).toArray⟩] w fun e w' => e = .returned (.tuple #[.agg #[.int .i64 1, .int .i64 2, .int .u64 4, .string s], .int .i64 0]) ∧ Below w.heap.size w w' := by
  have hll := let_len s hs
  have hsl : (sealL (letB s)).length ≤ 150104 := by unfold sealL; simp [sbytes]; omega
  have OP := hid (fun W => s_open ⟨(sealL (letB s)).toArray⟩ W (by show (sealL (letB s)).toArray.size ≤ _; simp; omega))
  have hb0 : Below w.heap.size w (w.alloc (.cells #[.int .i64 0, .int .i64 0, .int .u64 0, .string ⟨#[]⟩] 142)) := (Below.refl _ _).alloc nlr _
  have R0 := Blk.new w #[.int .i64 0, .int .i64 0, .int .u64 0, .string ⟨#[]⟩] 142
  obtain ⟨S, eS⟩ : ∃ S, (⟨(sealL (letB s)).toArray⟩ : ByteArray) = S := ⟨_, rfl⟩
  have eS2 : S.data.toList = sealL (letB s) := by rw [← eS]
  rw [eS] at OP ⊢
  clear eS
  go_enter Tryz.func84, Tryz.ntmps84
  go_wp2_with fail
  refine (OP.out _).mono ?_
  rintro e w1 ⟨hb1, (⟨er, -, -, -, hn⟩ | ⟨t, rfl, ht, htl⟩)⟩
  · rw [eS2, open_own] at hn; cases hn
  rw [eS2, open_own] at ht
  have ht := (Option.some.inj ht).symm
  have FL := hid (fun W E k => lt_fail E k W)
  have htz : t.size = (letB s).length := by rw [← ht]; simp
  have hl4 : 4 ≤ t.size := by rw [htz]; simp [letB]
  have z : decide ((t.size : Int) < 4) = false := decide_eq_false (by omega)
  have R1 := R0.below hb1 nlr
  have hbw := hb0.trans (hb1.mono hb0.size)
  have CP := hid (fun W => l_cutp t ⟨#[68, 87, 76, 1]⟩ W (by omega) (by decide))
  clear hb0 hb1 R0 OP eS2 htz
  go_wp2_with fail
  refine (FL.out _ w1.heap.size 9).mono ?_
  rintro e w2 ⟨rfl, hw2⟩
  have hE := (Blk.new w1 #[.int .i64 0] 44).alloc (.cells #[.func (.func 141) #[] #[.pointer (some ⟨w1.heap.size, 0, none⟩)]] 197)
  have hF : Blk ((w1.alloc (.cells #[.int .i64 0] 44)).alloc (.cells #[.func (.func 141) #[] #[.pointer (some ⟨w1.heap.size, 0, none⟩)]] 197)) (w1.heap.size + 1) #[.func (.func 141) #[] #[.pointer (some ⟨w1.heap.size, 0, none⟩)]] 197 := by
    have h := Blk.new (w1.alloc (.cells #[.int .i64 0] 44)) #[.func (.func 141) #[] #[.pointer (some ⟨w1.heap.size, 0, none⟩)]] 197
    simpa using h
  have hs1 := hbw.size
  have R2 := (R1.alloc (.cells #[.int .i64 0] 44)).alloc (.cells #[.func (.func 141) #[] #[.pointer (some ⟨w1.heap.size, 0, none⟩)]] 197)
  have hbw2 : Below w.heap.size w ((w1.alloc (.cells #[.int .i64 0] 44)).alloc (.cells #[.func (.func 141) #[] #[.pointer (some ⟨w1.heap.size, 0, none⟩)]] 197)) := (hbw.alloc hs1 _).alloc (by simp; omega) _
  rw [hw2] at hE hF R2 hbw2
  have hRE : w.heap.size < w1.heap.size := R1.lt
  clear hw2 hbw R1 hs1
  generalize w1.heap.size = E at *
  obtain ⟨F, hFe⟩ : ∃ F, E + 1 = F := ⟨_, rfl⟩
  have hEF := hid hFe
  rw [hFe] at hF ⊢
  clear hFe
  have f0 : w2.cell? ⟨F, 0, none⟩ = some (.func (.func 141) #[] #[.pointer (some ⟨E, 0, none⟩)]) := hF.cell 0
  go_wp2_with fail
  refine (CP.out w2).mono ?_
  rintro e w3 ⟨r, rfl, hr, rfl⟩
  have hbg := beg_let s
  have hcl := cut_let s
  rw [ht] at hr ⊢
  rw [hcl] at hr
  rw [show begB (letB s) (⟨#[68, 87, 76, 1]⟩ : ByteArray).data.toList = true from hbg]
  clear hbg hcl
  have hE3 := hE.alloc (.cells #[.string r] 9)
  have hF3 := hF.alloc (.cells #[.string r] 9)
  have R3 := R2.alloc (.cells #[.string r] 9)
  have hL3 := Blk.new w2 #[.string r] 9
  have hbw3 := hbw2.alloc hbw2.size (.cells #[.string r] 9)
  have hFl := hF.lt
  have f3 : (w2.alloc (.cells #[.string r] 9)).cell? ⟨F, 0, none⟩ = some (.func (.func 141) #[] #[.pointer (some ⟨E, 0, none⟩)]) := hF3.cell 0
  clear f0 hE hF R2 hbw2
  go_wp2_with fail
  refine (FL.out _ E 10).mono ?_
  rintro e w4 ⟨rfl, rfl⟩
  have h5 : LtSt w ((w2.alloc (.cells #[.string r] 9)).alloc (.cells #[.int .i64 0, .int .i64 0, .int .u64 0, .string ⟨#[]⟩] 142)) E F w2.heap.size (w2.heap.size + 1) r 0 0 0 := by
    have hEF := hEF.out
    have hx := Blk.new (w2.alloc (.cells #[.string r] 9)) #[.int .i64 0, .int .i64 0, .int .u64 0, .string ⟨#[]⟩] 142
    exact ⟨hE3.alloc _, hF3.alloc _, hL3.alloc _, by simpa using hx, R3.alloc _, hRE, by omega, hFl, by omega, hbw3.alloc hbw3.size _⟩
  have hg1 : getF r.data.toList = some (1, [2] ++ ([4] ++ (vyL s.size ++ s.data.toList))) := by rw [hr, headL4_eq, List.append_assoc, List.append_assoc, List.append_assoc]; exact vy1 _
  clear hE3 hF3 R3 hL3 hbw3 f3 hEF hRE hFl
  go_wp2_with fail
  refine (h5.number hg1).mono ?_
  rintro e w6 ⟨rfl, s1, hs1, h6⟩
  clear h5 hg1 hr
  generalize w2.heap.size = L at *
  generalize L + 1 = X at *
  have hg2 : getF s1.data.toList = some (2, [4] ++ (vyL s.size ++ s.data.toList)) := by rw [hs1]; exact vy2 _
  have x0 := h6.x.free 0
  have c00 := h6.x.cell 0
  have hxl := h6.x.lt
  have h7 := h6.setX (i := 0) (v := .int .i64 1) (a' := 1) (b' := 0) (c' := 0) rfl
  have hN2 := hid (h7.number hg2)
  have HS := hid (And.intro hs1 h7)
  clear hs1 hg2 h6
  have c0 : w6.cell? ⟨X, 0, none⟩ = some (.int .i64 0) := c00
  go_wp2_with fail
  refine hN2.out.mono ?_
  rintro e w8 ⟨rfl, s2, hs2, h8⟩
  have hg3 : getF s2.data.toList = some (4, vyL s.size ++ s.data.toList) := by rw [hs2]; exact vy4 _
  have x1 := h8.x.free 1
  have c1 : w8.cell? ⟨X, 1, none⟩ = some (.int .i64 0) := h8.x.cell 1
  have hxl := h8.x.lt
  have h9 := h8.setX (i := 1) (v := .int .i64 2) (a' := 1) (b' := 2) (c' := 0) rfl
  have d1 : (w8.setCell ⟨X, 1, none⟩ (.int .i64 2)).cell? ⟨X, 1, none⟩ = some (.int .i64 2) := h9.x.cell 1
  have hCo : Hid (Calls Tryz.prog 145 #[.slice (some ⟨w8.heap.size, 0, none⟩) 1 1] ((w8.setCell ⟨X, 1, none⟩ (.int .i64 2)).alloc (.cells #[.int .i64 2] 3)) (Ret (.tuple #[.int .u64 4, .bool true]) ((w8.setCell ⟨X, 1, none⟩ (.int .i64 2)).alloc (.cells #[.int .i64 2] 3)))) := by
    have h := c_of (rd_sole (w8.setCell ⟨X, 1, none⟩ (.int .i64 2)) 2 3)
    rw [show (w8.setCell ⟨X, 1, none⟩ (.int .i64 2)).heap.size = w8.heap.size by simp] at h
    exact h
  have hFc : (w8.setCell ⟨X, 1, none⟩ (.int .i64 2)).cell? ⟨F, 0, none⟩ = some (.func (.func 141) #[] #[.pointer (some ⟨E, 0, none⟩)]) := h9.f.cell 0
  clear hN2 HS x0 c00 c0 hs2 h8
  go_wp2_with fail
  refine hCo.out.mono ?_
  rintro e w10 ⟨rfl, hw10⟩
  have h10 := h9.below ((Below.refl _ _).alloc nlr (.cells #[.int .i64 2] 3))
  rw [hw10] at h10
  clear h9 hw10 d1 hFc x1 c1 hxl hCo
  have hFc : w10.cell? ⟨F, 0, none⟩ = some (.func (.func 141) #[] #[.pointer (some ⟨E, 0, none⟩)]) := h10.f.cell 0
  have hN3 := hid (h10.number hg3)
  go_wp2_with fail
  refine (FL.out _ E 10).mono ?_
  rintro e w11 ⟨rfl, rfl⟩
  clear h10
  go_wp2_with fail
  refine hN3.out.mono ?_
  rintro e w12 ⟨rfl, s3, hs3, h12⟩
  have hg4 : getF s3.data.toList = some (s.size, s.data.toList) := by rw [hs3]; exact get_own _ _ (by omega)
  have x2 := h12.x.free 2
  have c2 : w12.cell? ⟨X, 2, none⟩ = some (.int .u64 0) := h12.x.cell 2
  have hxl := h12.x.lt
  have h13 := h12.setX (i := 2) (v := .int .u64 4) (a' := 1) (b' := 2) (c' := 4) rfl
  have d2 : (w12.setCell ⟨X, 2, none⟩ (.int .u64 4)).cell? ⟨X, 2, none⟩ = some (.int .u64 4) := h13.x.cell 2
  have hFd : (w12.setCell ⟨X, 2, none⟩ (.int .u64 4)).cell? ⟨F, 0, none⟩ = some (.func (.func 141) #[] #[.pointer (some ⟨E, 0, none⟩)]) := h13.f.cell 0
  have H13 := hid h13
  clear hN3 hs3 h12 hFc h13
  have cR := hid (fun W => c_right W)
  have cW := hid (fun W => c_within W)
  go_upto_region 13 with fail
  go_quiet ((first
    | (go_at_call 146; exact Calls.quiet_of_same (calls_flip (cR.out _)))
    | (go_at_call 147; exact Calls.quiet_of_same (calls_flip (cW.out _)))
    | (go_at_call 141; exact Calls.quiet_of_same (calls_flip (FL.out _ E 10)))))
  have h14 := H13.out.below (below_drewN (Below.refl _ _) nq)
  have hN4 := hid (h14.number hg4)
  clear h14 hFd d2 H13 x2 c2 hxl cR cW
  generalize (w12.setCell ⟨X, 2, none⟩ (.int .u64 4)).drewN nq = w14 at *
  go_wp2_with fail
  refine hN4.out.mono ?_
  rintro e w15 ⟨rfl, s4, hs4, h15⟩
  have es : s4 = s := by rw [bs_list s4, bs_list s, hs4]
  subst es
  have hFe : w15.cell? ⟨F, 0, none⟩ = some (.func (.func 141) #[] #[.pointer (some ⟨E, 0, none⟩)]) := h15.f.cell 0
  have hLe : w15.cell? ⟨L, 0, none⟩ = some (.string s4) := h15.l.cell 0
  have hEe : w15.cell? ⟨E, 0, none⟩ = some (.int .i64 0) := h15.e.cell 0
  have z1 : decide (1048576 < (s4.size : Int)) = false := decide_eq_false (by omega)
  have z2 : decide ((s4.size : Int) < (s4.size : Int)) = false := decide_eq_false (by omega)
  have H15 := hid h15
  clear h15 hN4 hs4 hg4
  go_upto_region 16 with fail
  refine (FL.out _ E 13).mono ?_
  rintro e w16 ⟨rfl, rfl⟩
  go_upto_region 17 with fail
  refine (FL.out _ E 9).mono ?_
  rintro e w16 ⟨rfl, rfl⟩
  go_upto_region 18 with fail
  refine (FL.out _ E 11).mono ?_
  rintro e w16 ⟨rfl, rfl⟩
  have h15 := H15.out
  have x3 := h15.x.free 3
  have c3 : w15.cell? ⟨X, 3, none⟩ = some (.string ⟨#[]⟩) := h15.x.cell 3
  have hxl := h15.x.lt
  have hRX : w.heap.size ≠ X := by have := h15.o1; have := h15.o2; have := h15.o3; have := h15.o4; omega
  have hx16 := h15.x.set 3 (.string s4)
  have hr16 := h15.r.keep (Below.heap_setCell w15 ⟨X, 3, none⟩ (.string s4) w.heap.size hRX)
  have hb16 := h15.bel.setCell (p := ⟨X, 3, none⟩) (by have := h15.o1; have := h15.o2; have := h15.o3; have := h15.o4; show _ ≤ X; omega) (.string s4)
  clear h15 H15
  have y0 : (w15.setCell ⟨X, 3, none⟩ (.string s4)).cell? ⟨X, 0, none⟩ = some (.int .i64 1) := hx16.cell 0
  have y1 : (w15.setCell ⟨X, 3, none⟩ (.string s4)).cell? ⟨X, 1, none⟩ = some (.int .i64 2) := hx16.cell 1
  have y2 : (w15.setCell ⟨X, 3, none⟩ (.string s4)).cell? ⟨X, 2, none⟩ = some (.int .u64 4) := hx16.cell 2
  have y3 : (w15.setCell ⟨X, 3, none⟩ (.string s4)).cell? ⟨X, 3, none⟩ = some (.string s4) := hx16.cell 3
  go_upto_region 21 with fail
  clear c3 x3 hxl hFe hLe hEe hx16
  generalize w15.setCell ⟨X, 3, none⟩ (.string s4) = w16 at *
  have q0 : w16.cell? ⟨w.heap.size, 0, none⟩ = some (.int .i64 0) := hr16.cell 0
  have q1 : w16.cell? ⟨w.heap.size, 1, none⟩ = some (.int .i64 0) := hr16.cell 1
  have q2 : w16.cell? ⟨w.heap.size, 2, none⟩ = some (.int .u64 0) := hr16.cell 2
  have q3 : w16.cell? ⟨w.heap.size, 3, none⟩ = some (.string ⟨#[]⟩) := hr16.cell 3
  have g0 := hr16.free 0
  have g1 := hr16.free 1
  have g2 := hr16.free 2
  have g3 := hr16.free 3
  have hrl := hr16.lt
  have Z := (((hr16.set 0 (.int .i64 1)).set 1 (.int .i64 2)).set 2 (.int .u64 4)).set 3 (.string s4)
  have hbz := (((hb16.setCell (p := ⟨w.heap.size, 0, none⟩) nlr (.int .i64 1)).setCell (p := ⟨w.heap.size, 1, none⟩) nlr (.int .i64 2)).setCell (p := ⟨w.heap.size, 2, none⟩) nlr (.int .u64 4)).setCell (p := ⟨w.heap.size, 3, none⟩) nlr (.string s4)
  clear hr16 hb16
  have z0 : World.cell? _ ⟨w.heap.size, 0, none⟩ = some (.int .i64 1) := Z.cell 0
  have z1 : World.cell? _ ⟨w.heap.size, 1, none⟩ = some (.int .i64 2) := Z.cell 1
  have z2 : World.cell? _ ⟨w.heap.size, 2, none⟩ = some (.int .u64 4) := Z.cell 2
  have z3 : World.cell? _ ⟨w.heap.size, 3, none⟩ = some (.string s4) := Z.cell 3
  go_wp2_with fail
  exact bodyPost_ret (v := .tuple #[.agg #[.int .i64 1, .int .i64 2, .int .u64 4, .string s4], .int .i64 0]) (by simp [results, Tryz.results84, go_sem, z0, z1, z2, z3]) rfl ⟨rfl, hbz⟩
end Go.Proofs.YtlciofheonbkiaaGreat
