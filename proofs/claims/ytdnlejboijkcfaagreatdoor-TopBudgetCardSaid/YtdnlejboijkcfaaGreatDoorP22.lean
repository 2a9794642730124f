/- Texts laid together. -/
import Derived.Test.YtdnlejboijkcfaaGreatDoorP21
import Derived.Test.YtdnlejboijkcfaaGreatDoorP20
import Derived.Deep.RegionWith
import Derived.Test.YtdnlejboijkcfaaGreatDoorP03
import Derived.Test.YtdnlejboijkcfaaGreatDoorP01
/- Texts laid together: Rv3, Rv4, Rv5, Rv6. -/
/- The walk of seal.Open. -/
namespace Go.Proofs.YtdnlejboijkcfaaGreatDoor
set_option maxHeartbeats 8000000
set_option maxRecDepth 100000
open Go.RowKit Vy
theorem Vy.pre_list (s : ByteArray) (j : Nat) : (s.extract 0 j).data.toList = s.data.toList.take j := by
  rw [ByteArray.data_extract, Array.toList_extract]
  rw [List.extract_eq_take_drop, List.drop_zero, Nat.sub_zero]
def OpenP (s : ByteArray) (w : World) (e : Ending) (w' : World) : Prop :=
  Below w.heap.size w w' ∧ ((∃ er : Int, e = .returned (.tuple #[.string ⟨#[]⟩, .int .i64 er]) ∧ 1 ≤ er ∧ er ≤ 100 ∧ openS s.data.toList = none) ∨
    ∃ t : ByteArray, e = .returned (.tuple #[.string t, .int .i64 0]) ∧ openS s.data.toList = some t.data.toList ∧ t.size ≤ s.size)
theorem s_open (s : ByteArray) (w : World) (hs : s.size ≤ 200000) : Calls Tryz.prog 142 #[.string s] w (OpenP s w) := by
  have hll : s.data.toList.length = s.size := by simp
  by_cases h4 : s.size < 4
  · have P : Hid (OpenP s w (.returned (.tuple #[.string ⟨#[]⟩, .int .i64 9])) w) := ⟨Below.refl _ _, .inl ⟨9, rfl, by decide, by decide, by
      unfold openS
      rw [if_neg]
      simp only [openB, decide_eq_true_eq]
      omega⟩⟩
    have z : decide ((s.size : Int) - 4 < 0) = true := decide_eq_true (by omega)
    go_enter Tryz.func142, Tryz.ntmps142
    go_wp2_with fail
    go_ret2
    exact P.out
  · have z : decide ((s.size : Int) - 4 < 0) = false := decide_eq_false (by omega)
    have hb1 : Below w.heap.size w ((w.alloc (.cells #[.string (s.extract 0 (s.size - 4))] 9)).drew) := ((Below.refl _ _).alloc nlr _).trans (below_drewN (Below.refl w.heap.size _) 1)
    have X1 := (Blk.new w #[.string (s.extract 0 (s.size - 4))] 9)
    have q1 : ((w.alloc (.cells #[.string (s.extract 0 (s.size - 4))] 9)).drew).cell? ⟨w.heap.size, 0, none⟩ = some (.string (s.extract 0 (s.size - 4))) := X1.cell 0
    have OF := hid (s_of (w := (w.alloc (.cells #[.string (s.extract 0 (s.size - 4))] 9)).drew) (s.extract 0 (s.size - 4)) w.heap.size q1 X1.lt (by simp; omega))
    have e1 : (s.extract 0 (s.size - 4)).size = s.size - 4 := by simp
    have e2 := pre_list s (s.size - 4)
    rw [e1, e2] at OF
    obtain ⟨h1, h2⟩ := sumP_lt (a := 1) (b := 0) (t := s.data.toList.take (s.size - 4)) (by decide) (by decide) (s.size - 4)
    have SB := hid (fun W => s_bytes (w := W) h1 h2)
    have et : ((s.size : Int) - 4).toNat = s.size - 4 := by omega
    have eo : openB s.data.toList = decide (s.data.toList.drop (s.size - 4) = sbytes (sumP 1 0 (s.data.toList.take (s.size - 4)) (s.size - 4))) := by
      unfold openB
      rw [hll]
      simp only [decide_eq_decide]
      constructor
      · exact fun h => h.2
      · exact fun h => ⟨by omega, h⟩
    have ES := sub_list s (s.size - 4)
    rw [← ES] at eo
    have EO := hid eo
    have E2 := hid e2
    have E1 := hid e1
    obtain ⟨A, eA⟩ : ∃ A, (sumP 1 0 (s.data.toList.take (s.size - 4)) (s.size - 4)).1 = A := ⟨_, rfl⟩
    obtain ⟨Z, eZ⟩ : ∃ Z, (sumP 1 0 (s.data.toList.take (s.size - 4)) (s.size - 4)).2 = Z := ⟨_, rfl⟩
    have EP := hid (show sumP 1 0 (s.data.toList.take (s.size - 4)) (s.size - 4) = (A, Z) by rw [← eA, ← eZ])
    rw [eA, eZ] at OF SB
    clear eo e2 e1 ES eA eZ h1 h2 X1 q1
    by_cases ho : openB s.data.toList = true
    · have QB : (sbytes (A, Z) == (s.extract (s.size - 4) s.size).toList) = true := by
        rw [EO.out, EP.out, decide_eq_true_eq] at ho
        rw [ByteArray.toList_eq, ho]
        exact beq_self_eq_true _
      have P : Hid (∀ w', Below w.heap.size w w' → OpenP s w (.returned (.tuple #[.string (s.extract 0 (s.size - 4)), .int .i64 0])) w') := fun w' hb => ⟨hb, .inr ⟨_, rfl, by
        unfold openS
        rw [if_pos ho, E2.out, hll], by rw [E1.out]; omega⟩⟩
      clear ho EO EP E1 E2
      go_enter Tryz.func142, Tryz.ntmps142
      go_upto_region 4 with fail
      go_region_with (first | (go_at_call 124; refine OF.out.mono ?_; rintro e w2 ⟨rfl, hb2⟩) | (go_at_call 125; refine (SB.out _).mono ?_; rintro e w3 ⟨rfl, hb3⟩))
      all_goals
        have hbw := (hb1.trans (hb2.mono hb1.size)).trans (hb3.mono (hb1.trans (hb2.mono hb1.size)).size)
        clear OF SB hb1 hb2 hb3
        go_wp2_with fail
        go_ret2
        exact P.out _ hbw
    · have QB : (sbytes (A, Z) == (s.extract (s.size - 4) s.size).toList) = false := by
        rw [EO.out, EP.out, decide_eq_true_eq] at ho
        rw [ByteArray.toList_eq]
        exact beq_eq_false_iff_ne.2 (fun h => ho h.symm)
      have P : Hid (∀ w', Below w.heap.size w w' → OpenP s w (.returned (.tuple #[.string ⟨#[]⟩, .int .i64 12])) w') := fun w' hb => ⟨hb, .inl ⟨12, rfl, by decide, by decide, by
        unfold openS
        rw [if_neg ho]⟩⟩
      clear ho EO EP E1 E2
      go_enter Tryz.func142, Tryz.ntmps142
      go_upto_region 4 with fail
      go_region_with (first | (go_at_call 124; refine OF.out.mono ?_; rintro e w2 ⟨rfl, hb2⟩) | (go_at_call 125; refine (SB.out _).mono ?_; rintro e w3 ⟨rfl, hb3⟩))
      all_goals
        have hbw := (hb1.trans (hb2.mono hb1.size)).trans (hb3.mono (hb1.trans (hb2.mono hb1.size)).size)
        clear OF SB hb1 hb2 hb3
        go_wp2_with fail
        go_ret2
        exact P.out _ hbw
end Go.Proofs.YtdnlejboijkcfaaGreatDoor
/- The walks of the reader's methods. -/
namespace Go.Proofs.YtdnlejboijkcfaaGreatDoor
set_option maxHeartbeats 8000000
set_option maxRecDepth 100000
open Go.RowKit Vy
def RdSt (W : World) (r : Nat) (st : VSt) : Prop := ∃ (s : ByteArray) (er : Int), Blk W r #[.string s, .int .i64 er] 259 ∧ s.size ≤ 200000 ∧ ((er = 0 ∧ st = some s.data.toList) ∨ (1 ≤ er ∧ er ≤ 100 ∧ st = none))
theorem RdSt.lt {W : World} {r : Nat} {st : VSt} (h : RdSt W r st) : r < W.heap.size := by obtain ⟨_, _, X, -⟩ := h; exact X.lt
theorem RdSt.keep {W W' : World} {r : Nat} {st : VSt} (h : RdSt W r st) (e : W'.heap[r]? = W.heap[r]?) : RdSt W' r st := by obtain ⟨s, er, X, h1, h2⟩ := h; exact ⟨s, er, X.keep e, h1, h2⟩
theorem RdSt.below {W W' : World} {r : Nat} {st : VSt} (h : RdSt W r st) (b : Below W.heap.size W W') : RdSt W' r st := h.keep (b.block r h.lt)
def RPost (r : Nat) (st : VSt) (v : Value) (w : World) (e : Ending) (w' : World) : Prop := e = .returned v ∧ RdSt w' r st ∧ Tch r r w w'
theorem w_fail {w : World} {r : Nat} {st : VSt} (h : RdSt w r st) (b : Bool) (e' : Int) (he : b = true → 1 ≤ e' ∧ e' ≤ 100) :
    Calls Tryz.prog 202 #[.pointer (some ⟨r, 0, none⟩), .bool b, .int .i64 e'] w (RPost r (failS b st) (.tuple #[]) w) := by
  have H := hid h
  obtain ⟨s, er, X, hs, hd⟩ := h
  have c1 : w.cell? ⟨r, 1, none⟩ = some (.int .i64 er) := X.cell 1
  have f1 := X.free 1
  have X2 := X.set 1 (.int .i64 e')
  have T2 := Tch.set1 (g := r) (h := r) w 1 (.int .i64 e')
  cases b with
  | false =>
    have P : Hid (RPost r (failS false st) (.tuple #[]) w (.returned (.tuple #[])) w) := ⟨rfl, H.out, Tch.refl _ _ _⟩
    clear H hd X X2 T2
    go_enter Tryz.func202, Tryz.ntmps202
    go_wp2_with fail
    go_end0
    exact P.out
  | true =>
    obtain ⟨he1, he2⟩ := he rfl
    rcases hd with ⟨rfl, rfl⟩ | ⟨h1, h2, rfl⟩
    · have P : Hid (RPost r (failS true (some s.data.toList)) (.tuple #[]) w (.returned (.tuple #[])) (w.setCell ⟨r, 1, none⟩ (.int .i64 e'))) := ⟨rfl, ⟨s, e', X2, hs, .inr ⟨he1, he2, rfl⟩⟩, T2⟩
      clear H X X2 T2
      go_enter Tryz.func202, Tryz.ntmps202
      go_wp2_with fail
      go_end0
      exact P.out
    · have P : Hid (RPost r (failS true none) (.tuple #[]) w (.returned (.tuple #[])) w) := ⟨rfl, H.out, Tch.refl _ _ _⟩
      have z : (er == 0) = false := by simp; omega
      clear H X X2 T2
      go_enter Tryz.func202, Tryz.ntmps202
      go_wp2_with fail
      go_end0
      exact P.out
theorem failS_none (b : Bool) : failS b none = none := by cases b <;> rfl
theorem Vy.size_list (s : ByteArray) : s.data.toList.length = s.size := by simp
theorem w_raw {w : World} {r : Nat} {st : VSt} (h : RdSt w r st) (n : Nat) (hn : n ≤ 100) :
    Calls Tryz.prog 203 #[.pointer (some ⟨r, 0, none⟩), .int .i64 n] w (fun e w' => ∃ t : ByteArray, t.data.toList = rawV n st ∧ t.size ≤ n ∧ RPost r (rawS n st) (.string t) w e w') := by
  have FL := hid (fun W st (y : RdSt W r st) b e' he => w_fail y b e' he)
  have H := hid h
  obtain ⟨s, er, X, hs, hd⟩ := h
  have c0 : w.cell? ⟨r, 0, none⟩ = some (.string s) := X.cell 0
  have hsl := size_list s
  by_cases hlt : s.size < n
  · have z : decide ((s.size : Int) < (n : Int)) = true := decide_eq_true (by omega)
    have F1 := hid (FL.out w st H.out true 9 (fun _ => by decide))
    have e1 : failS true st = none := rfl
    rw [e1] at F1
    have hv : rawV n st = [] ∧ rawS n st = none := by
      rcases hd with ⟨-, rfl⟩ | ⟨-, -, rfl⟩
      · simp only [rawV, rawS]
        rw [if_neg (by omega), if_neg (by omega)]
        exact ⟨rfl, rfl⟩
      · exact ⟨rfl, rfl⟩
    rw [hv.1, hv.2]
    clear hv hd FL H X e1 hsl
    go_enter Tryz.func203, Tryz.ntmps203
    go_wp2_with fail
    refine F1.out.mono ?_
    rintro e w2 ⟨rfl, R2, t2⟩
    have R2' := hid R2
    obtain ⟨s2, er2, X2, hs2, (⟨-, hx⟩ | ⟨h1, h2, -⟩)⟩ := R2
    · cases hx
    · have c1 : w2.cell? ⟨r, 1, none⟩ = some (.int .i64 er2) := X2.cell 1
      have z2 : (er2 != 0) = true := by simp; omega
      clear X2 F1
      go_wp2_with fail
      go_ret
      exact ⟨⟨#[]⟩, rfl, Nat.zero_le _, rfl, R2'.out, t2⟩
  · have z : decide ((s.size : Int) < (n : Int)) = false := decide_eq_false (by omega)
    have F1 := hid (FL.out w st H.out false 9 (fun q => by cases q))
    have e1 : failS false st = st := rfl
    rw [e1] at F1
    clear FL e1
    rcases hd with ⟨rfl, rfl⟩ | ⟨h1, h2, rfl⟩
    · have hv : rawV n (some s.data.toList) = s.data.toList.take n ∧ rawS n (some s.data.toList) = some (s.data.toList.drop n) := by
        simp only [rawV, rawS]
        rw [if_pos (by omega), if_pos (by omega)]
        exact ⟨rfl, rfl⟩
      rw [hv.1, hv.2]
      have hn0 : (n : Int).toNat = n := Int.toNat_natCast n
      clear hv H X hsl
      go_enter Tryz.func203, Tryz.ntmps203
      go_wp2_with fail
      refine F1.out.mono ?_
      rintro e w2 ⟨rfl, R2, t2⟩
      obtain ⟨s2, er2, X2, hs2, (⟨rfl, hx⟩ | ⟨-, -, hx⟩)⟩ := R2
      · have es : s2 = s := by
          have hx := Option.some.inj hx
          rw [bs_list s2, bs_list s, ← hx]
        subst es
        have c1 : w2.cell? ⟨r, 1, none⟩ = some (.int .i64 0) := X2.cell 1
        have c0 : w2.cell? ⟨r, 0, none⟩ = some (.string s2) := X2.cell 0
        have f0 := X2.free 0
        have X3 := X2.set 0 (.string (s2.extract n s2.size))
        have t3 := t2.trans (Tch.set1 (g := r) (h := r) w2 0 (.string (s2.extract n s2.size)))
        have P : Hid (∃ t : ByteArray, t.data.toList = s2.data.toList.take n ∧ t.size ≤ n ∧ RPost r (some (s2.data.toList.drop n)) (.string t) w (.returned (.string (s2.extract 0 n))) (w2.setCell ⟨r, 0, none⟩ (.string (s2.extract n s2.size)))) :=
          ⟨_, pre_list s2 n, by simp; omega, rfl, ⟨_, 0, X3, by simp; omega, .inl ⟨rfl, by rw [sub_list]⟩⟩, t3⟩
        clear X2 X3 F1 hx t2 t3
        go_wp2_with fail
        go_ret
        exact P.out
      · cases hx
    · have hv : rawV n none = [] ∧ rawS n none = none := ⟨rfl, rfl⟩
      rw [hv.1, hv.2]
      clear hv H X hsl
      go_enter Tryz.func203, Tryz.ntmps203
      go_wp2_with fail
      refine F1.out.mono ?_
      rintro e w2 ⟨rfl, R2, t2⟩
      have R2' := hid R2
      obtain ⟨s2, er2, X2, hs2, (⟨-, hx⟩ | ⟨h1, h2, -⟩)⟩ := R2
      · cases hx
      · have c1 : w2.cell? ⟨r, 1, none⟩ = some (.int .i64 er2) := X2.cell 1
        have z2 : (er2 != 0) = true := by simp; omega
        clear X2 F1
        go_wp2_with fail
        go_ret
        exact ⟨⟨#[]⟩, rfl, Nat.zero_le _, rfl, R2'.out, t2⟩
theorem w_byte {w : World} {r : Nat} {st : VSt} (h : RdSt w r st) :
    Calls Tryz.prog 205 #[.pointer (some ⟨r, 0, none⟩)] w (RPost r (rawS 1 st) (.int .i64 (byteV st : Nat)) w) := by
  have RW := hid (w_raw h 1 (by decide))
  go_enter Tryz.func205, Tryz.ntmps205
  go_wp2_with fail
  refine RW.out.mono ?_
  rintro e w2 ⟨t, ht, hts, rfl, R2, t2⟩
  have hl := size_list t
  by_cases h0 : t.size = 0
  · have ht0 : t = ⟨#[]⟩ := by
      rw [bs_list t, List.length_eq_zero_iff.1 (hl.trans h0)]
    have P : Hid (RPost r (rawS 1 st) (.int .i64 (byteV st : Nat)) w (.returned (.int .i64 0)) w2) := ⟨by
      unfold byteV; rw [← ht, List.length_eq_zero_iff.1 (hl.trans h0)]; rfl, R2, t2⟩
    subst ht0
    clear ht R2 t2 RW hl hts h0
    go_wp2_with fail
    go_ret
    exact P.out
  · have hp : 0 < t.size := by omega
    have hne : (t.toList == []) = false := by
      rw [ByteArray.toList_eq]
      refine beq_eq_false_iff_ne.2 (fun q => ?_)
      rw [q] at hl
      simp at hl
      omega
    have hc := sdrop hp
    rw [List.drop_zero] at hc
    have P : Hid (RPost r (rawS 1 st) (.int .i64 (byteV st : Nat)) w (.returned (.int .i64 (t[0].toNat : Nat))) w2) := ⟨by
      unfold byteV; rw [← ht, hc], R2, t2⟩
    have hcb := t[0].toNat_lt
    have hw : wrap64 (t[0].toNat : Int) = t[0].toNat := IntWalk.wrap64_in _ ⟨by omega, by omega⟩
    clear ht R2 t2 RW hl hc
    go_wp2_with fail
    go_ret
    exact P.out
end Go.Proofs.YtdnlejboijkcfaaGreatDoor
/- The walks of the reader's methods: number, between, ids. -/
namespace Go.Proofs.YtdnlejboijkcfaaGreatDoor
set_option maxHeartbeats 8000000
set_option maxRecDepth 100000
open Go.RowKit Vy
theorem Vy.num_some {s r : List UInt8} {n : Nat} (h : getF s = some (n, r)) : numS (some s) = some r ∧ numV (some s) = n := by
  simp only [numS, numV, h]
  exact ⟨trivial, trivial⟩
theorem Vy.num_none {s : List UInt8} (h : getF s = none) : numS (some s) = none ∧ numV (some s) = 0 := by
  simp only [numS, numV, h]
  exact ⟨trivial, trivial⟩
theorem Vy.str_eq {s t : ByteArray} (h : s.data.toList = t.data.toList) : s = t := by rw [bs_list s, bs_list t, h]
theorem w_number {w : World} {r : Nat} {st : VSt} (h : RdSt w r st) :
    Calls Tryz.prog 206 #[.pointer (some ⟨r, 0, none⟩)] w (RPost r (numS st) (.int .i64 (numV st : Nat)) w) := by
  have H := hid h
  have GT := hid (fun (t : ByteArray) (W : World) => v_get t W)
  have FL := hid (fun W st (y : RdSt W r st) b e' he => w_fail y b e' he)
  obtain ⟨s, er, X, hs, (⟨rfl, rfl⟩ | ⟨h1, h2, rfl⟩)⟩ := h
  · have c0 : w.cell? ⟨r, 0, none⟩ = some (.string s) := X.cell 0
    have c1 : w.cell? ⟨r, 1, none⟩ = some (.int .i64 0) := X.cell 1
    clear X
    go_enter Tryz.func206, Tryz.ntmps206
    go_wp2_with fail
    refine (GT.out s w).mono ?_
    rintro e w1 ⟨rfl, (⟨er, rfl, he1, he2, hg⟩ | ⟨n, size, rfl, hsz, hsz1, hg, hnb⟩)⟩
    · obtain ⟨e1, e2⟩ := num_none hg
      have E := hid (And.intro e1 e2)
      have F1 := hid (FL.out w _ H.out true er (fun _ => ⟨he1, he2⟩))
      have z : (er != 0) = true := by simp; omega
      clear hg e1 e2 GT FL H
      go_wp2_with fail
      refine F1.out.mono ?_
      rintro e w2 ⟨rfl, ⟨s2, er2, X2, hs2, (⟨-, hx⟩ | ⟨h1, h2, -⟩)⟩, t2⟩
      · cases hx
      · have c0' : w2.cell? ⟨r, 0, none⟩ = some (.string s2) := X2.cell 0
        have f0 := X2.free 0
        have X3 := X2.set 0 (.string s2)
        have t3 := t2.trans (Tch.set1 (g := r) (h := r) w2 0 (.string s2))
        have P : Hid (RPost r (numS (some s.data.toList)) (.int .i64 (numV (some s.data.toList) : Nat)) w (.returned (.int .i64 0)) (w2.setCell ⟨r, 0, none⟩ (.string s2))) := by
          rw [E.out.1, E.out.2]
          exact ⟨rfl, ⟨_, er2, X3, hs2, .inr ⟨h1, h2, rfl⟩⟩, t3⟩
        have es : s2.extract 0 s2.size = s2 := by apply str_eq; rw [sub_list]; rfl
        clear X2 X3 t2 t3 F1
        go_wp2_with fail
        go_ret
        exact P.out
    · obtain ⟨e1, e2⟩ := num_some hg
      have E := hid (And.intro e1 e2)
      have F1 := hid (FL.out w _ H.out false 0 (fun q => by cases q))
      clear hg e1 e2 GT FL H
      go_wp2_with fail
      refine F1.out.mono ?_
      rintro e w2 ⟨rfl, ⟨s2, er2, X2, hs2, (⟨rfl, hx⟩ | ⟨-, -, hx⟩)⟩, t2⟩
      · obtain rfl : s = s2 := str_eq (Option.some.inj hx)
        have c0' : w2.cell? ⟨r, 0, none⟩ = some (.string s) := X2.cell 0
        have f0 := X2.free 0
        have X3 := X2.set 0 (.string (s.extract size s.size))
        have t3 := t2.trans (Tch.set1 (g := r) (h := r) w2 0 (.string (s.extract size s.size)))
        have P : Hid (RPost r (numS (some s.data.toList)) (.int .i64 (numV (some s.data.toList) : Nat)) w (.returned (.int .i64 n)) (w2.setCell ⟨r, 0, none⟩ (.string (s.extract size s.size)))) := by
          rw [E.out.1, E.out.2]
          exact ⟨rfl, ⟨_, 0, X3, by simp; omega, .inl ⟨rfl, by rw [sub_list]⟩⟩, t3⟩
        clear X2 X3 t2 t3 F1 hx
        go_wp2_with fail
        go_ret
        exact P.out
      · cases hx
  · have c1 : w.cell? ⟨r, 1, none⟩ = some (.int .i64 er) := X.cell 1
    have z : (er != 0) = true := by simp; omega
    have P : Hid (RPost r none (.int .i64 (0 : Nat)) w (.returned (.int .i64 0)) w) := ⟨rfl, H.out, Tch.refl _ _ _⟩
    have e1 : numS none = none ∧ numV none = 0 := ⟨rfl, rfl⟩
    rw [e1.1, e1.2]
    clear X H GT FL e1
    go_enter Tryz.func206, Tryz.ntmps206
    go_wp2_with fail
    go_ret
    exact P.out
theorem w_between {w : World} {r F : Nat} {st : VSt} (n : Nat) (a b : Int) (hent : ∀ (args : Array Value) (W : World), (callFunc F args).run Tryz.prog W = .ok (.enter F args) W)
    (hC : Calls Tryz.prog F #[.pointer (some ⟨r, 0, none⟩)] w (RPost r st (.int .i64 n) w)) :
    Calls Tryz.prog 204 #[.pointer (some ⟨r, 0, none⟩), .func (.func F) #[.pointer (some ⟨r, 0, none⟩)] #[], .int .i64 a, .int .i64 b] w (RPost r (failS (outB n a b) st) (.int .i64 n) w) := by
  have FL := hid (fun W st (y : RdSt W r st) b e' he => w_fail y b e' he)
  have CA := hid hC
  clear hC
  have key : ∀ (w2 w3 : World) (e : Ending), Tch r r w w2 → RPost r (failS (outB n a b) st) (.tuple #[]) w2 e w3 → Hid (e = .returned (.tuple #[]) ∧ RPost r (failS (outB n a b) st) (.int .i64 n) w (.returned (.int .i64 n)) w3) := fun w2 w3 e t ⟨h1, h2, h3⟩ => ⟨h1, rfl, h2, t.trans h3⟩
  have KY := hid key
  clear key
  by_cases h1 : (n : Int) < a
  · have z1 : decide ((n : Int) < a) = true := decide_eq_true h1
    have eo : outB n a b = true := by simp only [outB, z1, Bool.true_or]
    rw [eo] at KY ⊢
    go_enter Tryz.func204, Tryz.ntmps204
    go_wp2_with fail
    refine CA.out.mono ?_
    rintro e w2 ⟨rfl, R2, t2⟩
    have F1 := hid (FL.out w2 st R2 true 10 (fun _ => by decide))
    clear CA FL R2
    go_wp2_with fail
    refine F1.out.mono ?_
    intro e w3 h3
    obtain ⟨rfl, h4⟩ := (KY.out _ _ _ t2 h3).out
    have P := hid h4
    clear h3 h4 KY F1 t2
    go_wp2_with fail
    go_ret
    exact P.out
  · have z1 : decide ((n : Int) < a) = false := decide_eq_false h1
    by_cases h2 : b < (n : Int)
    · have z2 : decide (b < (n : Int)) = true := decide_eq_true h2
      have eo : outB n a b = true := by simp only [outB, z2, Bool.or_true]
      rw [eo] at KY ⊢
      go_enter Tryz.func204, Tryz.ntmps204
      go_wp2_with fail
      refine CA.out.mono ?_
      rintro e w2 ⟨rfl, R2, t2⟩
      have F1 := hid (FL.out w2 st R2 true 10 (fun _ => by decide))
      clear CA FL R2
      go_wp2_with fail
      refine F1.out.mono ?_
      intro e w3 h3
      obtain ⟨rfl, h4⟩ := (KY.out _ _ _ t2 h3).out
      have P := hid h4
      clear h3 h4 KY F1 t2
      go_wp2_with fail
      go_ret
      exact P.out
    · have z2 : decide (b < (n : Int)) = false := decide_eq_false h2
      have eo : outB n a b = false := by simp only [outB, z1, z2, Bool.or_false]
      rw [eo] at KY ⊢
      go_enter Tryz.func204, Tryz.ntmps204
      go_wp2_with fail
      refine CA.out.mono ?_
      rintro e w2 ⟨rfl, R2, t2⟩
      have F1 := hid (FL.out w2 st R2 false 10 (fun q => by cases q))
      clear CA FL R2
      go_wp2_with fail
      refine F1.out.mono ?_
      intro e w3 h3
      obtain ⟨rfl, h4⟩ := (KY.out _ _ _ t2 h3).out
      have P := hid h4
      clear h3 h4 KY F1 t2
      go_wp2_with fail
      go_ret
      exact P.out
end Go.Proofs.YtdnlejboijkcfaaGreatDoor
/- The walk of the reader's ids. -/
namespace Go.Proofs.YtdnlejboijkcfaaGreatDoor
set_option maxHeartbeats 8000000
set_option maxRecDepth 100000
open Go.RowKit Nl Vy
def Vy.idsV (most : Int) : VSt → List Int
  | none => []
  | some s => match idsF most s with
    | none => []
    | some (ids, _) => ids
def Vy.allS (l : Int) (ids : List Int) (q : List UInt8) : VSt := if ids.all (rightB l) then some q else none
def Vy.idsS (most l : Int) : VSt → VSt
  | none => none
  | some s => match idsF most s with
    | none => none
    | some (ids, q) => allS l ids q
theorem Vy.all_step {l : Int} {ids : List Int} {q : List UInt8} {j : Nat} (h : j < ids.length) : failS (!rightB l (ids.getD j 0)) (allS l (ids.take j) q) = allS l (ids.take (j + 1)) q := by
  have e : ids.getD j 0 = ids[j] := by simp [List.getD, h]
  rw [e, List.take_succ_eq_append_getElem h]
  unfold allS failS
  rw [List.all_append]
  cases h1 : (ids.take j).all (rightB l) <;> cases h2 : rightB l ids[j] <;> simp [h2]
def PartC (L K kind n : Int) (v : Value) : Array Value := #[.int .i64 L, .int .i64 K, .int .i64 kind, .int .i64 n, v]
theorem w_right {w : World} {pb : Nat} {L K kind n : Int} {v : Value} (X : Blk w pb (PartC L K kind n v) 234) (id : Int) (bL : In64 L) (bi : In64 id) :
    Calls Tryz.prog 208 #[.int .i64 id, .pointer (some ⟨pb, 0, none⟩)] w fun e w' => e = .returned (.bool (rightB L id)) ∧ w = w' := by
  have c0 : w.cell? ⟨pb, 0, none⟩ = some (.int .i64 L) := X.cell 0
  have RT := hid (twig_right L id w bL.1 bL.2 bi.1 bi.2)
  clear X
  go_enter Tryz.func208, Tryz.ntmps208
  go_wp2_with fail
  refine RT.out.mono ?_
  rintro e w2 ⟨rfl, rfl⟩
  go_wp2_with fail
  go_ret
  exact ⟨rfl, rfl⟩
def IdsPost (r : Nat) (most l : Int) (st : VSt) (w : World) (e : Ending) (w' : World) : Prop := ∃ v, e = .returned v ∧ (idsV most st).length ≤ 200000 ∧ OwnI w' w.heap.size v (idsV most st) ∧ RdSt w' r (idsS most l st) ∧ Tch r r w w'
theorem OwnI.tch {w w' : World} {B r : Nat} {v : Value} {xs : List Int} (h : OwnI w B v xs) (t : Tch r r w w') (hr : r < B) : OwnI w' B v xs :=
  h.keep fun k hk => t.block k (h.lt' k hk) (by have := h.lt k hk; omega) (by have := h.lt k hk; omega)
theorem w_ids {w : World} {r pb : Nat} {st : VSt} {L K kind n : Int} {v : Value} (h : RdSt w r st) (X : Blk w pb (PartC L K kind n v) 234) (hrp : pb ≠ r) (most : Int) (bL : In64 L) (bm : In64 most) (hm2 : most ≤ 9223372036854775807) :
    Calls Tryz.prog 207 #[.pointer (some ⟨r, 0, none⟩), .int .i64 most, .func (.func 208) #[] #[.pointer (some ⟨pb, 0, none⟩)]] w (IdsPost r most L st w) := by
  have H := hid h
  have hrl := h.lt
  have FA := hid (fun (t : ByteArray) (W : World) (ht : t.size ≤ 200000) => v_falls most t W ht bm)
  have FL := hid (fun W st (y : RdSt W r st) b e' he => w_fail y b e' he)
  have RT := hid (fun W (y : Blk W pb (PartC L K kind n v) 234) id (bi : In64 id) => w_right y id bL bi)
  have HX := hid X
  obtain ⟨s, er, X0, hs, (⟨rfl, rfl⟩ | ⟨h1, h2, rfl⟩)⟩ := h
  · have c0 : w.cell? ⟨r, 0, none⟩ = some (.string s) := X0.cell 0
    have c1 : w.cell? ⟨r, 1, none⟩ = some (.int .i64 0) := X0.cell 1
    clear X0 X
    go_enter Tryz.func207, Tryz.ntmps207
    go_wp2_with fail
    refine (FA.out s w (by omega)).mono ?_
    rintro e w1 ⟨hb1, (⟨er, rfl, he1, he2, hg⟩ | ⟨ids, vi, size, rfl, hsz, hil, own, hg⟩)⟩
    · have e1 : idsV most (some s.data.toList) = [] ∧ idsS most L (some s.data.toList) = none := by
        simp only [idsV, idsS, hg]; exact ⟨trivial, trivial⟩
      have E := hid e1
      have F1 := hid (FL.out w1 _ (H.out.below hb1) true er (fun _ => ⟨he1, he2⟩))
      have z : (er != 0) = true := by simp; omega
      clear hg e1 FA FL H RT HX c0 c1
      go_wp2_with fail
      refine F1.out.mono ?_
      rintro e w2 ⟨rfl, ⟨s2, er2, X2, hs2, (⟨-, hx⟩ | ⟨h1, h2, -⟩)⟩, t2⟩
      · cases hx
      · have c0' : w2.cell? ⟨r, 0, none⟩ = some (.string s2) := X2.cell 0
        have f0 := X2.free 0
        have X3 := X2.set 0 (.string s2)
        have t3 := ((Tch.of_below (g := r) (h := r) hb1).trans t2).trans (Tch.set1 (g := r) (h := r) w2 0 (.string s2))
        have P : Hid (IdsPost r most L (some s.data.toList) w (.returned (.slice none 0 0)) (w2.setCell ⟨r, 0, none⟩ (.string s2))) := ⟨_, rfl, by rw [E.out.1]; simp, by rw [E.out.1]; exact OwnI.nil _ _, by rw [E.out.2]; exact ⟨_, er2, X3, hs2, .inr ⟨h1, h2, rfl⟩⟩, t3⟩
        have es : s2.extract 0 s2.size = s2 := by apply str_eq; rw [sub_list]; rfl
        clear X2 X3 t2 t3 F1 E
        go_wp2_with fail
        generalize (w2.setCell ⟨r, 0, none⟩ (.string s2)) = w3 at *
        go_loopw [43] (fun i wr => i = .int .i64 0 ∧ wr = w3) (fun _ _ => 0)
        case atStart => exact ⟨rfl, rfl⟩
        case round =>
          obtain ⟨rfl, rfl⟩ := hrel
          go_wp2_with fail
          go_ret
          exact P.out
    · have e1 : idsV most (some s.data.toList) = ids ∧ idsS most L (some s.data.toList) = allS L ids (s.data.toList.drop size) := by
        simp only [idsV, idsS, hg]; exact ⟨trivial, trivial⟩
      have E := hid e1
      have IB := hid ((idsF_iff hm2).1 hg)
      have F1 := hid (FL.out w1 _ (H.out.below hb1) false 0 (fun q => by cases q))
      have Z1 := HX.out.below hb1 nlr
      have t1 := Tch.of_below (g := r) (h := r) hb1
      obtain ⟨pi, ci, rfl⟩ := own.val
      clear hg e1 FA H HX hb1 c0 c1
      go_wp2_with fail
      refine F1.out.mono ?_
      rintro e w2 ⟨rfl, ⟨s2, er2, X2, hs2, (⟨rfl, hx⟩ | ⟨-, -, hx⟩)⟩, t2⟩
      · obtain rfl : s = s2 := str_eq (Option.some.inj hx)
        have c0' : w2.cell? ⟨r, 0, none⟩ = some (.string s) := X2.cell 0
        have f0 := X2.free 0
        have X3 := X2.set 0 (.string (s.extract size s.size))
        have tz := t2.trans (Tch.set1 (g := r) (h := r) w2 0 (.string (s.extract size s.size)))
        have t3 := t1.trans tz
        have own3 := own.tch tz hrl
        have Z3 := Z1.tch tz hrp hrp
        have S3 : RdSt (w2.setCell ⟨r, 0, none⟩ (.string (s.extract size s.size))) r (allS L (ids.take 0) (s.data.toList.drop size)) := ⟨_, 0, X3, by simp; omega, .inl ⟨rfl, by rw [sub_list]; rfl⟩⟩
        clear X2 X3 t2 F1 hx t1 tz Z1 own
        go_wp2_with fail
        generalize (w2.setCell ⟨r, 0, none⟩ (.string (s.extract size s.size))) = w3 at *
        go_loopw [43] (fun i wr => ∃ j : Nat, i = .int .i64 j ∧ j ≤ ids.length ∧ RdSt wr r (allS L (ids.take j) (s.data.toList.drop size)) ∧ OwnI wr w.heap.size (.slice pi ids.length ci) ids ∧ Blk wr pb (PartC L K kind n v) 234 ∧ Tch r r w wr) (fun i _ => ids.length - (intOf i).toNat)
        case atStart => exact ⟨0, rfl, Nat.zero_le _, S3, own3, Z3, t3⟩
        case round =>
          clear S3 own3 Z3 t3
          obtain ⟨j, rfl, hj, Sr, ownr, Zr, tr⟩ := hrel
          by_cases hlt : j < ids.length
          · obtain ⟨gs, off, a, hp, hac, hgs, q0⟩ := ownr.rd.at hlt
            subst hp
            have z0 : decide ((j : Int) < (ids.length : Int)) = true := decide_eq_true (by omega)
            have st2 := all_step (l := L) (q := s.data.toList.drop size) hlt
            rw [hac] at st2
            have ba : In64 a := by
              have h1 := IB.out.2.1
              have h2 : ∀ (ids : List Int) (last : Int), 0 ≤ last → riseF last ids → ∀ x ∈ ids, 0 ≤ x ∧ x ≤ 9223372036854775807 := by
                intro ids
                induction ids with
                | nil => intro _ _ _ x hx; cases hx
                | cons y ys ih =>
                  rintro last h0 ⟨b1, b2, b3⟩ x hx
                  rcases List.mem_cons.1 hx with rfl | hx
                  · omega
                  · exact ih y (by omega) b3 x hx
              have h3 := h2 ids 0 (by omega) h1 a (by rw [← hac]; simp [List.getD, hlt])
              exact ⟨by omega, by omega⟩
            have R1 := hid (RT.out wr Zr a ba)
            have F2 := hid (FL.out wr _ Sr (!rightB L a) 10 (fun _ => by decide))
            rw [st2] at F2
            clear st2 hac
            generalize rightB L a = bb at *
            go_wp2_with fail
            refine R1.out.mono ?_
            rintro e w4 ⟨rfl, rfl⟩
            go_wp2_with fail
            refine F2.out.mono ?_
            rintro e w4 ⟨rfl, S4, t4⟩
            have own4 := ownr.tch t4 hrl
            have Z4 := Zr.tch t4 hrp hrp
            have t5 := tr.trans t4
            clear Sr ownr Zr tr t4 F2 R1 q0
            go_wp2_with fail
            go_round
            case rel => exact ⟨j + 1, by go_num, by omega, S4, own4, Z4, t5⟩
            case measure => simp [intOf]; omega
          · obtain rfl : j = ids.length := by omega
            have z0 : decide ((ids.length : Int) < (ids.length : Int)) = false := decide_eq_false (by omega)
            rw [List.take_length] at Sr
            have P : Hid (IdsPost r most L (some s.data.toList) w (.returned (.slice pi ids.length ci)) wr) := ⟨_, rfl, by rw [E.out.1]; omega, by rw [E.out.1]; exact ownr, by rw [E.out.2]; exact Sr, tr⟩
            clear Sr ownr Zr tr E IB
            go_wp2_with fail
            go_ret
            exact P.out
      · cases hx
  · have c1 : w.cell? ⟨r, 1, none⟩ = some (.int .i64 er) := X0.cell 1
    have z : (er != 0) = true := by simp; omega
    have P : Hid (IdsPost r most L none w (.returned (.slice none 0 0)) w) := ⟨_, rfl, by simp [idsV], OwnI.nil _ _, H.out, Tch.refl _ _ _⟩
    clear X H FA FL RT HX X0
    go_enter Tryz.func207, Tryz.ntmps207
    go_wp2_with fail
    go_ret
    exact P.out
end Go.Proofs.YtdnlejboijkcfaaGreatDoor
