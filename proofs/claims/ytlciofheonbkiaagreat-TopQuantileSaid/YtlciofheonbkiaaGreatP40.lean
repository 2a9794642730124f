/- Texts laid together. -/
import Derived.Test.YtlciofheonbkiaaGreatP39
import Derived.Test.YtlciofheonbkiaaGreatP07
/- The walk of sheet.Read. -/
namespace Go.Proofs.YtlciofheonbkiaaGreat
set_option maxHeartbeats 8000000
set_option maxRecDepth 100000
open Go.RowKit Nl Sh
attribute [local go_sem] Oper.semAt_some
def Ans3 (W : World) (H : Nat) (a b c : Value) : Prop := Blk W H #[a] 38 ∧ Blk W (H + 1) #[b] 3 ∧ Blk W (H + 1 + 1) #[c] 44
theorem Ans3.below {W W' : World} {H B : Nat} {a b c : Value} (h : Ans3 W H a b c) (hb : Below B W W') (hB : W.heap.size ≤ B) : Ans3 W' H a b c := ⟨h.1.below hb hB, h.2.1.below hb hB, h.2.2.below hb hB⟩
theorem Ans3.cells {W W' : World} {H : Nat} {a b c : Value} {row : Option Nat} (h : Ans3 W H a b c) (hg : W.grownBy W' row) (hr : ∀ r, row = some r → ∃ o : Obj, W.heap[r]? = some o ∧ o.isCells = false) : Ans3 W' H a b c :=
  ⟨(grownBy_keeps_cells hg hr h.1 rfl).trans h.1, (grownBy_keeps_cells hg hr h.2.1 rfl).trans h.2.1, (grownBy_keeps_cells hg hr h.2.2 rfl).trans h.2.2⟩
theorem Ans3.set_other {W : World} {H : Nat} {a b c : Value} (h : Ans3 W H a b c) {g : Nat} (j : Nat) (v : Value) (hg : H + 2 < g) : Ans3 (W.setCell ⟨g, j, none⟩ v) H a b c := ⟨h.1.set_other j v (by omega), h.2.1.set_other j v (by omega), h.2.2.set_other j v (by omega)⟩
theorem Ans3.put {W : World} {H : Nat} {a b c : Value} (h : Ans3 W H a b c) (a' b' c' : Value) : Ans3 (((W.setCell ⟨H, 0, none⟩ a').setCell ⟨H + 1, 0, none⟩ b').setCell ⟨H + 1 + 1, 0, none⟩ c') H a' b' c' :=
  ⟨((h.1.set 0 a').set_other 0 b' (by omega)).set_other 0 c' (by omega), ((h.2.1.set_other 0 a' (by omega)).set 0 b').set_other 0 c' (by omega), ((h.2.2.set_other 0 a' (by omega)).set_other 0 b' (by omega)).set 0 c'⟩
theorem Ans3.frm {W W' : World} {H B rb : Nat} {a b c : Value} (h : Ans3 W H a b c) (f : Frm B rb W W') (h1 : H + 2 < rb) (h2 : rb < B) : Ans3 W' H a b c :=
  ⟨h.1.keep (f.keep _ (by omega) (by omega)), h.2.1.keep (f.keep _ (by omega) (by omega)), h.2.2.keep (f.keep _ (by omega) (by omega))⟩
theorem OwnN.cells {W W' : World} {B : Nat} {v : Value} {xs : List Nd} {row : Option Nat} (h : OwnN W B v xs) (hg : W.grownBy W' row) (hr : ∀ r, row = some r → ∃ o : Obj, W.heap[r]? = some o ∧ o.isCells = false) : OwnN W' B v xs :=
  h.keep fun k hk => by
    have hlt := h.lt' k hk
    obtain ⟨o, ho⟩ : ∃ o, W.heap[k]? = some o := ⟨_, Array.getElem?_eq_getElem hlt⟩
    exact grownBy_keeps_cells hg hr ho (h.isC k o hk ho)
theorem Frm.of_tch {B rb : Nat} {w w' : World} (t : Tch rb rb w w') (hB : B ≤ w.heap.size) (hc : ∃ o : Obj, w.heap[rb]? = some o ∧ o.isCells = true) : Frm B rb w w' :=
  ⟨t.os, t.tape, t.output, fun k hk hn => t.block k (by omega) hn hn, ⟨t.size, fun k o hk ho => by
    refine (t.block k (Array.getElem?_eq_some_iff.1 hk).1 ?_ ?_).trans hk
    all_goals
      rintro rfl
      obtain ⟨o', h1, h2⟩ := hc
      rw [hk] at h1; cases h1; rw [ho] at h2; cases h2⟩⟩
theorem Frm.below {B rb H : Nat} {w w' : World} (f : Frm B rb w w') (h1 : H ≤ rb) (h2 : H ≤ B) : Below H w w' := ⟨f.os, f.tape, f.output, f.oth.size, fun k hk => f.keep k (by omega) (by omega)⟩
def RdLn (H : Nat) (w : World) (pre : List Ln) (W : World) : Prop :=
  ((∃ (L K left : Int) (zs : List Nd) (v : Value), runR (0, 0, 0, []) (lnL pre) = .inr (L, K, left, zs) ∧ GoodR pre.length (L, K, left, zs) ∧ Blk W (H + 1 + 1 + 1) #[.int .i64 L, .int .i64 K, .int .i64 0, .int .i64 left, v] 188 ∧ OwnN W (H + 6) v zs) ∧
    Ans3 W H (.pointer none) (.int .i64 0) (.int .i64 0) ∧ Blk W (H + 1 + 1 + 1 + 1) #[.pointer (some ⟨H + 1 + 1 + 1, 0, none⟩)] 186 ∧ H + 6 ≤ W.heap.size) ∧ Below H w W
def RdLx (H : Nat) (w : World) (pre : List Ln) (W : World) : Prop :=
  (∃ n : Nat, runR (0, 0, 0, []) (lnL pre) = .inl n ∧ Ans3 W H (.pointer none) (.int .i64 n) (.int .i64 10)) ∧ Below H w W
theorem rdI_own {H B : Nat} {w : World} (hB : H ≤ w.heap.size) (hB2 : H ≤ B) : OwnFrom B (RdLn H w) :=
  OwnFrom.and (Own.from (fun s A B' row hs hg hr => by
    obtain ⟨⟨L, K, left, zs, v, h1, h2, h3, h4⟩, h5, h6, h7⟩ := hs
    exact ⟨⟨L, K, left, zs, v, h1, h2, (grownBy_keeps_cells hg hr h3 rfl).trans h3, h4.cells hg hr⟩, h5.cells hg hr, (grownBy_keeps_cells hg hr h6 rfl).trans h6, Nat.le_trans h7 hg.size⟩) _) (ownFrom_below hB hB2)
theorem rdX_own {H B : Nat} {w : World} (hB : H ≤ w.heap.size) (hB2 : H ≤ B) : OwnFrom B (RdLx H w) :=
  OwnFrom.and (Own.from (fun s A B' row hs hg hr => by
    obtain ⟨n, h1, h2⟩ := hs
    exact ⟨n, h1, h2.cells hg hr⟩) _) (ownFrom_below hB hB2)
theorem rdI_set {H : Nat} {w : World} (pre : List Ln) (W : World) (v : Value) (h : RdLn H w pre W) : RdLn H w pre (W.setCell ⟨H + 1 + 1 + 1 + 1 + 1, 0, none⟩ v) := by
  obtain ⟨⟨⟨L, K, left, zs, u, h1, h2, h3, h4⟩, h5, h6, h8⟩, h7⟩ := h
  exact ⟨⟨⟨L, K, left, zs, u, h1, h2, h3.set_other 0 v (by omega), h4.keep (fun k hk => Below.heap_setCell W ⟨H + 1 + 1 + 1 + 1 + 1, 0, none⟩ v k (by have := h4.lt k hk; show k ≠ H + 1 + 1 + 1 + 1 + 1; omega))⟩, h5.set_other 0 v (by omega), h6.set_other 0 v (by omega), by simpa using h8⟩, h7.setCell (p := ⟨H + 1 + 1 + 1 + 1 + 1, 0, none⟩) (by show H ≤ H + 1 + 1 + 1 + 1 + 1; omega) v⟩
def rdW (w : World) (s : ByteArray) : World := ((((((w.alloc (.cells #[.pointer none] 38)).alloc (.cells #[.int .i64 0] 3)).alloc (.cells #[.int .i64 0] 44)).alloc (.cells #[.int .i64 0, .int .i64 0, .int .i64 0, .int .i64 0, .slice none 0 0] 188)).alloc (.cells #[.pointer (some ⟨w.heap.size + 1 + 1 + 1, 0, none⟩)] 186)).alloc (.cells #[.string s] 9))
theorem rdW_start (w : World) (s : ByteArray) : RdLn w.heap.size w [] (rdW w s) ∧ Blk (rdW w s) (w.heap.size + 1 + 1 + 1 + 1 + 1) #[.string s] 9 ∧ (rdW w s).heap.size = w.heap.size + 6 := by
  have n1 := Blk.new w #[.pointer none] 38
  have n2 := Blk.new (w.alloc (.cells #[.pointer none] 38)) #[.int .i64 0] 3
  have n3 := Blk.new ((w.alloc (.cells #[.pointer none] 38)).alloc (.cells #[.int .i64 0] 3)) #[.int .i64 0] 44
  have n4 := Blk.new (((w.alloc (.cells #[.pointer none] 38)).alloc (.cells #[.int .i64 0] 3)).alloc (.cells #[.int .i64 0] 44)) #[.int .i64 0, .int .i64 0, .int .i64 0, .int .i64 0, .slice none 0 0] 188
  have n5 := Blk.new ((((w.alloc (.cells #[.pointer none] 38)).alloc (.cells #[.int .i64 0] 3)).alloc (.cells #[.int .i64 0] 44)).alloc (.cells #[.int .i64 0, .int .i64 0, .int .i64 0, .int .i64 0, .slice none 0 0] 188)) #[.pointer (some ⟨w.heap.size + 1 + 1 + 1, 0, none⟩)] 186
  have n6 := Blk.new (((((w.alloc (.cells #[.pointer none] 38)).alloc (.cells #[.int .i64 0] 3)).alloc (.cells #[.int .i64 0] 44)).alloc (.cells #[.int .i64 0, .int .i64 0, .int .i64 0, .int .i64 0, .slice none 0 0] 188)).alloc (.cells #[.pointer (some ⟨w.heap.size + 1 + 1 + 1, 0, none⟩)] 186)) #[.string s] 9
  simp only [World.size_alloc] at n1 n2 n3 n4 n5 n6
  refine ⟨⟨⟨⟨0, 0, 0, [], .slice none 0 0, rfl, GoodR.zero, (n4.alloc _).alloc _, OwnN.nil _ _⟩, ⟨((((n1.alloc _).alloc _).alloc _).alloc _).alloc _, (((n2.alloc _).alloc _).alloc _).alloc _, ((n3.alloc _).alloc _).alloc _⟩, n5.alloc _, by simp [rdW]⟩, ?_⟩, n6, by simp [rdW]⟩
  exact ((((((Below.refl _ _).alloc nlr _).alloc (by simp) _).alloc (by simp; omega) _).alloc (by simp; omega) _).alloc (by simp; omega) _).alloc (by simp; omega) _
theorem ret_read {R : Ending → World → Prop} {tmps : Array Value} {W : World} {H D : Nat} {a : Option Addr} {b c : Int} (A : Ans3 W H (.pointer a) (.int .i64 b) (.int .i64 c)) (h4 : tmps.getD 4 undef = .pointer (some ⟨H, 0, none⟩)) (h5 : tmps.getD 5 undef = .pointer (some ⟨H + 1, 0, none⟩)) (h6 : tmps.getD 6 undef = .pointer (some ⟨H + 1 + 1, 0, none⟩))
    (hK : W.heap[D]? = some (.deferred (some []))) (hR : R (.returned (.tuple #[.pointer a, .int .i64 b, .int .i64 c])) (W.putObj D (.deferred none))) :
    bodyPostM Fence.wide 5 Tryz.prog Tryz.f80 R .ret ⟨tmps, [{ target := .collected D, args := #[] }]⟩ W := by
  refine ⟨by simp, .inl ⟨_, _, rfl, run_takeDeferred hK, ?_⟩⟩
  have A' := A.cells (grownBy_putObj' W D (.deferred none)) (fun r e => by cases e; exact ⟨_, hK, rfl⟩)
  have c0 : (W.putObj D (.deferred none)).cell? ⟨H, 0, none⟩ = some (.pointer a) := A'.1.cell 0
  have c1 : (W.putObj D (.deferred none)).cell? ⟨H + 1, 0, none⟩ = some (.int .i64 b) := A'.2.1.cell 0
  have c2 : (W.putObj D (.deferred none)).cell? ⟨H + 1 + 1, 0, none⟩ = some (.int .i64 c) := A'.2.2.cell 0
  have h4' : tmps[4]?.getD undef = .pointer (some ⟨H, 0, none⟩) := by simpa using h4
  have h5' : tmps[5]?.getD undef = .pointer (some ⟨H + 1, 0, none⟩) := by simpa using h5
  have h6' : tmps[6]?.getD undef = .pointer (some ⟨H + 1 + 1, 0, none⟩) := by simpa using h6
  exact ⟨_, by simp [results, Tryz.f80, h4', h5', h6', go_sem, c0, c1, c2], hR⟩
theorem below_put {H D : Nat} {w W : World} (h : Below H w W) (hH : H ≤ w.heap.size) (hD : w.heap.size ≤ D) (hK : W.heap[D]? = some (.deferred (some []))) : Below H w (W.putObj D (.deferred none)) :=
  h.trans ((belowK_b (w := w) (n₀ := H) hH W D _ _ hD hK rfl rfl))
def ReadSh (kind : Int) (s : List UInt8) (w : World) (e : Ending) (w' : World) : Prop :=
  (∃ (n : Nat) (er : Int), readV s = .inl (n, er) ∧ e = .returned (.tuple #[.pointer none, .int .i64 n, .int .i64 er]) ∧ Below w.heap.size w w') ∨
  ∃ (L K : Int) (zs : List Nd), readV s = .inr (L, K, zs) ∧
    ((poolIs kind L = false ∧ e = .returned (.tuple #[.pointer none, .int .i64 0, .int .i64 2]) ∧ Below w.heap.size w w') ∨
     (poolIs kind L = true ∧ ∃ dg q g h, e = .returned (.tuple #[.pointer (some ⟨dg, 0, none⟩), .int .i64 0, .int .i64 0]) ∧ DgV w' dg q g h kind L K 20000 zs ∧ w.heap.size ≤ dg ∧ w.heap.size ≤ q ∧ w.heap.size ≤ g ∧ w.heap.size ≤ h ∧ Below w.heap.size w w'))
def DigOut (kind L K : Int) (zs : List Nd) (H : Nat) (a : Option Addr) (er : Int) (w' : World) : Prop :=
  (poolIs kind L = false ∧ a = none ∧ er = 2) ∨ (poolIs kind L = true ∧ er = 0 ∧ ∃ dg q g h, a = some ⟨dg, 0, none⟩ ∧ DgV w' dg q g h kind L K 20000 zs ∧ H ≤ dg ∧ H ≤ q ∧ H ≤ g ∧ H ≤ h)
theorem DigOut.keep {kind L K er : Int} {zs : List Nd} {H : Nat} {a : Option Addr} {w' w'' : World} (h : DigOut kind L K zs H a er w') (hk : ∀ k, H ≤ k → w''.heap[k]? = w'.heap[k]?) : DigOut kind L K zs H a er w'' := by
  rcases h with h | ⟨h1, h2, dg, q, g, hh, h3, d, b1, b2, b3, b4⟩
  · exact .inl h
  · refine .inr ⟨h1, h2, dg, q, g, hh, h3, d.keepB (fun j _ hj => hk j ?_), b1, b2, b3, b4⟩
    rcases hj with rfl | rfl | rfl | rfl <;> assumption
theorem read_load {w : World} {v : Value} {zs : List Nd} (kind L K : Int) (hr : RdN w v zs) (hn : NB zs) (hl : zs.length ≤ 19999) (bL : In64 L) (bK : In64 K) (h0 : loadE 2 L K zs = 0) :
    Calls Tryz.prog 77 #[.agg #[.int .i64 L, .int .i64 K, .int .i64 kind], v] w fun e w' => ∃ (a : Option Addr) (er : Int), e = .returned (.tuple #[.pointer a, .int .i64 er]) ∧ Below w.heap.size w w' ∧ DigOut kind L K zs w.heap.size a er w' := by
  have inv := load_inv h0
  have LK := load_kind (kind := kind) h0
  cases hp : poolIs kind L with
  | true =>
    refine (dg_load kind L K hr hn hl (by rw [LK, hp]; rfl)).mono ?_
    rintro e w3 ⟨dg, q, g, h, rfl, d, e1, e2, e3, e4, hb3⟩
    exact ⟨_, _, rfl, hb3, .inr ⟨hp, rfl, dg, q, g, h, rfl, d, e1, e2, e3, e4⟩⟩
  | false =>
    have e2 : loadE kind L K zs = 2 := by rw [LK, hp]; rfl
    refine (dg_load_no kind L K hr hn hl bL bK (by rw [e2]; decide)).mono ?_
    rintro e w3 ⟨rfl, hb3⟩
    exact ⟨_, _, rfl, hb3, .inl ⟨hp, rfl, e2⟩⟩
theorem s_read (s : ByteArray) (kind : Int) (w : World) (hs : s.size ≤ 900000) (hz : ∀ st, runR (0, 0, 0, []) (linesF 1 s.data.toList) = .inr st → st.2.2.2.length ≤ 19999) :
    Calls Tryz.prog 80 #[.string s, .int .i64 kind] w (ReadSh kind s.data.toList w) := by
  refine (callsIn_wide (n := 5)).1 ?_
  refine callsIn_of_wp_marks Tryz.func80 rfl trivial ?_ rfl
  simp only [Tryz.ntmps80, List.size_toArray, List.length_cons, List.length_nil, Nat.reduceAdd, Nat.reduceSub, Array.replicate_succ, Array.replicate_zero, List.push_toArray, List.append_toArray, List.nil_append, List.cons_append]
  have LN := hid (fun W : World => l_lines s W)
  by_cases hs0 : s.data.toList = []
  · have z0 : s.toList = [] := by rw [ByteArray.toList_eq]; exact hs0
    have P : Hid (readV s.data.toList = .inl (1, 10)) := by show _ = _; unfold readV; rw [if_pos hs0]
    clear hs0
    have z1 : s.toList.isEmpty = true := by rw [z0]; rfl
    gi_wp2_with fail
    have n1 := ((((Blk.new w #[.pointer none] 38).alloc (.cells #[.int .i64 1] 3)).alloc (.cells #[.int .i64 10] 44)).alloc (.cells #[.int .i64 0, .int .i64 0, .int .i64 0, .int .i64 0, .slice none 0 0] 188)).alloc (.cells #[.pointer (some ⟨w.heap.size + 1 + 1 + 1, 0, none⟩)] 186)
    have n2 := (((Blk.new (w.alloc (.cells #[.pointer none] 38)) #[.int .i64 1] 3).alloc (.cells #[.int .i64 10] 44)).alloc (.cells #[.int .i64 0, .int .i64 0, .int .i64 0, .int .i64 0, .slice none 0 0] 188)).alloc (.cells #[.pointer (some ⟨w.heap.size + 1 + 1 + 1, 0, none⟩)] 186)
    have n3 := ((Blk.new ((w.alloc (.cells #[.pointer none] 38)).alloc (.cells #[.int .i64 1] 3)) #[.int .i64 10] 44).alloc (.cells #[.int .i64 0, .int .i64 0, .int .i64 0, .int .i64 0, .slice none 0 0] 188)).alloc (.cells #[.pointer (some ⟨w.heap.size + 1 + 1 + 1, 0, none⟩)] 186)
    simp only [World.size_alloc] at n2 n3
    have c0 := n1.cell 0
    have c1 := n2.cell 0
    have c2 := n3.cell 0
    refine ⟨.tuple #[.pointer none, .int .i64 1, .int .i64 10], by simp [results, Tryz.f80, go_sem, c0, c1, c2], .inl ⟨1, 10, P.out, rfl, ?_⟩⟩
    exact ((((((Below.refl _ _).alloc nlr _).alloc (by simp) _).alloc (by simp; omega) _).alloc (by simp; omega) _).alloc (by simp; omega) _)
  · have z0 : s.toList.isEmpty = false := by rw [ByteArray.toList_eq]; simpa using hs0
    have H0 := hid hs0
    clear hs0
    gi_wp2_with (refine ⟨trivial, ?_⟩; gi_at_call 133; refine (callsIn_wide.2 (LN.out _)).mono ?_; rintro e W2 ⟨rfl, rfl⟩)
    obtain ⟨I0, B0, hsz⟩ := rdW_start w s
    have LS := lines_stops 4 (by decide) hs B0
    unfold rdW at I0 B0 hsz LS
    generalize ((((((w.alloc (.cells #[.pointer none] 38)).alloc (.cells #[.int .i64 0] 3)).alloc (.cells #[.int .i64 0] 44)).alloc (.cells #[.int .i64 0, .int .i64 0, .int .i64 0, .int .i64 0, .slice none 0 0] 188)).alloc (.cells #[.pointer (some ⟨w.heap.size + 1 + 1 + 1, 0, none⟩)] 186)).alloc (.cells #[.string s] 9)) = w0 at *
    refine wpIn_range_box (gf := 189) (b := w.heap.size + 1 + 1 + 1 + 1 + 1) rfl (enters_of Tryz.func189 (by kernel_rfl) rfl) LS (by omega) (fun _ => rfl)
      (RdLn w.heap.size w) (RdLx w.heap.size w) (rdI_own nlr (by omega)) (rdX_own nlr (by omega)) (fun pre W v h => rdI_set pre W v h) I0
      (fun x : Ln => { tmps := #[.string s, .int .i64 kind, undef, undef, .pointer (some ⟨w.heap.size, 0, none⟩), .pointer (some ⟨w.heap.size + 1, 0, none⟩), .pointer (some ⟨w.heap.size + 1 + 1, 0, none⟩), .pointer (some ⟨w.heap.size + 1 + 1 + 1 + 1, 0, none⟩), .int .i64 x.1.1, .string x.1.2, undef, undef, .agg #[.int .i64 0, .int .i64 0, .int .i64 0, .int .i64 0, .slice none 0 0], .pointer (some ⟨w.heap.size + 1 + 1 + 1, 0, none⟩), .string s, .bool false, .string s, .func (.func 189) #[] #[.pointer (some ⟨w.heap.size + 1 + 1 + 1 + 1 + 1, 0, none⟩)], .int .i64 x.1.1, .string x.1.2, undef, undef, undef, undef, undef, undef, undef, undef, undef, undef, undef, undef, undef, undef, undef, undef, undef, undef, undef, undef, undef, undef, undef, undef, undef, undef, undef, undef, undef, undef, undef, undef, undef, undef, undef], defers := [] }) ?assign ?body ?done ?stop
    case assign =>
      intro l x W K hK
      gi_wp2
      exact hK
    case body =>
      rintro l pre ⟨⟨n, t⟩, hn1, hn2⟩ W ⟨⟨⟨L, K, left, zs, v, hrun, good, X, own⟩, ans, P, hW6⟩, hB⟩ hlen
      dsimp only at hn1 hn2
      have p0 : W.cell? ⟨w.heap.size + 1 + 1 + 1 + 1, 0, none⟩ = some (.pointer (some ⟨w.heap.size + 1 + 1 + 1, 0, none⟩)) := P.cell 0
      have hlt := P.lt
      have ELN : lnL (pre ++ [(⟨(n, t), hn1, hn2⟩ : Ln)]) = lnL pre ++ [(n, t.data.toList)] := lnL_snoc pre ⟨(n, t), hn1, hn2⟩
      have ERUN := runR_snoc (lnL pre) _ _ (n, t.data.toList) hrun
      rw [← ELN] at ERUN
      by_cases hn : n = 1
      · subst hn
        dsimp only at ERUN ⊢
        have GS : ∀ st', stepR (L, K, left, zs) 1 t.data.toList = some st' → GoodR (pre ++ [(⟨(1, t), hn1, hn2⟩ : Ln)]).length st' := fun st' h => by
          have := good.step h; simpa using this
        have HG := hid GS
        have HD := hid (l_head X t hn2)
        obtain ⟨hk, ehk⟩ : ∃ x, headOk t.data.toList = x := ⟨_, rfl⟩
        rw [ehk] at HD
        have ES : stepR (L, K, left, zs) 1 t.data.toList = (if hk = true then some (((thr0 t.data.toList tDig : Nat) : Int), ((thr1 t.data.toList tDig [32] : Nat) : Int), ((thr2 t.data.toList tDig [32] [32] : Nat) : Int), zs) else none : Option Sh.St) := by unfold stepR; rw [if_pos rfl, ehk]
        rw [ES] at ERUN HG
        have HR := hid ERUN
        clear hrun ELN ERUN ES ehk GS good
        have hcX : ∃ o : Obj, W.heap[w.heap.size + 1 + 1 + 1]? = some o ∧ o.isCells = true := ⟨_, X, rfl⟩
        cases hk
        · have EX : Hid (∀ W4, Ans3 W4 w.heap.size (.pointer none) (.int .i64 ((1 : Nat) : Int)) (.int .i64 10) → Below w.heap.size w W4 → RdLx w.heap.size w (pre ++ [(⟨(1, t), hn1, hn2⟩ : Ln)]) W4) := fun W4 h1 h2 => ⟨⟨1, HR.out, h1⟩, h2⟩
          clear HR HG X own
          gi_wp2_with (refine ⟨trivial, ?_⟩; gi_at_call 134; refine (CallsIn.inRound l (callsIn_wide.2 HD.out)).mono ?_; rintro e W3 ⟨rfl, X3, t3⟩; have f3 := Frm.of_tch (B := w.heap.size + 6) t3 hW6 hcX; have a3 := ans.frm f3 (by omega) (by omega); have q0 : W3.cell? ⟨w.heap.size, 0, none⟩ = some (.pointer none) := a3.1.cell 0; have q1 : W3.cell? ⟨w.heap.size + 1, 0, none⟩ = some (.int .i64 0) := a3.2.1.cell 0; have q2 : W3.cell? ⟨w.heap.size + 1 + 1, 0, none⟩ = some (.int .i64 0) := a3.2.2.cell 0; have g0 := a3.1.free 0; have g1 := a3.2.1.free 0; have g2 := a3.2.2.free 0)
          refine ⟨(f3.oth.trans (((KeepsOthers.setCell _ _ _).trans (KeepsOthers.setCell _ _ _)).trans (KeepsOthers.setCell _ _ _))).from _, EX.out _ (a3.put _ _ _) ?_⟩
          exact (((hB.trans (f3.below (by omega) (by omega))).setCell (p := ⟨w.heap.size, 0, none⟩) nlr _).setCell (p := ⟨w.heap.size + 1, 0, none⟩) (by simp) _).setCell (p := ⟨w.heap.size + 1 + 1, 0, none⟩) (by show _ ≤ w.heap.size + 1 + 1; omega) _
        · have HQ := hid (And.intro HR.out (HG.out _ (if_pos rfl)))
          have OW := hid own
          clear HR HG own
          gi_wp2_with (refine ⟨trivial, ?_⟩; gi_at_call 134; refine (CallsIn.inRound l (callsIn_wide.2 HD.out)).mono ?_; rintro e W3 ⟨rfl, X3, t3⟩; have f3 := Frm.of_tch (B := w.heap.size + 6) t3 hW6 hcX)
          refine ⟨f3.oth.from _, f3.keep _ (by omega) (by omega), ⟨⟨_, _, _, _, _, HQ.out.1, HQ.out.2, X3, OW.out.keep (fun k hk => t3.block k (OW.out.lt' k hk) (by have := OW.out.lt k hk; omega) (by have := OW.out.lt k hk; omega))⟩, ans.frm f3 (by omega) (by omega), P.keep (f3.keep _ (by omega) (by omega)), ?_⟩, hB.trans (f3.below (by omega) (by omega))⟩
          have := f3.oth.size; omega
      · have zn : ((n : Int) == 1) = false := by simp; omega
        have zn2 : (n == 1) = false := by simp; omega
        dsimp only at ERUN ⊢
        have GS : ∀ st', stepR (L, K, left, zs) n t.data.toList = some st' → GoodR (pre ++ [(⟨(n, t), hn1, hn2⟩ : Ln)]).length st' := fun st' h => by
          have := good.step h; simpa using this
        have HG := hid GS
        obtain ⟨bL, bl, nb, hzl⟩ := good
        dsimp only at bL bl nb hzl
        have ND := l_node X own hW6 (by omega) (by omega) bL ⟨by omega, by omega⟩ t hn2
        have ES : stepR (L, K, left, zs) n t.data.toList = (if nodeOk L left zs t.data.toList = true then some (L, K, left - ndN t.data.toList, zs ++ [(ndI L t.data.toList, ndN t.data.toList)]) else none : Option Sh.St) := by unfold stepR; rw [if_neg hn]
        rw [ES] at ERUN HG
        cases hk : nodeOk L left zs t.data.toList
        · rw [hk] at ERUN
          have EX : Hid (∀ W4, Ans3 W4 w.heap.size (.pointer none) (.int .i64 (n : Int)) (.int .i64 10) → Below w.heap.size w W4 → RdLx w.heap.size w (pre ++ [(⟨(n, t), hn1, hn2⟩ : Ln)]) W4) := fun W4 h1 h2 => ⟨⟨n, ERUN, h1⟩, h2⟩
          have HD := hid (ND.mono (R' := fun e W3 => e = .returned (.bool false) ∧ Below W.heap.size W W3) (by
            rintro e W3 (⟨-, rfl, h⟩ | ⟨h, -⟩)
            · exact ⟨rfl, h⟩
            · rw [hk] at h; cases h))
          clear ND HG X own ERUN ES hk hrun ELN hn
          gi_wp2_with (refine ⟨trivial, ?_⟩; gi_at_call 135; refine (CallsIn.inRound l (callsIn_wide.2 HD.out)).mono ?_; rintro e W3 ⟨rfl, hb3⟩; have f3 := Frm.of_below (B := w.heap.size + 6) (rb := w.heap.size + 1 + 1 + 1) hb3 hW6; have a3 := ans.frm f3 (by omega) (by omega); have q0 : W3.cell? ⟨w.heap.size, 0, none⟩ = some (.pointer none) := a3.1.cell 0; have q1 : W3.cell? ⟨w.heap.size + 1, 0, none⟩ = some (.int .i64 0) := a3.2.1.cell 0; have q2 : W3.cell? ⟨w.heap.size + 1 + 1, 0, none⟩ = some (.int .i64 0) := a3.2.2.cell 0; have g0 := a3.1.free 0; have g1 := a3.2.1.free 0; have g2 := a3.2.2.free 0)
          refine ⟨(f3.oth.trans (((KeepsOthers.setCell _ _ _).trans (KeepsOthers.setCell _ _ _)).trans (KeepsOthers.setCell _ _ _))).from _, EX.out _ (a3.put _ _ _) ?_⟩
          exact (((hB.trans (f3.below (by omega) (by omega))).setCell (p := ⟨w.heap.size, 0, none⟩) nlr _).setCell (p := ⟨w.heap.size + 1, 0, none⟩) (by simp) _).setCell (p := ⟨w.heap.size + 1 + 1, 0, none⟩) (by show _ ≤ w.heap.size + 1 + 1; omega) _
        · rw [hk] at ERUN
          have HQ := hid (And.intro ERUN (HG.out _ (if_pos hk)))
          have HD := hid (ND.mono (R' := fun e W3 => e = .returned (.bool true) ∧ ∃ u, Blk W3 (w.heap.size + 1 + 1 + 1) #[.int .i64 L, .int .i64 K, .int .i64 0, .int .i64 (left - ndN t.data.toList), u] 188 ∧ OwnN W3 (w.heap.size + 6) u (zs ++ [(ndI L t.data.toList, ndN t.data.toList)]) ∧ Frm (w.heap.size + 6) (w.heap.size + 1 + 1 + 1) W W3) (by
            rintro e W3 (⟨h, -⟩ | ⟨-, rfl, u, h⟩)
            · rw [hk] at h; cases h
            · exact ⟨rfl, u, h⟩))
          clear ND HG X own ERUN ES hk hrun ELN hn
          gi_wp2_with (refine ⟨trivial, ?_⟩; gi_at_call 135; refine (CallsIn.inRound l (callsIn_wide.2 HD.out)).mono ?_; rintro e W3 ⟨rfl, u, X3, o3, f3⟩)
          refine ⟨f3.oth.from _, f3.keep _ (by omega) (by omega), ⟨⟨_, _, _, _, _, HQ.out.1, HQ.out.2, X3, o3⟩, ans.frm f3 (by omega) (by omega), P.keep (f3.keep _ (by omega) (by omega)), ?_⟩, hB.trans (f3.below (by omega) (by omega))⟩
          have := f3.oth.size; omega
    case stop =>
      rintro D pre W hD ⟨r, hr⟩ ⟨⟨n, hn, A⟩, hB⟩ hK
      have P : Hid (readV s.data.toList = .inl (n, 10)) := by
        show _ = _
        unfold readV
        rw [if_neg H0.out, ← hr, runR_app _ _ _ _ hn]
      gi_wp2
      refine ret_read A rfl rfl rfl hK (.inl ⟨n, 10, P.out, rfl, below_put hB nlr (by omega) hK⟩)
    case done =>
      rintro D ys W hD hys ⟨⟨⟨L, K, left, zs, v, hrun, good, X, own⟩, ans, P, hW6⟩, hB⟩ hK
      rw [hys] at hrun
      obtain ⟨hpL, hkK⟩ := run_end H0.out hrun
      have hzl := hz _ hrun
      dsimp only at hpL hkK hzl
      have hDW : D < W.heap.size := (Array.getElem?_eq_some_iff.1 hK).1
      have EN := l_end X own.rd good.nb (by show zs.length ≤ _; omega) hpL hkK
      have p0 : W.cell? ⟨w.heap.size + 1 + 1 + 1 + 1, 0, none⟩ = some (.pointer (some ⟨w.heap.size + 1 + 1 + 1, 0, none⟩)) := P.cell 0
      have EV : Hid (readV s.data.toList = if endV L K left zs = 0 then .inr (L, K, zs) else .inl (0, endV L K left zs)) := by
        show _ = _
        unfold readV
        rw [if_neg H0.out, hrun]
      have hok : endV L K left zs = 0 → loadE 2 L K zs = 0 := fun h => by
        unfold endV at h
        split at h
        · cases h
        · exact h
      obtain ⟨er, eer⟩ : ∃ x, endV L K left zs = x := ⟨_, rfl⟩
      rw [eer] at EN EV hok
      have HE := hid EN
      clear EN hrun hys eer
      by_cases h0 : er = 0
      · subst h0
        have hl2 := hok rfl
        have PV : Hid (readV s.data.toList = .inr (L, K, zs)) := by show _ = _; rw [EV.out, if_pos rfl]
        have bK : In64 K := by simp only [isK, decide_eq_true_eq] at hkK; exact ⟨by omega, by omega⟩
        have bL := good.bL
        dsimp only at bL
        have nb := hid good.nb
        obtain ⟨p, cap, rfl⟩ := own.val
        have LD := hid (fun W4 (q : RdN W4 (.slice p zs.length cap) zs) => read_load kind L K q nb.out hzl bL bK hl2)
        have X0 := hid (And.intro X (And.intro own (And.intro ans P)))
        clear EV hok hl2 hpL hkK good ans X own P
        gi_wp2_with (refine ⟨trivial, ?_⟩; gi_at_call 136; refine (callsIn_wide.2 HE.out).mono ?_; rintro e W3 ⟨rfl, hb3⟩; have X3 := X0.out.1.below hb3 nlr; have P3 := X0.out.2.2.2.below hb3 nlr; have p3 : W3.cell? ⟨w.heap.size + 1 + 1 + 1 + 1, 0, none⟩ = some (.pointer (some ⟨w.heap.size + 1 + 1 + 1, 0, none⟩)) := P3.cell 0; have x2 : W3.cell? ⟨w.heap.size + 1 + 1 + 1, 2, none⟩ = some (.int .i64 0) := X3.cell 2; have f2 := X3.free 2)
        refine wpIn_wide.2 ?_
        have X4 : Blk (W3.setCell ⟨w.heap.size + 1 + 1 + 1, 2, none⟩ (.int .i64 kind)) (w.heap.size + 1 + 1 + 1) #[.int .i64 L, .int .i64 K, .int .i64 kind, .int .i64 left, .slice p zs.length cap] 188 := X3.set 2 (.int .i64 kind)
        have P4 := P3.set_other (g' := w.heap.size + 1 + 1 + 1) 2 (.int .i64 kind) (by omega)
        have A4 := (X0.out.2.2.1.below hb3 nlr).set_other (g := w.heap.size + 1 + 1 + 1) 2 (.int .i64 kind) (by omega)
        have O3 := X0.out.2.1.below hb3 nlr
        have O4 := O3.keep (fun k hk => Below.heap_setCell W3 ⟨w.heap.size + 1 + 1 + 1, 2, none⟩ (.int .i64 kind) k (by have := O3.lt k hk; show k ≠ w.heap.size + 1 + 1 + 1; omega))
        have hB4 : Below w.heap.size w (W3.setCell ⟨w.heap.size + 1 + 1 + 1, 2, none⟩ (.int .i64 kind)) := (hB.trans (hb3.mono (by omega))).setCell (p := ⟨w.heap.size + 1 + 1 + 1, 2, none⟩) (by show _ ≤ w.heap.size + 1 + 1 + 1; omega) _
        have hK4 := (KeepsOthers.setCell W3 ⟨w.heap.size + 1 + 1 + 1, 2, none⟩ (.int .i64 kind)).same D _ ((hb3.block D hDW).trans hK) rfl
        have hs4 : W.heap.size ≤ (W3.setCell ⟨w.heap.size + 1 + 1 + 1, 2, none⟩ (.int .i64 kind)).heap.size := by simpa using hb3.size
        clear O3 X3 P3 p3 x2 f2 hb3 HE X0 hK p0 hB LS B0 I0 LN
        generalize W3.setCell ⟨w.heap.size + 1 + 1 + 1, 2, none⟩ (.int .i64 kind) = W4 at *
        have FX := hid (fun W5 (q : Below W4.heap.size W4 W5) => (show W5.cell? ⟨w.heap.size + 1 + 1 + 1 + 1, 0, none⟩ = some (.pointer (some ⟨w.heap.size + 1 + 1 + 1, 0, none⟩)) ∧ W5.cell? ⟨w.heap.size + 1 + 1 + 1, 0, none⟩ = some (.int .i64 L) ∧ W5.cell? ⟨w.heap.size + 1 + 1 + 1, 1, none⟩ = some (.int .i64 K) ∧ W5.cell? ⟨w.heap.size + 1 + 1 + 1, 2, none⟩ = some (.int .i64 kind) ∧ W5.cell? ⟨w.heap.size + 1 + 1 + 1, 4, none⟩ = some (.slice p zs.length cap) from
          ⟨(P4.below q nlr).cell 0, (X4.below q nlr).cell 0, (X4.below q nlr).cell 1, (X4.below q nlr).cell 2, (X4.below q nlr).cell 4⟩))
        have FS := hid (fun (W5 : World) (g : Nat) (u : Value) (hg : g ≤ w.heap.size + 1 + 1) (hh : W5.cell? ⟨w.heap.size + 1 + 1 + 1 + 1, 0, none⟩ = some (.pointer (some ⟨w.heap.size + 1 + 1 + 1, 0, none⟩)) ∧ W5.cell? ⟨w.heap.size + 1 + 1 + 1, 0, none⟩ = some (.int .i64 L) ∧ W5.cell? ⟨w.heap.size + 1 + 1 + 1, 1, none⟩ = some (.int .i64 K) ∧ W5.cell? ⟨w.heap.size + 1 + 1 + 1, 2, none⟩ = some (.int .i64 kind) ∧ W5.cell? ⟨w.heap.size + 1 + 1 + 1, 4, none⟩ = some (.slice p zs.length cap)) =>
          (show (W5.setCell ⟨g, 0, none⟩ u).cell? ⟨w.heap.size + 1 + 1 + 1 + 1, 0, none⟩ = some (.pointer (some ⟨w.heap.size + 1 + 1 + 1, 0, none⟩)) ∧ (W5.setCell ⟨g, 0, none⟩ u).cell? ⟨w.heap.size + 1 + 1 + 1, 0, none⟩ = some (.int .i64 L) ∧ (W5.setCell ⟨g, 0, none⟩ u).cell? ⟨w.heap.size + 1 + 1 + 1, 1, none⟩ = some (.int .i64 K) ∧ (W5.setCell ⟨g, 0, none⟩ u).cell? ⟨w.heap.size + 1 + 1 + 1, 2, none⟩ = some (.int .i64 kind) ∧ (W5.setCell ⟨g, 0, none⟩ u).cell? ⟨w.heap.size + 1 + 1 + 1, 4, none⟩ = some (.slice p zs.length cap) from by
            have key : ∀ (b o : Nat) (v : Value), g ≠ b → W5.cell? ⟨b, o, none⟩ = some v → (W5.setCell ⟨g, 0, none⟩ u).cell? ⟨b, o, none⟩ = some v := fun b o v hne hc => (World.cell?_of_block (a := ⟨b, o, none⟩) (Below.heap_setCell W5 ⟨g, 0, none⟩ u b (Ne.symm hne))).trans hc
            exact ⟨key _ _ _ (by omega) hh.1, key _ _ _ (by omega) hh.2.1, key _ _ _ (by omega) hh.2.2.1, key _ _ _ (by omega) hh.2.2.2.1, key _ _ _ (by omega) hh.2.2.2.2⟩))
        have LD4 := hid (LD.out W4.drew (O4.drewN 1).rd)
        have hB0 := Below.refl W4.heap.size W4
        clear LD X4 P4
        go_region_held3 (fun W5 => W5.cell? ⟨w.heap.size + 1 + 1 + 1 + 1, 0, none⟩ = some (.pointer (some ⟨w.heap.size + 1 + 1 + 1, 0, none⟩)) ∧ W5.cell? ⟨w.heap.size + 1 + 1 + 1, 0, none⟩ = some (.int .i64 L) ∧ W5.cell? ⟨w.heap.size + 1 + 1 + 1, 1, none⟩ = some (.int .i64 K) ∧ W5.cell? ⟨w.heap.size + 1 + 1 + 1, 2, none⟩ = some (.int .i64 kind) ∧ W5.cell? ⟨w.heap.size + 1 + 1 + 1, 4, none⟩ = some (.slice p zs.length cap))
          (first
            | exact FX.out _ (below_drewN hB0 1)
            | exact FX.out _ hb5
            | exact FS.out _ _ _ (by omega) (by assumption))
          ((go_at_call 77; refine LD4.out.mono ?_; rintro e W5 ⟨a, er, rfl, hb5', DG⟩; have hb5 : Below W4.heap.size W4 W5 := (below_drewN hB0 1).trans hb5'; have A5 := (A4.below hb5 nlr); have q0 : W5.cell? ⟨w.heap.size, 0, none⟩ = some (.pointer none) := A5.1.cell 0; have q2 : W5.cell? ⟨w.heap.size + 1 + 1, 0, none⟩ = some (.int .i64 0) := A5.2.2.cell 0; have g0 := A5.1.free 0; have g2 := A5.2.2.free 0))
        have A6 : Ans3 ((W5.setCell ⟨w.heap.size, 0, none⟩ (.pointer a)).setCell ⟨w.heap.size + 1 + 1, 0, none⟩ (.int .i64 er)) w.heap.size (.pointer a) (.int .i64 0) (.int .i64 er) :=
          ⟨(A5.1.set 0 _).set_other 0 _ (by omega), (A5.2.1.set_other 0 _ (by omega)).set_other 0 _ (by omega), (A5.2.2.set_other 0 _ (by omega)).set 0 _⟩
        have hB6 := ((hB4.trans (hb5.mono hB4.size)).setCell (p := ⟨w.heap.size, 0, none⟩) nlr (.pointer a)).setCell (p := ⟨w.heap.size + 1 + 1, 0, none⟩) (by show _ ≤ w.heap.size + 1 + 1; omega) (.int .i64 er)
        have hK6 := ((KeepsOthers.setCell W5 ⟨w.heap.size, 0, none⟩ (.pointer a)).trans (KeepsOthers.setCell _ ⟨w.heap.size + 1 + 1, 0, none⟩ (.int .i64 er))).same D _ ((hb5.block D (by omega)).trans hK4) rfl
        have DG6 : DigOut kind L K zs W4.heap.size a er ((W5.setCell ⟨w.heap.size, 0, none⟩ (.pointer a)).setCell ⟨w.heap.size + 1 + 1, 0, none⟩ (.int .i64 er)) := DG.keep (fun k hk => by
          have hk : W4.heap.size ≤ k := hk
          exact (Below.heap_setCell _ ⟨w.heap.size + 1 + 1, 0, none⟩ _ k (by show k ≠ w.heap.size + 1 + 1; omega)).trans (Below.heap_setCell _ ⟨w.heap.size, 0, none⟩ _ k (by show k ≠ w.heap.size; omega)))
        clear A5 A4 q0 q2 g0 g2 hb5 hb5' DG LD4 FX FS hB4 hK4 O4
        gi_wp2
        refine wpIn_wide.2 ?_
        generalize (W5.setCell ⟨w.heap.size, 0, none⟩ (.pointer a)).setCell ⟨w.heap.size + 1 + 1, 0, none⟩ (.int .i64 er) = W6 at *
        have q0 : W6.cell? ⟨w.heap.size, 0, none⟩ = some (.pointer a) := A6.1.cell 0
        have q1 : W6.cell? ⟨w.heap.size + 1, 0, none⟩ = some (.int .i64 0) := A6.2.1.cell 0
        have q2 : W6.cell? ⟨w.heap.size + 1 + 1, 0, none⟩ = some (.int .i64 er) := A6.2.2.cell 0
        have g0 := A6.1.free 0
        have g1 := A6.2.1.free 0
        have g2 := A6.2.2.free 0
        go_region
        all_goals gi_wp2
        have hK7 : ((((W6.setCell ⟨w.heap.size, 0, none⟩ (.pointer a)).setCell ⟨w.heap.size + 1, 0, none⟩ (.int .i64 0)).setCell ⟨w.heap.size + 1 + 1, 0, none⟩ (.int .i64 er)).drew).heap[D]? = some (.deferred (some [])) := (((KeepsOthers.setCell W6 ⟨w.heap.size, 0, none⟩ (.pointer a)).trans (KeepsOthers.setCell _ ⟨w.heap.size + 1, 0, none⟩ (.int .i64 0))).trans (KeepsOthers.setCell _ ⟨w.heap.size + 1 + 1, 0, none⟩ (.int .i64 er))).same D _ hK6 rfl
        have A7 : Ans3 ((((W6.setCell ⟨w.heap.size, 0, none⟩ (.pointer a)).setCell ⟨w.heap.size + 1, 0, none⟩ (.int .i64 0)).setCell ⟨w.heap.size + 1 + 1, 0, none⟩ (.int .i64 er)).drew) w.heap.size (.pointer a) (.int .i64 0) (.int .i64 er) := A6.put _ _ _
        have hB7 : Below w.heap.size w ((((W6.setCell ⟨w.heap.size, 0, none⟩ (.pointer a)).setCell ⟨w.heap.size + 1, 0, none⟩ (.int .i64 0)).setCell ⟨w.heap.size + 1 + 1, 0, none⟩ (.int .i64 er)).drew) := below_drewN (((hB6.setCell (p := ⟨w.heap.size, 0, none⟩) nlr _).setCell (p := ⟨w.heap.size + 1, 0, none⟩) (by simp) _).setCell (p := ⟨w.heap.size + 1 + 1, 0, none⟩) (by show _ ≤ w.heap.size + 1 + 1; omega) _) 1
        have DG7 : DigOut kind L K zs W4.heap.size a er (((((W6.setCell ⟨w.heap.size, 0, none⟩ (.pointer a)).setCell ⟨w.heap.size + 1, 0, none⟩ (.int .i64 0)).setCell ⟨w.heap.size + 1 + 1, 0, none⟩ (.int .i64 er)).drew).putObj D (.deferred none)) := DG6.keep (fun k hk => by
          have e1 : k ≠ D := by omega
          refine (World.putObj_heap_other e1).trans ?_
          exact ((Below.heap_setCell _ ⟨w.heap.size + 1 + 1, 0, none⟩ _ k (by show k ≠ w.heap.size + 1 + 1; omega)).trans (Below.heap_setCell _ ⟨w.heap.size + 1, 0, none⟩ _ k (by show k ≠ w.heap.size + 1; omega))).trans (Below.heap_setCell _ ⟨w.heap.size, 0, none⟩ _ k (by show k ≠ w.heap.size; omega)))
        refine ret_read A7 rfl rfl rfl hK7 (.inr ⟨L, K, zs, PV.out, ?_⟩)
        have hb8 := below_put hB7 nlr (by omega) hK7
        rcases DG7 with ⟨h1, rfl, rfl⟩ | ⟨h1, rfl, dg, q, g, h, rfl, d, b1, b2, b3, b4⟩
        · exact .inl ⟨h1, rfl, hb8⟩
        · exact .inr ⟨h1, dg, q, g, h, rfl, d, by omega, by omega, by omega, by omega, hb8⟩
      · have z1 : (er != 0) = true := by simpa using h0
        have PV : Hid (readV s.data.toList = .inl (0, er)) := by show _ = _; rw [EV.out, if_neg h0]
        clear EV hok own X h0
        gi_wp2_with (refine ⟨trivial, ?_⟩; gi_at_call 136; refine (callsIn_wide.2 HE.out).mono ?_; rintro e W3 ⟨rfl, hb3⟩; have a3 := ans.below hb3 nlr; have q0 : W3.cell? ⟨w.heap.size, 0, none⟩ = some (.pointer none) := a3.1.cell 0; have q1 : W3.cell? ⟨w.heap.size + 1, 0, none⟩ = some (.int .i64 0) := a3.2.1.cell 0; have q2 : W3.cell? ⟨w.heap.size + 1 + 1, 0, none⟩ = some (.int .i64 0) := a3.2.2.cell 0; have g0 := a3.1.free 0; have g1 := a3.2.1.free 0; have g2 := a3.2.2.free 0)
        have hK4 := (((KeepsOthers.setCell W3 ⟨w.heap.size, 0, none⟩ (.pointer none)).trans (KeepsOthers.setCell _ ⟨w.heap.size + 1, 0, none⟩ (.int .i64 0))).trans (KeepsOthers.setCell _ ⟨w.heap.size + 1 + 1, 0, none⟩ (.int .i64 er))).same D _ ((hb3.block D hDW).trans hK) rfl
        refine ret_read (a3.put _ _ _) rfl rfl rfl hK4 (.inl ⟨0, er, PV.out, rfl, below_put ?_ nlr (by omega) hK4⟩)
        exact (((hB.trans (hb3.mono (by omega))).setCell (p := ⟨w.heap.size, 0, none⟩) nlr _).setCell (p := ⟨w.heap.size + 1, 0, none⟩) (by simp) _).setCell (p := ⟨w.heap.size + 1 + 1, 0, none⟩) (by show _ ≤ w.heap.size + 1 + 1; omega) _
end Go.Proofs.YtlciofheonbkiaaGreat
