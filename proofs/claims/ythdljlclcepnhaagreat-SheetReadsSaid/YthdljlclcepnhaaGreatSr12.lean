/- The walk of the reference's Read. -/
import Derived.Test.YthdljlclcepnhaaGreatSRD
import Derived.Test.YthdljlclcepnhaaGreatSh6
import Derived.Test.YthdljlclcepnhaaGreatBC
import Derived.Test.YthdljlclcepnhaaGreatBD
import Derived.Laws.Rows
import Derived.Laws.ResultCell
namespace Go.Proofs.YthdljlclcepnhaaGreat
open Go.RowKit Nl Sh

/-- What the reference's Read gives. -/
def RReadP (kind : Int) (s : List UInt8) (w : World) (e : Ending) (w' : World) : Prop :=
  (∃ (n : Nat) (er : Int), readK kind s = .inl (n, er) ∧ e = .returned (.tuple #[.agg #[.int .i64 0, .int .i64 0, .slice none 0 0], .int .i64 n, .int .i64 er]) ∧ Below w.heap.size w w') ∨
  ∃ (L K : Int) (zs : List Nd) (v : Value), readK kind s = .inr (L, K, zs) ∧ e = .returned (.tuple #[.agg #[.int .i64 K, .int .i64 L, v], .int .i64 0, .int .i64 0]) ∧ RdN w' v zs ∧ Below w.heap.size w w'
/-- A result in a cell, and two more. -/
theorem results_ctt {fn : Func} {p u z : Tmp} {ty : TypeId} (h : fn.results = #[.cell p ty, .tmp u, .tmp z]) (tmps : Array Value) (P : Program) (w : World) :
    (results fn tmps).run P w = ((asAddr (tmps.getD p undef)).run P w).andThen fun a w1 => ((loadVar ty a).run P w1).andThen fun v w2 => .ok (.tuple #[v, tmps.getD u undef, tmps.getD z undef]) w2 := by
  simp only [results, h]
  simp [Sem.run_bind, Result.andThen]
theorem ret_rread {R : Ending → World → Prop} {tmps : Array Value} {W : World} {g : Nat} {cs : Array Value} {u z : Value} (Y : Blk W g cs 27) (hc : cs.size = 3) (h4 : tmps.getD 4 undef = .pointer (some ⟨g, 0, none⟩)) (h5 : tmps.getD 5 undef = u) (h6 : tmps.getD 6 undef = z) (hR : R (.returned (.tuple #[.agg cs, u, z])) W) :
    bodyPost Tryz.prog Tryz.f6 R .ret ⟨tmps, []⟩ W := by
  refine bodyPost_ret (v := .tuple #[.agg cs, u, z]) ?_ rfl hR
  have hrow := run_loadVar_row (P := Tryz.prog) W g 27 27 cs (0, 0) _ Y Tryz.underlying27 rfl (by rw [hc]; kernel_rfl)
  rw [results_ctt rfl, h4, h5, h6]
  simp [asAddr, Result.andThen, hrow]
theorem Sh.lines_le (k : Nat) : ∀ s : List UInt8, s.length ≤ k → ∀ l ∈ (linesR s).1, l.length ≤ k := by
  induction k with
  | zero =>
    intro s hs l hl
    obtain rfl := List.eq_nil_of_length_eq_zero (Nat.le_zero.1 hs)
    rw [linesR_none rfl] at hl; cases hl
  | succ k ih =>
    intro s hs l hl
    cases hb : brkL s with
    | none => rw [linesR_none hb] at hl; cases hl
    | some x =>
      obtain ⟨a, b⟩ := x
      have e := brk_some hb
      rw [e] at hs
      simp only [List.length_append, List.length_cons] at hs
      rw [linesR_some hb] at hl
      rcases List.mem_cons.1 hl with rfl | hl
      · omega
      · have := ih b (by omega) l hl; omega
def Sh.uniB (l : Int) : Bool := decide (1 ≤ l) && decide (l ≤ 48)
set_option maxRecDepth 100000 in
theorem r_uni (l : Int) (w : World) :
    Calls Tryz.prog 17 #[.int .i64 l] w fun e w' => e = .returned (.bool (Sh.uniB l)) ∧ w = w' := by
  by_cases h1 : l < 1
  · have e : Sh.uniB l = false := by simp [Sh.uniB]; omega
    rw [e]; clear e
    go_enter Tryz.func17, Tryz.ntmps17
    go_wp2_with fail
    go_ret
    exact ⟨rfl, rfl⟩
  · have e : Sh.uniB l = decide (l ≤ 48) := by simp [Sh.uniB]; omega
    rw [e]; clear e
    go_enter Tryz.func17, Tryz.ntmps17
    go_wp2_with fail
    go_ret
    exact ⟨rfl, rfl⟩
theorem Sh.uni_right (l : Nat) : rightB (l : Int) 1 = Sh.uniB (l : Int) := by
  have hp : (1 : Int) ≤ 2 ^ (l : Int).toNat := by
    have : (0 : Int) < 2 ^ (l : Int).toNat := Int.pow_pos (by omega)
    omega
  unfold rightB Sh.uniB
  by_cases h1 : 1 ≤ (l : Int)
  · by_cases h2 : (l : Int) ≤ 48
    · rw [decide_eq_true h1, decide_eq_true h2]
      exact decide_eq_true ⟨by omega, by omega, by omega, by omega⟩
    · rw [decide_eq_false h2, Bool.and_false]
      exact decide_eq_false (fun q => h2 q.2.1)
  · rw [decide_eq_false h1, Bool.false_and]
    exact decide_eq_false (fun q => h1 q.1)
theorem Sh.head_eq (s : List UInt8) : headOk s = (thrB s tDig [32] [32] && Sh.uniB (thr0 s tDig : Nat) && isK (thr1 s tDig [32] : Nat) && decide (((thr2 s tDig [32] [32] : Nat) : Int) ≤ 72057594037927935)) := by
  unfold headOk
  rw [uni_right]
  have e1 : (decide (1 ≤ thr1 s tDig [32]) && decide (thr1 s tDig [32] ≤ 1048576)) = isK (thr1 s tDig [32] : Nat) := by
    unfold isK
    by_cases q1 : 1 ≤ thr1 s tDig [32] <;> by_cases q2 : thr1 s tDig [32] ≤ 1048576 <;> simp [q1, q2] <;> omega
  have e2 : decide (thr2 s tDig [32] [32] ≤ 72057594037927935) = decide (((thr2 s tDig [32] [32] : Nat) : Int) ≤ 72057594037927935) := by
    by_cases q : thr2 s tDig [32] [32] ≤ 72057594037927935
    · rw [decide_eq_true q, decide_eq_true (by omega)]
    · rw [decide_eq_false q, decide_eq_false (by omega)]
  rw [← e1, ← e2]
  simp only [Bool.and_assoc]
/-- How far the lines are read. -/
def RdRel (L K N : Int) (ls : List (List UInt8)) (w5 : World) (gn : Nat) (la sm i : Value) (wr : World) : Prop :=
  ∃ (j : Nat) (S : Int) (zs : List Nd) (v : Value), la = .int .i64 (lastV zs) ∧ sm = .int .i64 S ∧ i = .int .i64 j ∧ 1 ≤ j ∧ j ≤ ls.length ∧ ls.length ≤ gn + j ∧ Hid (RI L K N (ls.take j) S zs) ∧
    Blk wr w5.heap.size #[.int .i64 K, .int .i64 L, v] 27 ∧ OwnN wr (w5.heap.size + 1) v zs ∧ Below w5.heap.size w5 wr
set_option maxRecDepth 100000 in
set_option maxHeartbeats 8000000 in
theorem r_read (s : ByteArray) (kind : Int) (w : World) (hs : s.size ≤ 90000) (_bk : In64 kind) :
    Calls Tryz.prog 6 #[.string s, .int .i64 kind] w (RReadP kind s.data.toList w) := by
  have LN := hid (fun W => r_lines s W (by omega))
  have Y2 : Blk ((w.alloc (.cells #[.int .i64 0, .int .i64 0, .slice none 0 0] 27)).alloc (.cells #[.int .i64 0, .int .i64 0, .slice none 0 0] 27)) w.heap.size #[.int .i64 0, .int .i64 0, .slice none 0 0] 27 := (Blk.new w _ _).alloc _
  have Z2 : Blk ((w.alloc (.cells #[.int .i64 0, .int .i64 0, .slice none 0 0] 27)).alloc (.cells #[.int .i64 0, .int .i64 0, .slice none 0 0] 27)) (w.heap.size + 1) #[.int .i64 0, .int .i64 0, .slice none 0 0] 27 := by
    have h := Blk.new (w.alloc (.cells #[.int .i64 0, .int .i64 0, .slice none 0 0] 27)) #[.int .i64 0, .int .i64 0, .slice none 0 0] 27
    simpa using h
  have hb2 : Below w.heap.size w ((w.alloc (.cells #[.int .i64 0, .int .i64 0, .slice none 0 0] 27)).alloc (.cells #[.int .i64 0, .int .i64 0, .slice none 0 0] 27)) := ((Below.refl _ _).alloc (Nat.le_refl _) _).alloc (by simp) _
  go_enter Tryz.func6, Tryz.ntmps6
  go_upto_region 2 with fail
  generalize (w.alloc (.cells #[.int .i64 0, .int .i64 0, .slice none 0 0] 27)).alloc (.cells #[.int .i64 0, .int .i64 0, .slice none 0 0] 27) = w2 at *
  go_wp2_with fail
  refine (LN.out _).mono ?_
  rintro e w3 ⟨v, xs, rest, rfl, oS, e1, e2, hb3, hlen⟩
  have Y3 := Y2.below hb3 (Nat.le_refl _)
  have Z3 := Z2.below hb3 (Nat.le_refl _)
  have hbw3 := hb2.trans (hb3.mono hb2.size)
  have hB0 := Z2.lt
  have hs3 := hb3.size
  clear LN Y2 Z2 hb2 hb3
  obtain ⟨p, cap, rfl⟩ := oS.val
  have END : Hid (∀ (W : World) (n : Nat) (er : Int), readK kind s.data.toList = .inl (n, er) → Below w.heap.size w W → RReadP kind s.data.toList w (.returned (.tuple #[.agg #[.int .i64 0, .int .i64 0, .slice none 0 0], .int .i64 n, .int .i64 er])) W) := fun W n er h1 h2 => .inl ⟨n, er, h1, rfl, h2⟩
  have END1 : Hid (∀ (W : World) (n : Nat), readK kind s.data.toList = .inl (n + 1, 10) → Below w.heap.size w W → RReadP kind s.data.toList w (.returned (.tuple #[.agg #[.int .i64 0, .int .i64 0, .slice none 0 0], .int .i64 ((n : Int) + 1), .int .i64 10])) W) := fun W n h1 h2 => by
    have h := END.out W (n + 1) 10 h1 h2
    rw [Int.natCast_add] at h
    exact h
  have YZ := hid (fun (W : World) (Y : Blk W w.heap.size #[.int .i64 0, .int .i64 0, .slice none 0 0] 27) => (show Blk (((W.setCell ⟨w.heap.size, 0, none⟩ (.int .i64 0)).setCell ⟨w.heap.size, 1, none⟩ (.int .i64 0)).setCell ⟨w.heap.size, 2, none⟩ (.slice none 0 0)) w.heap.size #[.int .i64 0, .int .i64 0, .slice none 0 0] 27 from ((Y.set 0 _).set 1 _).set 2 _))
  have BZ := hid (fun (W : World) (h : Below w.heap.size w W) => (show Below w.heap.size w (((W.setCell ⟨w.heap.size, 0, none⟩ (.int .i64 0)).setCell ⟨w.heap.size, 1, none⟩ (.int .i64 0)).setCell ⟨w.heap.size, 2, none⟩ (.slice none 0 0)) from ((h.setCell (p := ⟨w.heap.size, 0, none⟩) (Nat.le_refl _) _).setCell (p := ⟨w.heap.size, 1, none⟩) (Nat.le_refl _) _).setCell (p := ⟨w.heap.size, 2, none⟩) (Nat.le_refl _) _))
  cases xs with
  | nil =>
    have P := hid (readK_none (kind := kind) e1.symm)
    have z0 : w3.cell? ⟨w.heap.size + 1, 0, none⟩ = some (.int .i64 0) := Z3.cell 0
    have z1 : w3.cell? ⟨w.heap.size + 1, 1, none⟩ = some (.int .i64 0) := Z3.cell 1
    have z2 : w3.cell? ⟨w.heap.size + 1, 2, none⟩ = some (.slice none 0 0) := Z3.cell 2
    have y0 : w3.cell? ⟨w.heap.size, 0, none⟩ = some (.int .i64 0) := Y3.cell 0
    have y1 : w3.cell? ⟨w.heap.size, 1, none⟩ = some (.int .i64 0) := Y3.cell 1
    have y2 : w3.cell? ⟨w.heap.size, 2, none⟩ = some (.slice none 0 0) := Y3.cell 2
    have g0 := Y3.free 0
    have g1 := Y3.free 1
    have g2 := Y3.free 2
    clear e1 e2 oS Z3
    go_wp2_with fail
    refine ret_rread (YZ.out _ Y3) rfl rfl rfl rfl ?_
    exact END.out _ 1 10 P.out (BZ.out _ hbw3)
  | cons x0 xr =>
    obtain ⟨gl, capl, hv, hgl, hgl2, -, hcl, -⟩ : ∃ g cap', Value.slice p (x0 :: xr).length cap = .slice (some ⟨g, 0, none⟩) (x0 :: xr).length cap' ∧ w2.heap.size ≤ g ∧ g < w3.heap.size ∧ (x0 :: xr).length ≤ cap' ∧ (∀ k, k < (x0 :: xr).length → w3.cell? ⟨g, k, none⟩ = some (.string ((x0 :: xr).getD k ⟨#[]⟩))) ∧ ∀ k, w3.frozen? ⟨g, k, none⟩ = false := by
      rcases oS.shape with ⟨-, h⟩ | h
      · cases h
      · exact h
    simp only [Value.slice.injEq, true_and] at hv
    obtain ⟨rfl, rfl⟩ := hv
    have LS := hid (fun W (q : Below w3.heap.size w3 W) k (hk : k < xr.length + 1) => (show W.cell? ⟨gl, k, none⟩ = some (.string ((x0 :: xr).getD k ⟨#[]⟩)) from (q.cell (p := ⟨gl, k, none⟩) hgl2).trans (hcl k hk)))
    have l0 : w3.cell? ⟨gl, 0, none⟩ = some (.string x0) := hcl 0 (by simp)
    have hsl : s.data.toList.length = s.size := by simp
    have HXS := hid (fun (x : ByteArray) (hx : x ∈ x0 :: xr) => (show x.size ≤ 1000000 from by
      have h := lines_le _ s.data.toList (Nat.le_refl _) x.data.toList (by rw [← e1]; exact List.mem_map_of_mem hx)
      have hl : x.data.toList.length = x.size := by simp
      omega))
    have hx0 : x0.size ≤ 1000000 := HXS.out x0 (by simp)
    obtain ⟨N, hN⟩ : ∃ N, (x0 :: xr).length = N := ⟨_, rfl⟩
    have hNp : 0 < N := by rw [← hN]; simp
    have hNs : N ≤ 90000 := by rw [← hN]; omega
    have hNp2 : (0 : Int) < (N : Int) := by omega
    have hNz : ((N : Int) == 0) = false := by simp; omega
    have hNz2 : (N == 0) = false := by simp; omega
    have G3 := Blk.new w3 #[.string ⟨#[100, 105, 103, 101, 115, 116, 32]⟩, .string ⟨#[32]⟩, .string ⟨#[32]⟩] 9
    have hb4 : Below w3.heap.size w3 (w3.alloc (.cells #[.string ⟨#[100, 105, 103, 101, 115, 116, 32]⟩, .string ⟨#[32]⟩, .string ⟨#[32]⟩] 9)) := (Below.refl _ _).alloc (Nat.le_refl _) _
    have TH := r_three G3 hx0 (by decide) (by decide) (by decide)
    have t0 : (⟨#[100, 105, 103, 101, 115, 116, 32]⟩ : ByteArray).data.toList = tDig := rfl
    have t1 : (⟨#[32]⟩ : ByteArray).data.toList = [32] := rfl
    rw [t0, t1] at TH
    replace TH := hid TH
    have HN : Hid (N = xr.length + 1) := by show _ = _; rw [← hN]; rfl
    rw [hN] at *
    have B0 : thr0 x0.data.toList tDig ≤ 9223372036854775807 := numV_bd _
    have B1 : thr1 x0.data.toList tDig [32] ≤ 9223372036854775807 := numV_bd _
    have B2 : (0 : Int) ≤ (thr2 x0.data.toList tDig [32] [32] : Nat) ∧ ((thr2 x0.data.toList tDig [32] [32] : Nat) : Int) ≤ 9223372036854775807 := by
      have : thr2 x0.data.toList tDig [32] [32] ≤ 9223372036854775807 := numV_bd _
      omega
    have HE := hid (head_eq x0.data.toList)
    have RS := hid (fun h : headOk x0.data.toList = true => RI.start h)
    unfold ThreeP at TH
    generalize thr0 x0.data.toList tDig = L at *
    generalize thr1 x0.data.toList tDig [32] = K at *
    generalize ((thr2 x0.data.toList tDig [32] [32] : Nat) : Int) = Nn at *
    generalize thrB x0.data.toList tDig [32] [32] = TB at *
    clear hN t0 t1 G3 hcl oS
    go_wp2_with fail
    refine TH.out.mono ?_
    rintro e w5 ⟨ph, nh, ch, rfl, hb5, hI5⟩
    have hb5' := hb4.trans (hb5.mono hb4.size)
    have Y5 := Y3.below hb5' (Nat.le_refl _)
    have Z5 := Z3.below hb5' (Nat.le_refl _)
    have hbw5 := hbw3.trans (hb5'.mono (by omega))
    have LS5 := hid (fun W (q : Below w5.heap.size w5 W) k (hk : k < N) => LS.out W (hb5'.trans (q.mono hb5'.size)) k (by have := HN.out; omega))
    have hs5 := hb5'.size
    clear LS Y3 Z3 hbw3 hb4 hb5 TH
    go_upto_region 6 with fail
    obtain ⟨OK, eOK⟩ : ∃ x, headOk x0.data.toList = x := ⟨_, rfl⟩
    rw [eOK] at HE RS
    have EO := hid eOK
    have UN := hid (fun W => r_uni (L : Int) W)
    have IK := hid (fun W => r_Is (K : Int) W)
    generalize Sh.uniB (L : Int) = UB at *
    generalize isK (K : Int) = KB at *
    clear eOK
    have II := hid hI5
    clear hI5
    go_cut [59] (fun b wx => b = .bool (!OK) ∧ w5 = wx)
    case first =>
      rcases (show TB = false ∨ (TB = true ∧ UB = false) ∨ (TB = true ∧ UB = true ∧ KB = false) ∨ (TB = true ∧ UB = true ∧ KB = true) by cases TB <;> cases UB <;> cases KB <;> simp) with rfl | ⟨rfl, rfl⟩ | ⟨rfl, rfl, rfl⟩ | ⟨rfl, rfl, rfl⟩
      · have EB : Hid (OK = false) := by show _ = _; rw [HE.out]; rfl
        clear HE II
        go_wp2_with fail
        go_meet
        exact ⟨by rw [EB.out]; rfl, rfl⟩
      all_goals
        obtain ⟨rfl, oI⟩ := II.out rfl
        obtain ⟨bh, h1, h2, h3⟩ : ∃ g, ph = some ⟨g, 0, none⟩ ∧ g < w5.heap.size ∧ (w5.cell? ⟨g, 0, none⟩ = some (.int .i64 (L : Int)) ∧ w5.cell? ⟨g, 1, none⟩ = some (.int .i64 (K : Int)) ∧ w5.cell? ⟨g, 2, none⟩ = some (.int .i64 Nn)) := by
          rcases oI.shape with ⟨-, h⟩ | ⟨g, c, hv, -, hg, -, hc, -⟩
          · cases h
          · simp only [Value.slice.injEq] at hv
            exact ⟨g, hv.1, hg, hc 0 (by simp), hc 1 (by simp), hc 2 (by simp)⟩
        obtain ⟨i1, i2, i3⟩ := h3
        subst h1
        clear oI II
      · have EB : Hid (OK = false) := by show _ = _; rw [HE.out]; rfl
        clear HE
        go_wp2_with fail
        refine (UN.out _).mono ?_
        rintro e w' ⟨rfl, rfl⟩
        go_wp2_with fail
        go_meet
        exact ⟨by rw [EB.out]; rfl, rfl⟩
      · have EB : Hid (OK = false) := by show _ = _; rw [HE.out]; rfl
        clear HE
        go_wp2_with fail
        refine (UN.out _).mono ?_
        rintro e w' ⟨rfl, rfl⟩
        go_wp2_with fail
        refine (IK.out _).mono ?_
        rintro e w' ⟨rfl, rfl⟩
        go_wp2_with fail
        go_meet
        exact ⟨by rw [EB.out]; rfl, rfl⟩
      · by_cases hNn : 72057594037927935 < Nn
        · have zN : decide (72057594037927935 < Nn) = true := decide_eq_true hNn
          have EB : Hid (OK = false) := by show _ = _; rw [HE.out, decide_eq_false (by omega)]; rfl
          clear HE
          go_wp2_with fail
          refine (UN.out _).mono ?_
          rintro e w' ⟨rfl, rfl⟩
          go_wp2_with fail
          refine (IK.out _).mono ?_
          rintro e w' ⟨rfl, rfl⟩
          go_wp2_with fail
          go_meet
          exact ⟨by rw [EB.out]; rfl, rfl⟩
        · have zN : decide (72057594037927935 < Nn) = false := decide_eq_false hNn
          have EB : Hid (OK = true) := by show _ = _; rw [HE.out, decide_eq_true (by omega)]; rfl
          clear HE
          go_wp2_with fail
          refine (UN.out _).mono ?_
          rintro e w' ⟨rfl, rfl⟩
          go_wp2_with fail
          refine (IK.out _).mono ?_
          rintro e w' ⟨rfl, rfl⟩
          go_wp2_with fail
          go_meet
          exact ⟨by rw [EB.out]; rfl, rfl⟩
    case rest =>
      obtain ⟨rfl, rfl⟩ := hcut
      cases OK
      · have P := hid (readK_head (kind := kind) e1.symm EO.out)
        have z0 : w5.cell? ⟨w.heap.size + 1, 0, none⟩ = some (.int .i64 0) := Z5.cell 0
        have z1 : w5.cell? ⟨w.heap.size + 1, 1, none⟩ = some (.int .i64 0) := Z5.cell 1
        have z2 : w5.cell? ⟨w.heap.size + 1, 2, none⟩ = some (.slice none 0 0) := Z5.cell 2
        have y0 : w5.cell? ⟨w.heap.size, 0, none⟩ = some (.int .i64 0) := Y5.cell 0
        have y1 : w5.cell? ⟨w.heap.size, 1, none⟩ = some (.int .i64 0) := Y5.cell 1
        have y2 : w5.cell? ⟨w.heap.size, 2, none⟩ = some (.slice none 0 0) := Y5.cell 2
        have g0 := Y5.free 0
        have g1 := Y5.free 1
        have g2 := Y5.free 2
        clear e1 e2 Z5 HE RS II UN IK LS5 HXS
        go_wp2_with fail
        refine ret_rread (YZ.out _ Y5) rfl rfl rfl rfl ?_
        exact END.out _ 1 10 P.out (BZ.out _ hbw5)
      · have R0 := RS.out rfl
        have hTB : TB = true := by
          have h := HE.out
          cases TB
          · cases h
          · rfl
        obtain ⟨rfl, oI⟩ := II.out hTB
        obtain ⟨bh, h1, h2, i1, i2, i3⟩ : ∃ g, ph = some ⟨g, 0, none⟩ ∧ g < w5.heap.size ∧ w5.cell? ⟨g, 0, none⟩ = some (.int .i64 (L : Int)) ∧ w5.cell? ⟨g, 1, none⟩ = some (.int .i64 (K : Int)) ∧ w5.cell? ⟨g, 2, none⟩ = some (.int .i64 Nn) := by
          rcases oI.shape with ⟨-, h⟩ | ⟨g, c, hv, -, hg, -, hc, -⟩
          · cases h
          · simp only [Value.slice.injEq] at hv
            exact ⟨g, hv.1, hg, hc 0 (by simp), hc 1 (by simp), hc 2 (by simp)⟩
        subst h1
        have BH := hid (fun W (q : Below w5.heap.size w5 W) => (show W.cell? ⟨bh, 0, none⟩ = some (.int .i64 (L : Int)) ∧ W.cell? ⟨bh, 2, none⟩ = some (.int .i64 Nn) from ⟨(q.cell (p := ⟨bh, 0, none⟩) h2).trans i1, (q.cell (p := ⟨bh, 2, none⟩) h2).trans i3⟩))
        have YY := hid (fun W (q : Below w5.heap.size w5 W) => (show Blk W w.heap.size #[.int .i64 0, .int .i64 0, .slice none 0 0] 27 ∧ Blk W (w.heap.size + 1) #[.int .i64 0, .int .i64 0, .slice none 0 0] 27 ∧ Below w.heap.size w W from ⟨Y5.below q (Nat.le_refl _), Z5.below q (Nat.le_refl _), hbw5.trans (q.mono hbw5.size)⟩))
        have D6 : Blk (w5.alloc (.cells #[.int .i64 (K : Int), .int .i64 (L : Int), .slice none 0 0] 27)) w5.heap.size #[.int .i64 (K : Int), .int .i64 (L : Int), .slice none 0 0] 27 := Blk.new w5 _ _
        have hb6 : Below w5.heap.size w5 (w5.alloc (.cells #[.int .i64 (K : Int), .int .i64 (L : Int), .slice none 0 0] 27)) := (Below.refl _ _).alloc (Nat.le_refl _) _
        obtain ⟨ls, els⟩ : ∃ ls, ls = (x0 :: xr).map (·.data.toList) := ⟨_, rfl⟩
        have hll : ls.length = N := by rw [els, List.length_map]; have := HN.out; simp; omega
        have R1 : Hid (RdRel (L : Int) (K : Int) Nn ls w5 N (.int .i64 0) (.int .i64 0) (.int .i64 1) (w5.alloc (.cells #[.int .i64 (K : Int), .int .i64 (L : Int), .slice none 0 0] 27))) :=
          ⟨1, 0, [], .slice none 0 0, rfl, rfl, rfl, Nat.le_refl _, by omega, by omega, by rw [els]; exact R0, D6, OwnN.nil _ _, hb6⟩
        have EL := hid els
        have HLL := hid hll
        have LSJ := hid (fun (j : Nat) (hj : j < N) => (show ∃ x : ByteArray, x.size ≤ 1000000 ∧ ls.getD j [] = x.data.toList ∧ ∀ W, Below w5.heap.size w5 W → W.cell? ⟨gl, j, none⟩ = some (.string x) from by
          have hjl : j < (x0 :: xr).length := by have := HN.out; simp; omega
          refine ⟨(x0 :: xr)[j], HXS.out _ (List.getElem_mem hjl), ?_, fun W q => ?_⟩
          · rw [els, List.getD, List.getElem?_map, List.getElem?_eq_getElem hjl]; rfl
          · rw [LS5.out W q j hj, List.getD, List.getElem?_eq_getElem hjl]; rfl))
        rw [← els] at e1
        have E1 := hid e1
        have E2 := hid e2
        have RB := hid (RI.roll R0)
        have i1a : (w5.alloc (.cells #[.int .i64 (K : Int), .int .i64 0, .slice none 0 0] 27)).cell? ⟨bh, 0, none⟩ = some (.int .i64 (L : Int)) := (((Below.refl _ _).alloc (Nat.le_refl _) _ : Below w5.heap.size w5 (w5.alloc _)).cell (p := ⟨bh, 0, none⟩) h2).trans i1
        clear R0 hTB oI i3 Y5 Z5 hbw5 D6 hb6 els hll LS5 HXS e1 e2 RS HE EO II UN IK
        go_upto_region 10 with fail
        generalize w5.alloc (.cells #[.int .i64 (K : Int), .int .i64 (L : Int), .slice none 0 0] 27) = w6 at *
        clear i1 i2 i1a
        go_wp2_with fail
        go_loopg [13, 14, 15] N (fun gn la sm i wr => RdRel (L : Int) (K : Int) Nn ls w5 gn la sm i wr)
        case atStart => exact R1.out
        case round =>
          clear R1
          obtain ⟨j, S, zs, v, rfl, rfl, rfl, hj1, hjl, hgn, HRI, D, own, hbr⟩ := hrel
          rw [HLL.out] at hjl hgn
          by_cases hj : j < N
          · obtain ⟨x, hx, hxe, hxc⟩ := LSJ.out j hj
            have xc : wr.cell? ⟨gl, j, none⟩ = some (.string x) := hxc wr hbr
            have zj : decide (j < N) = true := decide_eq_true hj
            have j0 : (0 : Int) ≤ (j : Int) := by omega
            have j1 : (j : Int) < (N : Int) := by omega
            have hpre : ls.take j ≠ [] := by
              intro h
              have h2 := congrArg List.length h
              rw [List.length_take, HLL.out] at h2
              simp at h2; omega
            have hpl : (ls.take j).length = j := by rw [List.length_take, HLL.out]; omega
            have htk : ls.take (j + 1) = ls.take j ++ [x.data.toList] := by rw [← hxe]; exact take_at (d := []) ls j (by rw [HLL.out]; exact hj)
            have hsp : (linesR s.data.toList).1 = ls.take j ++ x.data.toList :: ls.drop (j + 1) := by
              rw [← E1.out, ← hxe, ← drop_at (d := []) ls j (by rw [HLL.out]; exact hj), List.take_append_drop]
            have NO := hid (fun h : nodeOk (L : Int) (Nn - S) zs x.data.toList = false => readK_node (kind := kind) hsp HRI.out hpre h)
            have YES := hid (fun h : nodeOk (L : Int) (Nn - S) zs x.data.toList = true => HRI.out.step hpre h)
            rw [hpl] at NO
            rw [← htk] at YES
            have hSn := HRI.out.bS
            have hSm := HRI.out.bN
            have hS0 : 0 ≤ S := by rw [← HRI.out.sum]; exact sumL_nonneg HRI.out.roll.strict.pos
            have hzl : zs.length < 2097152 := by have := HRI.out.len; rw [hpl] at this; have := HN.out; simp at hlen; omega
            have bL : In64 (L : Int) := ⟨by omega, by omega⟩
            clear hxc hxe hpre hpl htk hsp
            have G7 := Blk.new wr #[.string ⟨#[]⟩, .string ⟨#[46, 46]⟩, .string ⟨#[32]⟩] 9
            have hb7 : Below wr.heap.size wr (wr.alloc (.cells #[.string ⟨#[]⟩, .string ⟨#[46, 46]⟩, .string ⟨#[32]⟩] 9)) := (Below.refl _ _).alloc (Nat.le_refl _) _
            have TH := r_three G7 hx (by decide) (by decide) (by decide)
            have t0 : (⟨#[]⟩ : ByteArray).data.toList = [] := rfl
            have t1 : (⟨#[46, 46]⟩ : ByteArray).data.toList = [46, 46] := rfl
            have t2 : (⟨#[32]⟩ : ByteArray).data.toList = [32] := rfl
            rw [t0, t1, t2] at TH
            unfold ThreeP at TH
            replace TH := hid TH
            have B0' : thr0 x.data.toList [] ≤ 9223372036854775807 := numV_bd _
            have B1' : thr1 x.data.toList [] [46, 46] ≤ 9223372036854775807 := numV_bd _
            have B2' : (0 : Int) ≤ (thr2 x.data.toList [] [46, 46] [32] : Nat) ∧ ((thr2 x.data.toList [] [46, 46] [32] : Nat) : Int) ≤ 9223372036854775807 := by
              have : thr2 x.data.toList [] [46, 46] [32] ≤ 9223372036854775807 := numV_bd _
              omega
            have eH : Hid (nodeOk (L : Int) (Nn - S) zs x.data.toList = (thrB x.data.toList [] [46, 46] [32] && nodeB (L : Int) (thr0 x.data.toList [] : Nat) (thr1 x.data.toList [] [46, 46] : Nat) && lastB zs (nodeV (L : Int) (thr0 x.data.toList [] : Nat) (thr1 x.data.toList [] [46, 46] : Nat)) && decide ((1 : Int) ≤ (thr2 x.data.toList [] [46, 46] [32] : Nat)) && decide (((thr2 x.data.toList [] [46, 46] [32] : Nat) : Int) ≤ Nn - S))) := rfl
            have eI : Hid (ndI (L : Int) x.data.toList = nodeV (L : Int) (thr0 x.data.toList [] : Nat) (thr1 x.data.toList [] [46, 46] : Nat)) := rfl
            have eN : Hid (ndN x.data.toList = (thr2 x.data.toList [] [46, 46] [32] : Nat)) := rfl
            have LE := hid (fun h => last_eq (L := (L : Int)) (lo := (thr0 x.data.toList [] : Nat)) (hi := (thr1 x.data.toList [] [46, 46] : Nat)) zs h)
            generalize thr0 x.data.toList [] = A0 at *
            generalize thr1 x.data.toList [] [46, 46] = A1 at *
            generalize ((thr2 x.data.toList [] [46, 46] [32] : Nat) : Int) = A2 at *
            generalize thrB x.data.toList [] [46, 46] [32] = TB2 at *
            have ND := hid (fun W => r_node (L : Int) (A0 : Int) (A1 : Int) W bL ⟨by omega, by omega⟩ ⟨by omega, by omega⟩)
            unfold NodePost at ND
            generalize nodeV (L : Int) (A0 : Int) (A1 : Int) = ID at *
            generalize nodeB (L : Int) (A0 : Int) (A1 : Int) = NB at *
            obtain ⟨lz, elz⟩ : ∃ z, lastV zs = z := ⟨_, rfl⟩
            rw [elz] at LE
            rw [elz]
            have ELZ := hid elz
            clear t0 t1 t2 G7 elz
            go_wp2_with fail
            refine TH.out.mono ?_
            rintro e w7 ⟨px, nx, cx, rfl, hb7', hI7⟩
            have hbr7 : Below w5.heap.size w5 w7 := hbr.trans ((hb7.trans (hb7'.mono hb7.size)).mono hbr.size)
            have D7 := D.below (hb7.trans (hb7'.mono hb7.size)) (Nat.le_refl _)
            have own7 := own.below (hb7.trans (hb7'.mono hb7.size)) (Nat.le_refl _)
            have hdl := D7.lt
            clear TH hb7 hb7' D own xc zj hbr
            cases TB2
            · have P := hid (NO.out (by rw [eH.out]; rfl))
              obtain ⟨Y7, Z7, hbw7⟩ := YY.out w7 hbr7
              have z0 : w7.cell? ⟨w.heap.size + 1, 0, none⟩ = some (.int .i64 0) := Z7.cell 0
              have z1 : w7.cell? ⟨w.heap.size + 1, 1, none⟩ = some (.int .i64 0) := Z7.cell 1
              have z2 : w7.cell? ⟨w.heap.size + 1, 2, none⟩ = some (.slice none 0 0) := Z7.cell 2
              have y0 : w7.cell? ⟨w.heap.size, 0, none⟩ = some (.int .i64 0) := Y7.cell 0
              have y1 : w7.cell? ⟨w.heap.size, 1, none⟩ = some (.int .i64 0) := Y7.cell 1
              have y2 : w7.cell? ⟨w.heap.size, 2, none⟩ = some (.slice none 0 0) := Y7.cell 2
              have g0 := Y7.free 0
              have g1 := Y7.free 1
              have g2 := Y7.free 2
              clear NO YES eH eI eN LE ND LSJ Z7 hI7 YY
              go_wp2_with fail
              refine ret_rread (YZ.out _ Y7) rfl rfl rfl rfl ?_
              exact END1.out _ j P.out (BZ.out _ hbw7)
            · obtain ⟨rfl, oX⟩ := hI7 rfl
              obtain ⟨bx, hx1, hx2, k1, k2, k3⟩ : ∃ g, px = some ⟨g, 0, none⟩ ∧ g < w7.heap.size ∧ w7.cell? ⟨g, 0, none⟩ = some (.int .i64 (A0 : Int)) ∧ w7.cell? ⟨g, 1, none⟩ = some (.int .i64 (A1 : Int)) ∧ w7.cell? ⟨g, 2, none⟩ = some (.int .i64 A2) := by
                rcases oX.shape with ⟨-, h⟩ | ⟨g, c, hv, -, hg, -, hc, -⟩
                · cases h
                · simp only [Value.slice.injEq] at hv
                  exact ⟨g, hv.1, hg, hc 0 (by simp), hc 1 (by simp), hc 2 (by simp)⟩
              subst hx1
              clear oX hI7
              have FX := hid (fun W (q : Below w7.heap.size w7 W) => (show W.cell? ⟨bh, 0, none⟩ = some (.int .i64 (L : Int)) ∧ W.cell? ⟨bx, 0, none⟩ = some (.int .i64 (A0 : Int)) ∧ W.cell? ⟨bx, 1, none⟩ = some (.int .i64 (A1 : Int)) ∧ Below w7.heap.size w7 W from
                ⟨(BH.out W (hbr7.trans (q.mono hbr7.size))).1, (q.cell (p := ⟨bx, 0, none⟩) hx2).trans k1, (q.cell (p := ⟨bx, 1, none⟩) hx2).trans k2, q⟩))
              have hB7 := Below.refl w7.heap.size w7
              go_wp2_with fail
              go_region_held3 (fun w' => w'.cell? ⟨bh, 0, none⟩ = some (.int .i64 (L : Int)) ∧ w'.cell? ⟨bx, 0, none⟩ = some (.int .i64 (A0 : Int)) ∧ w'.cell? ⟨bx, 1, none⟩ = some (.int .i64 (A1 : Int)) ∧ Below w7.heap.size w7 w')
                (first
                  | exact FX.out _ (below_drewN hB7 1)
                  | exact FX.out _ hB8)
                ((go_at_call 19; have hBb := (‹_ ∧ _ ∧ _ ∧ Below w7.heap.size w7 _›).2.2.2; refine (ND.out _).mono ?_; rintro e w8 ⟨rfl, hb8⟩
                  have hB8 := hBb.trans (hb8.mono hBb.size)))
              have hbr8 : Below w5.heap.size w5 w8 := hbr7.trans (hB8.mono hbr7.size)
              have D8 := D7.below hB8 (Nat.le_refl _)
              have own8 := own7.below hB8 (Nat.le_refl _)
              have k38 : w8.cell? ⟨bx, 2, none⟩ = some (.int .i64 A2) := (hB8.cell (p := ⟨bx, 2, none⟩) hx2).trans k3
              have h38 : w8.cell? ⟨bh, 2, none⟩ = some (.int .i64 Nn) := (BH.out w8 hbr8).2
              have hx8 : bx < w8.heap.size := by have := hB8.size; omega
              have hd8 := D8.lt
              clear FX ND hB7 hBb hb8 hB8 D7 own7 k1 k2 k3 hbr7 hx2 hdl
              go_upto_region 18 with fail
              have hw : IntKind.i64.wrap (Nn - S) = Nn - S := IntWalk.i64_in _ ⟨by omega, by omega⟩
              obtain ⟨OK, eOK⟩ : ∃ z, nodeOk (L : Int) (Nn - S) zs x.data.toList = z := ⟨_, rfl⟩
              rw [eOK] at eH NO YES
              clear eOK
              go_cut [126] (fun b wx => b = .bool (!OK) ∧ ∃ m, wx = w8.drewN m)
              case first =>
                clear YES NO D8 own8 LSJ YY HRI BH hbr8
                cases NB
                · have EB : Hid (OK = false) := by show _ = _; rw [eH.out]; rfl
                  clear eH LE
                  go_quiet (fail)
                  go_wp2_with fail
                  go_meet
                  exact ⟨by rw [EB.out]; rfl, _, rfl⟩
                · have hle := LE.out rfl
                  have EO : Hid (OK = (!decide (ID ≤ lz) && decide (1 ≤ A2) && decide (A2 ≤ Nn - S))) := by show _ = _; rw [eH.out, hle]; rfl
                  clear eH LE hle
                  rcases (show ID ≤ lz ∨ (lz < ID ∧ A2 < 1) ∨ (lz < ID ∧ 1 ≤ A2 ∧ Nn - S < A2) ∨ (lz < ID ∧ 1 ≤ A2 ∧ A2 ≤ Nn - S) by omega) with q | ⟨q0, q⟩ | ⟨q0, q1, q2⟩ | ⟨q0, q1, q2⟩
                  · have z0 : decide (ID ≤ lz) = true := decide_eq_true q
                    have EB : Hid (OK = false) := by show _ = _; rw [EO.out, z0]; rfl
                    clear EO
                    go_quiet (fail)
                    go_wp2_with fail
                    go_meet
                    exact ⟨by rw [EB.out]; rfl, _, rfl⟩
                  · have z0 : decide (ID ≤ lz) = false := decide_eq_false (by omega)
                    have z1 : decide (A2 < 1) = true := decide_eq_true q
                    have EB : Hid (OK = false) := by show _ = _; rw [EO.out, z0, decide_eq_false (show ¬ 1 ≤ A2 by omega)]; rfl
                    clear EO
                    go_quiet (fail)
                    go_wp2_with fail
                    go_meet
                    exact ⟨by rw [EB.out]; rfl, _, rfl⟩
                  · have z0 : decide (ID ≤ lz) = false := decide_eq_false (by omega)
                    have z1 : decide (A2 < 1) = false := decide_eq_false (by omega)
                    have z2 : decide (Nn - S < A2) = true := decide_eq_true q2
                    have EB : Hid (OK = false) := by show _ = _; rw [EO.out, z0, decide_eq_false (show ¬ A2 ≤ Nn - S by omega), Bool.and_false]
                    clear EO
                    go_quiet (fail)
                    go_wp2_with fail
                    go_meet
                    exact ⟨by rw [EB.out]; rfl, _, rfl⟩
                  · have z0 : decide (ID ≤ lz) = false := decide_eq_false (by omega)
                    have z1 : decide (A2 < 1) = false := decide_eq_false (by omega)
                    have z2 : decide (Nn - S < A2) = false := decide_eq_false (by omega)
                    have EB : Hid (OK = true) := by show _ = _; rw [EO.out, z0, decide_eq_true q1, decide_eq_true q2]; rfl
                    clear EO
                    go_quiet (fail)
                    go_wp2_with fail
                    go_meet
                    exact ⟨by rw [EB.out]; rfl, _, rfl⟩
              case rest =>
                obtain ⟨rfl, m, rfl⟩ := hcut
                have hbr9 : Below w5.heap.size w5 (w8.drewN m) := below_drewN hbr8 m
                have D9 := D8.drewN m
                have own9 := own8.drewN m
                have k39 : (w8.drewN m).cell? ⟨bx, 2, none⟩ = some (.int .i64 A2) := k38
                have hd9 : w5.heap.size < (w8.drewN m).heap.size := hd8
                have hx9 : bx < (w8.drewN m).heap.size := hx8
                clear hbr8 D8 own8 k38 h38 hd8 hx8 hw
                generalize w8.drewN m = w9 at *
                cases OK
                · have P := hid (NO.out rfl)
                  obtain ⟨Y7, Z7, hbw7⟩ := YY.out w9 hbr9
                  have z0 : w9.cell? ⟨w.heap.size + 1, 0, none⟩ = some (.int .i64 0) := Z7.cell 0
                  have z1 : w9.cell? ⟨w.heap.size + 1, 1, none⟩ = some (.int .i64 0) := Z7.cell 1
                  have z2 : w9.cell? ⟨w.heap.size + 1, 2, none⟩ = some (.slice none 0 0) := Z7.cell 2
                  have y0 : w9.cell? ⟨w.heap.size, 0, none⟩ = some (.int .i64 0) := Y7.cell 0
                  have y1 : w9.cell? ⟨w.heap.size, 1, none⟩ = some (.int .i64 0) := Y7.cell 1
                  have y2 : w9.cell? ⟨w.heap.size, 2, none⟩ = some (.slice none 0 0) := Y7.cell 2
                  have g0 := Y7.free 0
                  have g1 := Y7.free 1
                  have g2 := Y7.free 2
                  clear NO YES eH eI eN LE LSJ Z7 YY D9 own9
                  go_wp2_with fail
                  refine ret_rread (YZ.out _ Y7) rfl rfl rfl rfl ?_
                  exact END1.out _ j P.out (BZ.out _ hbw7)
                · have Y := YES.out rfl
                  rw [eI.out, eN.out] at Y
                  have RY := hid Y
                  have hA2 : S + A2 ≤ Nn := Y.bS
                  have EL2 : Hid (lastV (zs ++ [(ID, A2)]) = ID) := last_snoc _ _ _
                  obtain ⟨pv, cv, rfl⟩ := own9.val
                  have hB9 : w5.heap.size + 1 ≤ w9.heap.size := by omega
                  have x2 : w9.cell? ⟨w5.heap.size, 2, none⟩ = some (.slice pv zs.length cv) := D9.cell 2
                  have x2a : (w9.alloc (.cells #[.int .i64 ID, .int .i64 A2] 55)).cell? ⟨w5.heap.size, 2, none⟩ = some (.slice pv zs.length cv) := (D9.alloc _).cell 2
                  clear Y NO YES eH eI eN LE HRI YY ELZ
                  go_upto_region 22 with fail
                  go_region_law ((refine step_appendN (w := w9.drew.alloc (.cells #[.int .i64 ID, .int .i64 A2] 55)) (H := w9.heap.size) (b := ID) (c := A2) _ _ ((own9.drewN 1).alloc _) hzl (by simp; omega) (Blk.new w9.drew _ _) (by rfl) (by rfl) (by rfl) (by rfl) ?_; intro v8 wz o8 g8; obtain ⟨p8, c8, rfl⟩ := o8.val; have X8 := ((D9.drewN 1).alloc (.cells #[.int .i64 ID, .int .i64 A2] 55)).grown g8 ((own9.drewN 1).alloc (.cells #[.int .i64 ID, .int .i64 A2] 55)).lt (Nat.lt_succ_self _); have x8 : wz.cell? ⟨w5.heap.size, 2, none⟩ = some (.slice pv zs.length cv) := X8.cell 2; have f8 := X8.free 2))
                  all_goals
                    have hbz : Below w5.heap.size w5 (wz.setCell ⟨w5.heap.size, 2, none⟩ (.slice p8 (zs.length + 1) c8)) :=
                      (hbr9.trans (((below_drewN (Below.refl w5.heap.size w9) 1).alloc (by show _ ≤ w9.heap.size; omega) _).trans (below_grown (B := w5.heap.size) g8 (by simp; omega) (fun k hk => by have := ((own9.drewN 1).alloc (.cells #[.int .i64 ID, .int .i64 A2] 55)).lt k hk; omega)))).setCell (p := ⟨w5.heap.size, 2, none⟩) (Nat.le_refl _) _
                    have DZ := X8.set 2 (.slice p8 (zs.length + 1) c8)
                    rw [show (zs ++ [(ID, A2)]).length = zs.length + 1 by simp] at o8
                    have oZ := o8.keep (w' := wz.setCell ⟨w5.heap.size, 2, none⟩ (.slice p8 (zs.length + 1) c8)) (fun k hk => Below.heap_setCell wz ⟨w5.heap.size, 2, none⟩ _ k (by have := o8.lt k hk; show k ≠ w5.heap.size; omega))
                    clear X8 x8 f8 o8 g8 hbr9 D9 own9 x2 x2a k39
                    generalize wz.setCell ⟨w5.heap.size, 2, none⟩ (.slice p8 (zs.length + 1) c8) = wy at *
                    go_wp2_with fail
                    go_roundg (N - (j + 1))
                    case rel => exact ⟨j + 1, S + A2, _, _, by rw [EL2.out], rfl, by go_num, by omega, by rw [HLL.out]; omega, by rw [HLL.out]; omega, RY, DZ, oZ, hbz⟩
                    case measure => omega
          · obtain rfl : j = N := by omega
            have htl : ls.take j = ls := List.take_of_length_le (by rw [HLL.out]; exact Nat.le_refl _)
            rw [htl] at HRI
            have hne : (linesR s.data.toList).1 ≠ [] := by rw [← E1.out]; intro h; have h2 := HLL.out; rw [h] at h2; simp at h2; omega
            have HRJ : Hid (RI (L : Int) (K : Int) Nn (linesR s.data.toList).1 S zs) := by rw [← E1.out]; exact HRI.out
            have hlj : (linesR s.data.toList).1.length = j := by rw [← E1.out]; exact HLL.out
            obtain ⟨Y7, Z7, hbw7⟩ := YY.out wr hbr
            have z0 : wr.cell? ⟨w.heap.size + 1, 0, none⟩ = some (.int .i64 0) := Z7.cell 0
            have z1 : wr.cell? ⟨w.heap.size + 1, 1, none⟩ = some (.int .i64 0) := Z7.cell 1
            have z2 : wr.cell? ⟨w.heap.size + 1, 2, none⟩ = some (.slice none 0 0) := Z7.cell 2
            have y0 : wr.cell? ⟨w.heap.size, 0, none⟩ = some (.int .i64 0) := Y7.cell 0
            have y1 : wr.cell? ⟨w.heap.size, 1, none⟩ = some (.int .i64 0) := Y7.cell 1
            have y2 : wr.cell? ⟨w.heap.size, 2, none⟩ = some (.slice none 0 0) := Y7.cell 2
            have g0 := Y7.free 0
            have g1 := Y7.free 1
            have g2 := Y7.free 2
            have zj : decide (j < j) = false := by simp
            by_cases hr : rest.data.toList = []
            · have r0 : rest.toList = [] := by rw [ByteArray.toList_eq]; exact hr
              have r1 : rest.toList.isEmpty = true := by rw [r0]; rfl
              have RE := readK_end (kind := kind) HRJ.out hne (by rw [← E2.out]; exact hr)
              obtain ⟨h0, h2'⟩ := BH.out wr hbr
              have hSn := HRI.out.bS
              clear hr hne htl hlj E1 E2 LSJ
              by_cases hS : S = Nn
              · subst hS
                have zS : (S != S) = false := by simp
                rw [if_neg (show ¬ S ≠ S by simp)] at RE
                have hkk : isK (K : Int) = true := HRI.out.isk
                have hk2 : 1 ≤ K ∧ K ≤ 1048576 := by simp only [isK, decide_eq_true_eq] at hkk; omega
                have hzl : zs.length ≤ 90000 := by have h := HRI.out.len; rw [HLL.out] at h; omega
                have CL := hid (fun W (q : RdN W v zs) => r_clight (K : Int) q hzl HRI.out.roll ⟨by omega, by omega⟩)
                have hSm := HRI.out.sum
                rw [hkk, Bool.and_true] at CL
                obtain ⟨LB, eLB⟩ : ∃ x, lightB (L : Int) zs (capV (sumL zs) (K : Int)) = x := ⟨_, rfl⟩
                rw [eLB] at CL RE
                have IP := hid (fun W => r_poolIs kind (L : Int) W)
                obtain ⟨PB, ePB⟩ : ∃ x, poolIs kind (L : Int) = x := ⟨_, rfl⟩
                rw [ePB] at IP RE
                obtain ⟨pv, cv, rfl⟩ := own.val
                have HOFF := hid (fun g (h : (Value.slice pv zs.length cv).ownBlock = some g) => (show g ≠ w.heap.size from by have := own.lt g h; omega))
                have d0 : wr.cell? ⟨w5.heap.size, 0, none⟩ = some (.int .i64 (K : Int)) := D.cell 0
                have d1 : wr.cell? ⟨w5.heap.size, 1, none⟩ = some (.int .i64 (L : Int)) := D.cell 1
                have d2 : wr.cell? ⟨w5.heap.size, 2, none⟩ = some (.slice pv zs.length cv) := D.cell 2
                clear eLB ePB HRI HRJ hkk hSm
                by_cases hlen8 : 8 * (K : Int) < (zs.length : Int)
                · have q1 : decide (8 * (K : Int) < (zs.length : Int)) = true := decide_eq_true hlen8
                  have q2 : decide (8 * K < zs.length) = true := decide_eq_true (by omega)
                  rw [if_pos (.inl hlen8)] at RE
                  have P := hid RE
                  clear RE D own Z7 CL IP hlen8
                  go_wp2_with fail
                  refine ret_rread (YZ.out _ Y7) rfl rfl rfl rfl ?_
                  exact END.out _ 0 13 P.out (BZ.out _ hbw7)
                · have q1 : decide (8 * (K : Int) < (zs.length : Int)) = false := decide_eq_false hlen8
                  have q2 : decide (8 * K < zs.length) = false := decide_eq_false (by omega)
                  have CLW := hid (CL.out wr own.rd)
                  have RDW := hid own.rd
                  cases LB
                  · rw [if_pos (.inr rfl)] at RE
                    have P := hid RE
                    clear RE own Z7 CL IP hlen8 RDW D
                    go_wp2_with fail
                    refine CLW.out.mono ?_
                    rintro e w8 ⟨rfl, hb8⟩
                    obtain ⟨Y8, Z8, hbw8⟩ := YY.out w8 (hbr.trans (hb8.mono hbr.size))
                    clear z0 z1 z2 y0 y1 y2 g0 g1 g2 Y7 hbw7
                    have z0 : w8.cell? ⟨w.heap.size + 1, 0, none⟩ = some (.int .i64 0) := Z8.cell 0
                    have z1 : w8.cell? ⟨w.heap.size + 1, 1, none⟩ = some (.int .i64 0) := Z8.cell 1
                    have z2 : w8.cell? ⟨w.heap.size + 1, 2, none⟩ = some (.slice none 0 0) := Z8.cell 2
                    have y0 : w8.cell? ⟨w.heap.size, 0, none⟩ = some (.int .i64 0) := Y8.cell 0
                    have y1 : w8.cell? ⟨w.heap.size, 1, none⟩ = some (.int .i64 0) := Y8.cell 1
                    have y2 : w8.cell? ⟨w.heap.size, 2, none⟩ = some (.slice none 0 0) := Y8.cell 2
                    have g0 := Y8.free 0
                    have g1 := Y8.free 1
                    have g2 := Y8.free 2
                    go_wp2_with fail
                    refine ret_rread (YZ.out _ Y8) rfl rfl rfl rfl ?_
                    exact END.out _ 0 13 P.out (BZ.out _ hbw8)
                  · rw [if_neg (by simpa using hlen8)] at RE
                    have RE := hid RE
                    clear own Z7 CL hlen8
                    go_wp2_with fail
                    refine CLW.out.mono ?_
                    rintro e w8 ⟨rfl, hb8⟩
                    obtain ⟨Y8, Z8, hbw8⟩ := YY.out w8 (hbr.trans (hb8.mono hbr.size))
                    have h08 := (BH.out w8 (hbr.trans (hb8.mono hbr.size))).1
                    have D8 := D.below hb8 (Nat.le_refl _)
                    have RD8 := hid (RDW.out.below hb8 (Nat.le_refl _))
                    clear z0 z1 z2 y0 y1 y2 g0 g1 g2 Y7 hbw7 h0 D d0 d1 d2
                    have z0 : w8.cell? ⟨w.heap.size + 1, 0, none⟩ = some (.int .i64 0) := Z8.cell 0
                    have z1 : w8.cell? ⟨w.heap.size + 1, 1, none⟩ = some (.int .i64 0) := Z8.cell 1
                    have z2 : w8.cell? ⟨w.heap.size + 1, 2, none⟩ = some (.slice none 0 0) := Z8.cell 2
                    have y0 : w8.cell? ⟨w.heap.size, 0, none⟩ = some (.int .i64 0) := Y8.cell 0
                    have y1 : w8.cell? ⟨w.heap.size, 1, none⟩ = some (.int .i64 0) := Y8.cell 1
                    have y2 : w8.cell? ⟨w.heap.size, 2, none⟩ = some (.slice none 0 0) := Y8.cell 2
                    have g0 := Y8.free 0
                    have g1 := Y8.free 1
                    have g2 := Y8.free 2
                    go_wp2_with fail
                    refine (IP.out _).mono ?_
                    rintro e w' ⟨rfl, rfl⟩
                    cases PB
                    · have P : Hid (readK kind s.data.toList = .inl (0, 2)) := by show _ = _; rw [RE.out]; rfl
                      go_wp2_with fail
                      refine ret_rread (YZ.out _ Y8) rfl rfl rfl rfl ?_
                      exact END.out _ 0 2 P.out (BZ.out _ hbw8)
                    · have P : Hid (readK kind s.data.toList = .inr ((L : Int), (K : Int), zs)) := by show _ = _; rw [RE.out]; rfl
                      have d0 : w8.cell? ⟨w5.heap.size, 0, none⟩ = some (.int .i64 (K : Int)) := D8.cell 0
                      have d1 : w8.cell? ⟨w5.heap.size, 1, none⟩ = some (.int .i64 (L : Int)) := D8.cell 1
                      have d2 : w8.cell? ⟨w5.heap.size, 2, none⟩ = some (.slice pv zs.length cv) := D8.cell 2
                      clear z0 z1 z2
                      have YE : Blk (((w8.setCell ⟨w.heap.size, 0, none⟩ (.int .i64 (K : Int))).setCell ⟨w.heap.size, 1, none⟩ (.int .i64 (L : Int))).setCell ⟨w.heap.size, 2, none⟩ (.slice pv zs.length cv)) w.heap.size #[.int .i64 (K : Int), .int .i64 (L : Int), .slice pv zs.length cv] 27 := ((Y8.set 0 _).set 1 _).set 2 _
                      have BE : Below w.heap.size w (((w8.setCell ⟨w.heap.size, 0, none⟩ (.int .i64 (K : Int))).setCell ⟨w.heap.size, 1, none⟩ (.int .i64 (L : Int))).setCell ⟨w.heap.size, 2, none⟩ (.slice pv zs.length cv)) := ((hbw8.setCell (p := ⟨w.heap.size, 0, none⟩) (Nat.le_refl _) _).setCell (p := ⟨w.heap.size, 1, none⟩) (Nat.le_refl _) _).setCell (p := ⟨w.heap.size, 2, none⟩) (Nat.le_refl _) _
                      have RE2 : Hid (RdN (((w8.setCell ⟨w.heap.size, 0, none⟩ (.int .i64 (K : Int))).setCell ⟨w.heap.size, 1, none⟩ (.int .i64 (L : Int))).setCell ⟨w.heap.size, 2, none⟩ (.slice pv zs.length cv)) (.slice pv zs.length cv) zs) := by
                        refine RD8.out.keep (fun g hg hown => ?_) (by simp)
                        have hgw : g ≠ w.heap.size := HOFF.out g hown
                        exact ((Below.heap_setCell _ ⟨w.heap.size, 2, none⟩ _ g hgw).trans (Below.heap_setCell _ ⟨w.heap.size, 1, none⟩ _ g hgw)).trans (Below.heap_setCell _ ⟨w.heap.size, 0, none⟩ _ g hgw)
                      have YE := hid YE
                      have BE := hid BE
                      go_wp2_with fail
                      refine ret_rread YE.out rfl rfl rfl rfl ?_
                      exact .inr ⟨_, _, zs, _, P.out, rfl, RE2.out, BE.out⟩
              · have zS : (S != Nn) = true := by simpa using hS
                rw [if_pos hS] at RE
                have P := hid RE
                clear RE HRI HRJ D own Z7
                go_wp2_with fail
                refine ret_rread (YZ.out _ Y7) rfl rfl rfl rfl ?_
                exact END.out _ 0 10 P.out (BZ.out _ hbw7)
            · have r0 : ¬ rest.toList = [] := by rw [ByteArray.toList_eq]; exact hr
              have r1 : rest.toList.isEmpty = false := by simpa using r0
              have P := hid (readK_rest (kind := kind) HRJ.out hne (by rw [← E2.out]; exact hr))
              rw [hlj] at P
              clear hr hne htl hlj E1 E2 HRI HRJ D own Z7 LSJ
              go_wp2_with fail
              refine ret_rread (YZ.out _ Y7) rfl rfl rfl rfl ?_
              exact END1.out _ j P.out (BZ.out _ hbw7)
end Go.Proofs.YthdljlclcepnhaaGreat
