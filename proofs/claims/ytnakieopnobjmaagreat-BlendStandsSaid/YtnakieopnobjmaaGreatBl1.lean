/- The walks of slices.Grow, slices.Concat, roll.Fold, roll.Join. -/
import Derived.Test.YtnakieopnobjmaaGreatBlMath
import Derived.Laws.Append
namespace Go.Proofs.YtnakieopnobjmaaGreat
open Go.RowKit Nl

/-- append(nil, make([]T, n)...). -/
theorem run_append_zeros (w : World) (n : Nat) (h0 : 0 < n) (hn : n ≤ 4194304) (ty : TypeId) :
    (Builtin.append_ #[33, 3] ty #[.slice none 0 0, .int .i64 n]).run Tryz.prog w =
      .ok (.slice (some ⟨w.heap.size, 0, none⟩) n (grownCap w n 0 93))
        (w.drew.alloc (.cells (Builtin.zeroCells #[.int .i64 0, .int .i64 0] n ++ Builtin.zeroCells #[.int .i64 0, .int .i64 0] (grownCap w n 0 93 - n)) 93)) := by
  obtain ⟨i0, hi, hz0, hz1, hz2⟩ := info_parts Tryz.infoNode
  have hw : IntKind.i64.wrap (n : Int) = n := IntWalk.i64_in _ ⟨by omega, by omega⟩
  have h48 : ¬ (281474976710656 < (n : Int) * 16) := by omega
  have h48' : ¬ (281474976710656 < Builtin.nextslicecap n 0 * 16) := by rw [nextslicecap_zero h0]; omega
  have h63 : ¬ (9223372036854775807 < (n : Int)) := by omega
  have hne : n ≠ 0 := by omega
  have hlt : ¬ ((n : Int) < 0) := by omega
  simp [Builtin.append_, run_underlying Tryz.underlying33, run_underlying Tryz.underlying3, sizeOf, typeInfo, zeroValue, hi, hz0, hz1, hz2, asInt, asIntOf, hw, h48, h48', h63, hne, hlt, Builtin.firstCells, Question.forced, newRow, grownCap, Value.cells]
  intro h; omega

/-- The same in a walk: an own slice of no nodes, with room. -/
theorem appendZ {ops : Array Oper} {rest : List Oper} {o : Oper} {a : Act} {Q : Exit → Act → World → Prop} {w : World} (s x : Operand) (n : Nat) (h0 : 0 < n) (hn : n ≤ 4194304)
    (hgd : o.guard = none) (ho : o.op = .call { callee := .builtin .append, args := #[s, x], argTypes := #[33, 3] })
    (hv : a.eval s = .slice none 0 0) (hx : a.eval x = .int .i64 n)
    (h : ∀ C w', OwnN w' w.heap.size (.slice (some ⟨w.heap.size, 0, none⟩) 0 C) [] → n ≤ C → Below w.heap.size w w' → w.heap.size < w'.heap.size → wpList Tryz.prog ops Q rest (a.put o.dst (.slice (some ⟨w.heap.size, 0, none⟩) n C)) w') :
    wpList Tryz.prog ops Q (o :: rest) a w := by
  have hrun := run_append_zeros w n h0 hn o.type
  have hge := grownCap_ge w n 0 93
  have hle := grownCap_le_maxLen w n 0 93 (by unfold maxLen; omega)
  generalize grownCap w n 0 93 = C at *
  refine wpList_plain hgd fun K hK' => ?_
  unfold Oper.wp
  simp [execOp, ho, resolve, invoke, builtin, hv, hx, hrun, Result.andThen]
  refine hK' _ _ (h C _ ?_ hge ?_ (by simp))
  · refine ⟨rfl, .inr ⟨w.heap.size, C, _, rfl, Nat.le_refl _, heap_alloc_new w.drew _, Nat.zero_le _, hle, ?_, rfl⟩⟩
    simp [Builtin.zeroCells]; omega
  · exact (below_drewN (Below.refl w.heap.size w) 1).alloc (Nat.le_refl _) _

set_option maxRecDepth 100000 in
set_option maxHeartbeats 1000000 in
theorem o_grow (w : World) (n : Nat) (hn : n ≤ 4194304) :
    Calls Tryz.prog 135 #[.slice none 0 0, .int .i64 n] w (IsNodes [] w) := by
  by_cases h0 : 0 < n
  · go_enter Tryz.func135, Tryz.ntmps135
    go_wp2_with (at_builtin; refine appendZ _ _ n h0 hn rfl rfl rfl rfl ?_; intro C w1 ho hC hb hs)
    go_ret
    exact ⟨_, rfl, ho, hb⟩
  · obtain rfl : n = 0 := by omega
    go_enter Tryz.func135, Tryz.ntmps135
    go_wp2_with fail
    go_ret
    exact ⟨_, rfl, OwnN.nil _ _, Below.refl _ _⟩

def CatRel (w : World) (xs ys : List Nd) (out i : Value) (wr : World) : Prop :=
  ∃ (k : Nat), i = .int .i64 k ∧ k ≤ 2 ∧ OwnN wr w.heap.size out (if k = 0 then [] else if k = 1 then xs else xs ++ ys) ∧ Below w.heap.size w wr
set_option maxRecDepth 100000 in
set_option maxHeartbeats 2000000 in
theorem o_concat {w : World} {g : Nat} {va vb : Value} {xs ys : List Nd} {T : TypeId} (hB : Blk w g #[va, vb] T) (ha : RdN w va xs) (hb : RdN w vb ys) (hx : xs.length ≤ 2000000) (hy : ys.length ≤ 2000000) (hxy : xs.length + ys.length ≤ 2000000) :
    Calls Tryz.prog 100 #[.slice (some ⟨g, 0, none⟩) 2 2] w (IsNodes (xs ++ ys) w) := by
  obtain ⟨pa, ca, rfl⟩ := ha.val
  obtain ⟨pb, cb, rfl⟩ := hb.val
  obtain ⟨N, eN⟩ : ∃ N, xs.length = N := ⟨_, rfl⟩
  obtain ⟨M, eM⟩ : ∃ M, ys.length = M := ⟨_, rfl⟩
  have EN := hid eN
  have EM := hid eM
  rw [eN] at hx hxy hB ha
  rw [eM] at hy hxy hB hb
  have hl := hB.lt
  have c0 : w.cell? ⟨g, 0, none⟩ = some (.slice pa N ca) := hB.cell 0
  have c1 : w.cell? ⟨g, 1, none⟩ = some (.slice pb M cb) := hB.cell 1
  have GR := hid (fun (n : Nat) (hn : n ≤ 4194304) => o_grow w n hn)
  clear eN eM
  go_enter Tryz.func100, Tryz.ntmps100
  go_wp2_with fail
  go_loop [3, 11] (fun n i => ∃ k : Nat, i = .int .i64 k ∧ k ≤ 2 ∧ n = .int .i64 ((if k = 0 then 0 else if k = 1 then N else N + M : Nat) : Int)) (fun _ i => 2 - (intOf i).toNat)
  case atStart => exact ⟨0, rfl, by omega, rfl⟩
  case round =>
    obtain ⟨k, rfl, hk, rfl⟩ := hrel
    have hk3 : k = 0 ∨ k = 1 ∨ k = 2 := by omega
    rcases hk3 with rfl | rfl | rfl
    · go_wp2_with fail
      go_round
      case rel => exact ⟨1, by go_num, by omega, by simp⟩
      case measure => simp [intOf]
    · go_wp2_with fail
      go_round
      case rel => exact ⟨2, by go_num, by omega, by simp⟩
      case measure => simp [intOf]
    · have G0 := GR.out (N + M) (by omega)
      rw [Int.natCast_add] at G0
      go_wp2_with fail
      refine G0.mono ?_
      rintro e w1 ⟨v1, rfl, o1, hb1⟩
      have hs1 := hb1.size
      have hB1 := hB.below hb1 (Nat.le_refl _)
      have ha1 := ha.below hb1 (Nat.le_refl _)
      have hb1' := hb.below hb1 (Nat.le_refl _)
      have hl1 : g < w1.heap.size := by omega
      clear c0 c1 G0
      go_wp2_with fail
      go_loopw [6, 27] (fun out i wr => CatRel w xs ys out i wr) (fun _ i _ => 2 - (intOf i).toNat)
      case atStart => exact ⟨0, rfl, by omega, by simpa using o1, hb1⟩
      case round =>
        obtain ⟨k, rfl, hk, ho, hbl⟩ := hrel
        have hwr := hbl.size
        have hB2 := hB.below hbl (Nat.le_refl _)
        have c0 : wr.cell? ⟨g, 0, none⟩ = some (.slice pa N ca) := hB2.cell 0
        have c1 : wr.cell? ⟨g, 1, none⟩ = some (.slice pb M cb) := hB2.cell 1
        have hk3 : k = 0 ∨ k = 1 ∨ k = 2 := by omega
        rcases hk3 with rfl | rfl | rfl
        · have ho' : OwnN wr w.heap.size _ [] := ho
          have ra := ha.below hbl (Nat.le_refl _)
          clear ho
          go_wp2_with (at_builtin; refine appendsN _ _ ho' ra (by rw [EN.out]; simp; omega) (by omega) rfl rfl rfl rfl ?_; intro v2 w2 ho2 hg2)
          go_roundw
          case rel => exact ⟨1, by go_num, by omega, by simpa using ho2, hbl.trans (below_grown hg2 hwr ho'.lt)⟩
          case measure => simp [intOf]
        · have ho' := ho; rw [if_neg (by decide), if_pos rfl] at ho'
          have rb := hb.below hbl (Nat.le_refl _)
          clear ho
          go_wp2_with (at_builtin; refine appendsN _ _ ho' rb (by rw [EN.out, EM.out]; omega) (by omega) rfl rfl rfl rfl ?_; intro v2 w2 ho2 hg2)
          go_roundw
          case rel => exact ⟨2, by go_num, by omega, by simpa using ho2, hbl.trans (below_grown hg2 hwr ho'.lt)⟩
          case measure => simp [intOf]
        · have ho' := ho; rw [if_neg (by decide), if_neg (by decide)] at ho'
          clear ho
          go_wp2_with fail
          go_ret
          exact ⟨_, rfl, ho', hbl⟩

/-- What a fold leaves. -/
def foldZ (xs : List Nd) : List Nd := (foldL xs).getD []
def FoldOk (zs : List Nd) (w : World) (e : Ending) (w' : World) : Prop := ∃ v, e = .returned (.tuple #[v, .bool true]) ∧ OwnN w' w.heap.size v zs ∧ Below w.heap.size w w'
def OFoldRel (w1 : World) (ss : List Nd) (R : Option (List Nd)) (out i : Value) (wr : World) : Prop :=
  ∃ (k : Nat) (zs : List Nd), i = .int .i64 k ∧ k ≤ ss.length ∧ zs.length ≤ k ∧ OwnN wr w1.heap.size out zs ∧ Hid (R = pass zs (ss.drop k)) ∧ Hid (Pos zs ∧ sumL zs + sumL (ss.drop k) ≤ 72057594037927935) ∧ Below w1.heap.size w1 wr

set_option maxRecDepth 100000 in
set_option maxHeartbeats 4000000 in
theorem o_fold {v : Value} {xs : List Nd} (w : World) (hr : RdN w v xs) (hl : xs.length < 1048576) (hp : ∀ x ∈ xs, 1 ≤ x.1 ∧ 0 < x.2) (hs : sumL xs ≤ 72057594037927935) (hn : NB xs) :
    Calls Tryz.prog 88 #[v] w (FoldOk (foldZ xs) w) := by
  have hpos : Pos xs := fun x hx => by have := (hp x hx).2; omega
  have ht : totOk xs = true := by unfold totOk; rw [totF_pos hpos (by omega)]; rfl
  have To := hid (o_total w hr hn (by omega))
  rw [ht] at To
  have So := hid (fun W (q : RdN W v xs) => o_sorted W q hl)
  obtain ⟨ss, es⟩ : ∃ ss, sortL xs = ss := ⟨_, rfl⟩
  have hf : Hid (foldL xs = pass [] ss) := by show _ = _; unfold foldL; rw [ht, es]; rfl
  have hZ : Hid (foldZ xs = (foldL xs).getD []) := rfl
  have hsp : ∀ x ∈ ss, 1 ≤ x.1 ∧ 0 < x.2 := fun x hx => hp x ((sortL_mem xs x).1 (by rw [es]; exact hx))
  have Hsp := hid hsp
  have hss : sumL ss ≤ 72057594037927935 := by rw [← es, sortL_sum]; exact hs
  have hsl : ss.length < 1048576 := by rw [← es, sortL_length]; exact hl
  have Hss := hid hss
  rw [es] at So
  clear ht es hsp hss hpos hp hs
  go_enter Tryz.func88, Tryz.ntmps88
  go_wp2_with fail
  refine To.out.mono ?_
  rintro e w0 ⟨rfl, hb0⟩
  have hs0 := hb0.size
  have hr0 := hr.below hb0 (Nat.le_refl _)
  go_wp2_with fail
  refine (So.out _ hr0).mono ?_
  rintro e w1 ⟨v1, rfl, ho1, hb1⟩
  have hw1 := hb1.size
  have hr1 := ho1.rd
  obtain ⟨p1, cap1, rfl⟩ := hr1.val
  have hbw1 := hb0.trans (hb1.mono hs0)
  clear hr hr0 To So
  go_wp2_with fail
  go_loopw [6, 20] (fun out i wr => OFoldRel w1 ss (foldL xs) out i wr) (fun _ i _ => ss.length - (intOf i).toNat)
  case atStart => exact ⟨0, [], rfl, by omega, by simp, OwnN.nil _ _, hf.out, ⟨(fun x hx => by cases hx), by have := Hss.out; simp [sumL]; exact this⟩, Below.refl _ _⟩
  case round =>
    obtain ⟨k, zs, rfl, hk, hzl, hown, hp, hsum, hbl⟩ := hrel
    have hwr := hbl.size
    by_cases h1 : k < ss.length
    · have hr2 := hr1.below hbl (Nat.le_refl _)
      obtain ⟨g, off, a, c, rfl, ex, hg, c1, c2⟩ := hr2.at h1
      have hac := Hsp.out _ (getD_mem (d := ((0, 0) : Nd)) ss k h1)
      rw [ex] at hac
      simp only at hac
      obtain ⟨ha1, hc0⟩ := hac
      have hp' : Hid (foldL xs = pass (mstep zs (a, c)) (ss.drop (k + 1))) := by
        have := hp.out; rw [drop_at (d := ((0, 0) : Nd)) ss k h1, ex] at this; rw [pass, if_neg (by show ¬ a < 1; omega)] at this; exact this
      have hsum' : Hid (sumL zs + c + sumL (ss.drop (k + 1)) ≤ 72057594037927935) := by
        have := hsum.out.2; rw [drop_at (d := ((0, 0) : Nd)) ss k h1, ex] at this; simp only [sumL] at this; show _ ≤ _; omega
      have hrest : Hid (0 ≤ sumL (ss.drop (k + 1))) := sumL_nonneg (fun x hx => by have := (Hsp.out x (List.mem_of_mem_drop hx)).2; omega)
      have hzp := hid hsum.out.1
      have hcz : (c == 0) = false := by simp; omega
      have hba : Below wr.heap.size wr (wr.alloc (.cells #[.int .i64 a, .int .i64 c] 93)) := (Below.refl _ _).alloc (Nat.le_refl _) _
      have O := Blk.new wr #[.int .i64 a, .int .i64 c] 93
      have hown2 := hown.below hba (Nat.le_refl _)
      have hbl2 := hbl.trans (hba.mono hwr)
      have hsa : (wr.alloc (.cells #[.int .i64 a, .int .i64 c] 93)).heap.size = wr.heap.size + 1 := by simp
      have hms1 := hid (mstep_sum zs (a, c))
      have hms2 := hid (mstep_pos hzp.out (x := (a, c)) (Int.le_of_lt hc0))
      clear hp hsum ex hr2
      by_cases hz : 0 < zs.length
      · rcases hown2.shape with ⟨_, h⟩ | ⟨h, cap2, rfl, hB, hlt, hcap, hcz2⟩
        · subst h; simp at hz
        have hcz' := hcz2 (zs.length - 1) (by omega)
        obtain ⟨⟨b, d⟩, ez⟩ : ∃ x, zs.getD (zs.length - 1) (0, 0) = x := ⟨_, rfl⟩
        rw [ez] at hcz'
        obtain ⟨c3, c4⟩ := hcz'
        have hd0 : 0 ≤ d := by have := hzp.out _ (getD_mem (d := ((0, 0) : Nd)) zs (zs.length - 1) (by omega)); rw [ez] at this; exact this
        have hds : d + c ≤ 72057594037927935 := by
          have := hzp.out.le_sum _ (getD_mem (d := ((0, 0) : Nd)) zs (zs.length - 1) (by omega))
          rw [ez] at this
          have := hsum'.out; have := hrest.out; omega
        have Ez := hid ez
        have hfz := fun j => World.ownsRow.frozenAt hown2 j
        clear hcz2 ez
        have x0 : (wr.alloc (.cells #[.int .i64 a, .int .i64 c] 93)).cell? ⟨wr.heap.size, 0, none⟩ = some (.int .i64 a) := O.cell 0
        have x1 : (wr.alloc (.cells #[.int .i64 a, .int .i64 c] 93)).cell? ⟨wr.heap.size, 1, none⟩ = some (.int .i64 c) := O.cell 1
        have hB1 : w1.heap.size ≤ h := hB
        by_cases hbq : b = a
        · have h5 : (b == a) = true := by simpa using hbq
          have hms : mstep zs (a, c) = zs.set (zs.length - 1) ((zs.getD (zs.length - 1) (0, 0)).1, d + c) := by
            unfold mstep
            rw [if_neg (by show ¬ c = 0; omega), if_pos ⟨hz, by rw [Ez.out]; exact hbq⟩, Ez.out]
            conv => rhs; rw [last_split hz]
            simp
          have Hms := hid hms
          have hfz1 := hfz ((zs.length - 1) * 2 + 1)
          clear hms hbq hfz
          go_wp2_with fail
          go_quiet (fail)
          go_wp2_with fail
          go_region
          go_wp2_with fail
          go_roundw
          case rel =>
            refine ⟨k + 1, zs.set (zs.length - 1) ((zs.getD (zs.length - 1) (0, 0)).1, d + c), by go_num, by omega, by simp; omega, ?_, ?_, ?_, ?_⟩
            · exact (hown2.drewN (nq + 1)).store (zs.length - 1) (d + c)
            · show _ = _
              rw [hp'.out, Hms.out]
            · have h : sumL (mstep _ (a, c)) = _ + c := hms1.out
              have h5 := hms2.out
              rw [Hms.out] at h h5
              exact ⟨h5, by have := hsum'.out; omega⟩
            · exact (below_drewN hbl2 (nq + 1)).setCell hB1 _
          case measure => simp [intOf]; omega
        · have h5 : (b == a) = false := by simpa using hbq
          have hms : mstep zs (a, c) = zs ++ [(a, c)] := by
            unfold mstep
            rw [if_neg (by show ¬ c = 0; omega), if_neg (fun h => hbq (by have := h.2; rw [Ez.out] at this; exact this))]
          have Hms := hid hms
          clear hms hbq hfz
          go_wp2_with fail
          go_quiet (fail)
          go_wp2_with (at_builtin; refine appendN (wr := (wr.alloc (.cells #[.int .i64 a, .int .i64 c] 93)).drewN nq) (b := a) (c := c) _ _ (hown2.drewN nq) (by first | omega | simp) (by simp; omega) rfl rfl rfl rfl (by simp [go_sem]) ?_; intro v' w3 ho3 hg3 hnn)
          go_roundw
          case rel =>
            refine ⟨k + 1, _, by go_num, by omega, ?_, ho3, ?_, ?_, (below_drewN hbl2 _).trans (below_grown hg3 (by simp; omega) hown2.lt)⟩
            · simp <;> omega
            · show _ = _
              rw [hp'.out, Hms.out]
            · have h : sumL (mstep _ (a, c)) = _ + c := hms1.out
              have h5 := hms2.out
              rw [Hms.out] at h h5
              exact ⟨h5, by have := hsum'.out; omega⟩
          case measure => simp [intOf]; omega
      · obtain rfl : zs = [] := List.eq_nil_of_length_eq_zero (by omega)
        have h5 : decide ((0 : Int) < (([] : List Nd).length : Int)) = false := by simp
        have hms : mstep [] (a, c) = [] ++ [(a, c)] := by
          unfold mstep
          rw [if_neg (by show ¬ c = 0; omega), if_neg (by simp)]
        have Hms := hid hms
        clear hms
        obtain ⟨p2, cap2, rfl⟩ := hown2.val
        go_wp2_with fail
        go_quiet (fail)
        go_wp2_with (at_builtin; refine appendN (wr := (wr.alloc (.cells #[.int .i64 a, .int .i64 c] 93)).drewN nq) (b := a) (c := c) _ _ (hown2.drewN nq) (by first | omega | simp) (by simp; omega) rfl rfl rfl rfl (by simp [go_sem]) ?_; intro v' w3 ho3 hg3 hnn)
        go_roundw
        case rel =>
          refine ⟨k + 1, _, by go_num, by omega, ?_, ho3, ?_, ?_, (below_drewN hbl2 _).trans (below_grown hg3 (by simp; omega) hown2.lt)⟩
          · simp <;> omega
          · show _ = _
            rw [hp'.out, Hms.out]
          · have h : sumL (mstep _ (a, c)) = _ + c := hms1.out
            have h5 := hms2.out
            rw [Hms.out] at h h5
            exact ⟨h5, by have := hsum'.out; omega⟩
        case measure => simp [intOf]; omega
    · go_wp2_with fail
      go_ret2
      refine ⟨_, rfl, ?_, hbw1.trans (hbl.mono (by omega))⟩
      rw [hZ.out, hp.out, List.drop_eq_nil_of_le (by omega)]
      exact hown.mono (by omega)

set_option maxRecDepth 100000 in
set_option maxHeartbeats 1000000 in
theorem o_join {va vb : Value} {xs ys : List Nd} (w : World) (ha : RdN w va xs) (hb : RdN w vb ys) (hxy : xs.length + ys.length ≤ 100000) (hp : ∀ x ∈ xs ++ ys, 1 ≤ x.1 ∧ 0 < x.2) (hs : sumL (xs ++ ys) ≤ 72057594037927935) (hn : NB (xs ++ ys)) :
    Calls Tryz.prog 67 #[va, vb] w (FoldOk (joinL xs ys) w) := by
  have FO := hid (fun W v (q : RdN W v (xs ++ ys)) => o_fold W q (by simp; omega) hp hs hn)
  have hba : Below w.heap.size w (w.alloc (.cells #[va, vb] 33)) := (Below.refl _ _).alloc (Nat.le_refl _) _
  have hsa : (w.alloc (.cells #[va, vb] 33)).heap.size = w.heap.size + 1 := by simp
  have CO := hid (o_concat (Blk.new w #[va, vb] 33) (ha.below hba (Nat.le_refl _)) (hb.below hba (Nat.le_refl _)) (by omega) (by omega) (by omega))
  obtain ⟨pa, ca, rfl⟩ := ha.val
  obtain ⟨pb, cb, rfl⟩ := hb.val
  have hJ : Hid (foldZ (xs ++ ys) = joinL xs ys) := rfl
  clear ha hb hp hs hn
  go_enter Tryz.func67, Tryz.ntmps67
  go_wp2_with fail
  refine CO.out.mono ?_
  rintro e w2 ⟨v2, rfl, o2, hb2⟩
  have hs2 := hb2.size
  go_wp2_with fail
  refine (FO.out _ _ o2.rd).mono ?_
  rintro e w3 ⟨v3, rfl, o3, hb3⟩
  rw [hJ.out] at o3
  go_wp2_with fail
  go_ret2
  exact ⟨_, rfl, o3.mono (by omega), (hba.trans (hb2.mono (by omega))).trans (hb3.mono (by omega))⟩
end Go.Proofs.YtnakieopnobjmaaGreat
