/- Texts laid together. -/
import Derived.Test.YtdnlejboijkcfaaGreatDoorP11
import Derived.Laws.Append
import Derived.Test.YtdnlejboijkcfaaGreatDoorP15
import Derived.Test.YtdnlejboijkcfaaGreatDoorP12
import Derived.Deep.RegionWith
import Derived.Laws.StructEq
/- Texts laid together: Bl1, Bl2, Bl3, Bl4. -/
/- The walks of slices.Grow, slices.Concat, roll.Fold, roll.Join. -/
namespace Go.Proofs.YtdnlejboijkcfaaGreatDoor
set_option maxHeartbeats 8000000
set_option maxRecDepth 100000
open Go.RowKit Nl
theorem run_append_zeros (w : World) (n : Nat) (h0 : 0 < n) (hn : n ≤ 4194304) (ty : TypeId) :
    (Builtin.append_ #[113, 3] ty #[.slice none 0 0, .int .i64 n]).run Tryz.prog w =
      .ok (.slice (some ⟨w.heap.size, 0, none⟩) n (grownCap w n 0 116))
        (w.drew.alloc (.cells (Builtin.zeroCells #[.int .i64 0, .int .i64 0] n ++ Builtin.zeroCells #[.int .i64 0, .int .i64 0] (grownCap w n 0 116 - n)) 116)) := by
  obtain ⟨i0, hi, hz0, hz1, hz2⟩ := info_parts Tryz.infoNode
  have hw : IntKind.i64.wrap (n : Int) = n := IntWalk.i64_in _ ⟨by omega, by omega⟩
  have h48 : ¬ (281474976710656 < (n : Int) * 16) := by omega
  have h48' : ¬ (281474976710656 < Builtin.nextslicecap n 0 * 16) := by rw [nextslicecap_zero h0]; omega
  have h63 : ¬ (9223372036854775807 < (n : Int)) := by omega
  have hne : n ≠ 0 := by omega
  have hlt : ¬ ((n : Int) < 0) := by omega
  simp [Builtin.append_, run_underlying Tryz.underlying113, run_underlying Tryz.underlying3, sizeOf, typeInfo, zeroValue, hi, hz0, hz1, hz2, asInt, asIntOf, hw, h48, h48', h63, hne, hlt, Builtin.firstCells, Question.forced, newRow, grownCap, Value.cells]
  intro h; omega
theorem appendZ {ops : Array Oper} {rest : List Oper} {o : Oper} {a : Act} {Q : Exit → Act → World → Prop} {w : World} (s x : Operand) (n : Nat) (h0 : 0 < n) (hn : n ≤ 4194304)
    (hgd : o.guard = none) (ho : o.op = .call { callee := .builtin .append, args := #[s, x], argTypes := #[113, 3] })
    (hv : a.eval s = .slice none 0 0) (hx : a.eval x = .int .i64 n)
    (h : ∀ C w', OwnN w' w.heap.size (.slice (some ⟨w.heap.size, 0, none⟩) 0 C) [] → n ≤ C → Below w.heap.size w w' → w.heap.size < w'.heap.size → wpList Tryz.prog ops Q rest (a.put o.dst (.slice (some ⟨w.heap.size, 0, none⟩) n C)) w') :
    wpList Tryz.prog ops Q (o :: rest) a w := by
  have hrun := run_append_zeros w n h0 hn o.type
  have hge := grownCap_ge w n 0 116
  have hle := grownCap_le_maxLen w n 0 116 (by unfold maxLen; omega)
  generalize grownCap w n 0 116 = C at *
  refine wpList_plain hgd fun K hK' => ?_
  unfold Oper.wp
  simp [execOp, ho, resolve, invoke, builtin, hv, hx, hrun, Result.andThen]
  refine hK' _ _ (h C _ ?_ hge ?_ (by simp))
  · refine ⟨rfl, .inr ⟨w.heap.size, C, _, rfl, nlr, heap_alloc_new w.drew _, Nat.zero_le _, hle, ?_, rfl⟩⟩
    simp [Builtin.zeroCells]; omega
  · exact (below_drewN (Below.refl w.heap.size w) 1).alloc nlr _
theorem o_grow (w : World) (n : Nat) (hn : n ≤ 4194304) :
    Calls Tryz.prog 230 #[.slice none 0 0, .int .i64 n] w (IsNodes [] w) := by
  by_cases h0 : 0 < n
  · go_enter Tryz.func230, Tryz.ntmps230
    go_wp2_with (at_builtin; refine appendZ _ _ n h0 hn rfl rfl rfl rfl ?_; intro C w1 ho hC hb hs)
    go_ret
    exact ⟨_, rfl, ho, hb⟩
  · obtain rfl : n = 0 := by omega
    go_enter Tryz.func230, Tryz.ntmps230
    go_wp2_with fail
    go_ret
    exact ⟨_, rfl, OwnN.nil _ _, Below.refl _ _⟩
def CatRel (w : World) (xs ys : List Nd) (out i : Value) (wr : World) : Prop :=
  ∃ (k : Nat), i = .int .i64 k ∧ k ≤ 2 ∧ OwnN wr w.heap.size out (if k = 0 then [] else if k = 1 then xs else xs ++ ys) ∧ Below w.heap.size w wr
theorem o_concat {w : World} {g : Nat} {va vb : Value} {xs ys : List Nd} {T : TypeId} (hB : Blk w g #[va, vb] T) (ha : RdN w va xs) (hb : RdN w vb ys) (hx : xs.length ≤ 2000000) (hy : ys.length ≤ 2000000) (hxy : xs.length + ys.length ≤ 2000000) :
    Calls Tryz.prog 213 #[.slice (some ⟨g, 0, none⟩) 2 2] w (IsNodes (xs ++ ys) w) := by
  obtain ⟨pa, ca, rfl⟩ := ha.val
  obtain ⟨pb, cb, rfl⟩ := hb.val
  obtain ⟨N, eN⟩ : ∃ N, xs.length = N := ⟨_, rfl⟩
  obtain ⟨M, eM⟩ : ∃ M, ys.length = M := ⟨_, rfl⟩
  have EN := hid eN
  have EM := hid eM
  rw [eN] at hx hxy hB ha
  rw [eM] at hy hxy hB hb
  have hl := hB.lt
  have c0 : w.cell? ⟨g, 0, none⟩ = some (.slice pa N ca) := hB.cell 0
  have c1 : w.cell? ⟨g, 1, none⟩ = some (.slice pb M cb) := hB.cell 1
  have GR := hid (fun (n : Nat) (hn : n ≤ 4194304) => o_grow w n hn)
  clear eN eM
  go_enter Tryz.func213, Tryz.ntmps213
  go_wp2_with fail
  go_loop [3, 11] (fun n i => ∃ k : Nat, i = .int .i64 k ∧ k ≤ 2 ∧ n = .int .i64 ((if k = 0 then 0 else if k = 1 then N else N + M : Nat) : Int)) (fun _ i => 2 - (intOf i).toNat)
  case atStart => exact ⟨0, rfl, by omega, rfl⟩
  case round =>
    obtain ⟨k, rfl, hk, rfl⟩ := hrel
    have hk3 : k = 0 ∨ k = 1 ∨ k = 2 := by omega
    rcases hk3 with rfl | rfl | rfl
    · go_wp2_with fail
      go_round
      case rel => exact ⟨1, by go_num, by omega, by simp⟩
      case measure => simp [intOf]
    · go_wp2_with fail
      go_round
      case rel => exact ⟨2, by go_num, by omega, by simp⟩
      case measure => simp [intOf]
    · have G0 := GR.out (N + M) (by omega)
      rw [Int.natCast_add] at G0
      go_wp2_with fail
      refine G0.mono ?_
      rintro e w1 ⟨v1, rfl, o1, hb1⟩
      have hs1 := hb1.size
      have hB1 := hB.below hb1 nlr
      have ha1 := ha.below hb1 nlr
      have hb1' := hb.below hb1 nlr
      have hl1 : g < w1.heap.size := by omega
      clear c0 c1 G0
      go_wp2_with fail
      go_loopw [6, 27] (fun out i wr => CatRel w xs ys out i wr) (fun _ i _ => 2 - (intOf i).toNat)
      case atStart => exact ⟨0, rfl, by omega, by simpa using o1, hb1⟩
      case round =>
        obtain ⟨k, rfl, hk, ho, hbl⟩ := hrel
        have hwr := hbl.size
        have hB2 := hB.below hbl nlr
        have c0 : wr.cell? ⟨g, 0, none⟩ = some (.slice pa N ca) := hB2.cell 0
        have c1 : wr.cell? ⟨g, 1, none⟩ = some (.slice pb M cb) := hB2.cell 1
        have hk3 : k = 0 ∨ k = 1 ∨ k = 2 := by omega
        rcases hk3 with rfl | rfl | rfl
        · have ho' : OwnN wr w.heap.size _ [] := ho
          have ra := ha.below hbl nlr
          clear ho
          go_wp2_with (at_builtin; refine appendsN _ _ ho' ra (by rw [EN.out]; simp; omega) (by omega) rfl rfl rfl rfl ?_; intro v2 w2 ho2 hg2)
          go_roundw
          case rel => exact ⟨1, by go_num, by omega, by simpa using ho2, hbl.trans (below_grown hg2 hwr ho'.lt)⟩
          case measure => simp [intOf]
        · have ho' := ho; rw [if_neg (by decide), if_pos rfl] at ho'
          have rb := hb.below hbl nlr
          clear ho
          go_wp2_with (at_builtin; refine appendsN _ _ ho' rb (by rw [EN.out, EM.out]; omega) (by omega) rfl rfl rfl rfl ?_; intro v2 w2 ho2 hg2)
          go_roundw
          case rel => exact ⟨2, by go_num, by omega, by simpa using ho2, hbl.trans (below_grown hg2 hwr ho'.lt)⟩
          case measure => simp [intOf]
        · have ho' := ho; rw [if_neg (by decide), if_neg (by decide)] at ho'
          clear ho
          go_wp2_with fail
          go_ret
          exact ⟨_, rfl, ho', hbl⟩
def foldZ (xs : List Nd) : List Nd := (foldL xs).getD []
def FoldOk (zs : List Nd) (w : World) (e : Ending) (w' : World) : Prop := ∃ v, e = .returned (.tuple #[v, .bool true]) ∧ OwnN w' w.heap.size v zs ∧ Below w.heap.size w w'
def OFoldRel (w1 : World) (ss : List Nd) (R : Option (List Nd)) (out i : Value) (wr : World) : Prop :=
  ∃ (k : Nat) (zs : List Nd), i = .int .i64 k ∧ k ≤ ss.length ∧ zs.length ≤ k ∧ OwnN wr w1.heap.size out zs ∧ Hid (R = pass zs (ss.drop k)) ∧ Hid (Pos zs ∧ sumL zs + sumL (ss.drop k) ≤ 72057594037927935) ∧ Below w1.heap.size w1 wr
theorem o_fold {v : Value} {xs : List Nd} (w : World) (hr : RdN w v xs) (hl : xs.length < 1048576) (hp : ∀ x ∈ xs, 1 ≤ x.1 ∧ 0 < x.2) (hs : sumL xs ≤ 72057594037927935) (hn : NB xs) :
    Calls Tryz.prog 212 #[v] w (FoldOk (foldZ xs) w) := by
  have hpos : Pos xs := fun x hx => by have := (hp x hx).2; omega
  have ht : totOk xs = true := by unfold totOk; rw [totF_pos hpos (by omega)]; rfl
  have To := hid (o_total w hr hn (by omega))
  rw [ht] at To
  have So := hid (fun W (q : RdN W v xs) => o_sorted W q hl)
  obtain ⟨ss, es⟩ : ∃ ss, sortL xs = ss := ⟨_, rfl⟩
  have hf : Hid (foldL xs = pass [] ss) := by show _ = _; unfold foldL; rw [ht, es]; rfl
  have hZ : Hid (foldZ xs = (foldL xs).getD []) := rfl
  have hsp : ∀ x ∈ ss, 1 ≤ x.1 ∧ 0 < x.2 := fun x hx => hp x ((sortL_mem xs x).1 (by rw [es]; exact hx))
  have Hsp := hid hsp
  have hss : sumL ss ≤ 72057594037927935 := by rw [← es, sortL_sum]; exact hs
  have hsl : ss.length < 1048576 := by rw [← es, sortL_length]; exact hl
  have Hss := hid hss
  rw [es] at So
  clear ht es hsp hss hpos hp hs
  go_enter Tryz.func212, Tryz.ntmps212
  go_wp2_with fail
  refine To.out.mono ?_
  rintro e w0 ⟨rfl, hb0⟩
  have hs0 := hb0.size
  have hr0 := hr.below hb0 nlr
  go_wp2_with fail
  refine (So.out _ hr0).mono ?_
  rintro e w1 ⟨v1, rfl, ho1, hb1⟩
  have hw1 := hb1.size
  have hr1 := ho1.rd
  obtain ⟨p1, cap1, rfl⟩ := hr1.val
  have hbw1 := hb0.trans (hb1.mono hs0)
  clear hr hr0 To So
  go_wp2_with fail
  go_loopw [6, 20] (fun out i wr => OFoldRel w1 ss (foldL xs) out i wr) (fun _ i _ => ss.length - (intOf i).toNat)
  case atStart => exact ⟨0, [], rfl, by omega, by simp, OwnN.nil _ _, hf.out, ⟨(fun x hx => by cases hx), by have := Hss.out; simp [sumL]; exact this⟩, Below.refl _ _⟩
  case round =>
    obtain ⟨k, zs, rfl, hk, hzl, hown, hp, hsum, hbl⟩ := hrel
    have hwr := hbl.size
    by_cases h1 : k < ss.length
    · have hr2 := hr1.below hbl nlr
      obtain ⟨g, off, a, c, rfl, ex, hg, c1, c2⟩ := hr2.at h1
      have hac := Hsp.out _ (getD_mem (d := ((0, 0) : Nd)) ss k h1)
      rw [ex] at hac
      simp only at hac
      obtain ⟨ha1, hc0⟩ := hac
      have hp' : Hid (foldL xs = pass (mstep zs (a, c)) (ss.drop (k + 1))) := by
        have := hp.out; rw [drop_at (d := ((0, 0) : Nd)) ss k h1, ex] at this; rw [pass, if_neg (by show ¬ a < 1; omega)] at this; exact this
      have hsum' : Hid (sumL zs + c + sumL (ss.drop (k + 1)) ≤ 72057594037927935) := by
        have := hsum.out.2; rw [drop_at (d := ((0, 0) : Nd)) ss k h1, ex] at this; simp only [sumL] at this; show _ ≤ _; omega
      have hrest : Hid (0 ≤ sumL (ss.drop (k + 1))) := sumL_nonneg (fun x hx => by have := (Hsp.out x (List.mem_of_mem_drop hx)).2; omega)
      have hzp := hid hsum.out.1
      have hcz : (c == 0) = false := by simp; omega
      have hba : Below wr.heap.size wr (wr.alloc (.cells #[.int .i64 a, .int .i64 c] 116)) := (Below.refl _ _).alloc nlr _
      have O := Blk.new wr #[.int .i64 a, .int .i64 c] 116
      have hown2 := hown.below hba nlr
      have hbl2 := hbl.trans (hba.mono hwr)
      have hsa : (wr.alloc (.cells #[.int .i64 a, .int .i64 c] 116)).heap.size = wr.heap.size + 1 := by simp
      have hms1 := hid (mstep_sum zs (a, c))
      have hms2 := hid (mstep_pos hzp.out (x := (a, c)) (Int.le_of_lt hc0))
      clear hp hsum ex hr2
      by_cases hz : 0 < zs.length
      · rcases hown2.shape with ⟨_, h⟩ | ⟨h, cap2, rfl, hB, hlt, hcap, hcz2⟩
        · subst h; simp at hz
        have hcz' := hcz2 (zs.length - 1) (by omega)
        obtain ⟨⟨b, d⟩, ez⟩ : ∃ x, zs.getD (zs.length - 1) (0, 0) = x := ⟨_, rfl⟩
        rw [ez] at hcz'
        obtain ⟨c3, c4⟩ := hcz'
        have hd0 : 0 ≤ d := by have := hzp.out _ (getD_mem (d := ((0, 0) : Nd)) zs (zs.length - 1) (by omega)); rw [ez] at this; exact this
        have hds : d + c ≤ 72057594037927935 := by
          have := hzp.out.le_sum _ (getD_mem (d := ((0, 0) : Nd)) zs (zs.length - 1) (by omega))
          rw [ez] at this
          have := hsum'.out; have := hrest.out; omega
        have Ez := hid ez
        have hfz := fun j => World.ownsRow.frozenAt hown2 j
        clear hcz2 ez
        have x0 : (wr.alloc (.cells #[.int .i64 a, .int .i64 c] 116)).cell? ⟨wr.heap.size, 0, none⟩ = some (.int .i64 a) := O.cell 0
        have x1 : (wr.alloc (.cells #[.int .i64 a, .int .i64 c] 116)).cell? ⟨wr.heap.size, 1, none⟩ = some (.int .i64 c) := O.cell 1
        have hB1 : w1.heap.size ≤ h := hB
        by_cases hbq : b = a
        · have h5 : (b == a) = true := by simpa using hbq
          have hms : mstep zs (a, c) = zs.set (zs.length - 1) ((zs.getD (zs.length - 1) (0, 0)).1, d + c) := by
            unfold mstep
            rw [if_neg (by show ¬ c = 0; omega), if_pos ⟨hz, by rw [Ez.out]; exact hbq⟩, Ez.out]
            conv => rhs; rw [last_split hz]
            simp
          have Hms := hid hms
          have hfz1 := hfz ((zs.length - 1) * 2 + 1)
          clear hms hbq hfz
          go_wp2_with fail
          go_quiet (fail)
          go_wp2_with fail
          go_region
          go_wp2_with fail
          go_roundw
          case rel =>
            refine ⟨k + 1, zs.set (zs.length - 1) ((zs.getD (zs.length - 1) (0, 0)).1, d + c), by go_num, by omega, by simp; omega, ?_, ?_, ?_, ?_⟩
            · exact (hown2.drewN (nq + 1)).store (zs.length - 1) (d + c)
            · show _ = _
              rw [hp'.out, Hms.out]
            · have h : sumL (mstep _ (a, c)) = _ + c := hms1.out
              have h5 := hms2.out
              rw [Hms.out] at h h5
              exact ⟨h5, by have := hsum'.out; omega⟩
            · exact (below_drewN hbl2 (nq + 1)).setCell hB1 _
          case measure => simp [intOf]; omega
        · have h5 : (b == a) = false := by simpa using hbq
          have hms : mstep zs (a, c) = zs ++ [(a, c)] := by
            unfold mstep
            rw [if_neg (by show ¬ c = 0; omega), if_neg (fun h => hbq (by have := h.2; rw [Ez.out] at this; exact this))]
          have Hms := hid hms
          clear hms hbq hfz
          go_wp2_with fail
          go_quiet (fail)
          go_wp2_with (at_builtin; refine appendN (wr := (wr.alloc (.cells #[.int .i64 a, .int .i64 c] 116)).drewN nq) (b := a) (c := c) _ _ (hown2.drewN nq) (by first | omega | simp) (by simp; omega) rfl rfl rfl rfl (by simp [go_sem]) ?_; intro v' w3 ho3 hg3 hnn)
          go_roundw
          case rel =>
            refine ⟨k + 1, _, by go_num, by omega, ?_, ho3, ?_, ?_, (below_drewN hbl2 _).trans (below_grown hg3 (by simp; omega) hown2.lt)⟩
            · simp <;> omega
            · show _ = _
              rw [hp'.out, Hms.out]
            · have h : sumL (mstep _ (a, c)) = _ + c := hms1.out
              have h5 := hms2.out
              rw [Hms.out] at h h5
              exact ⟨h5, by have := hsum'.out; omega⟩
          case measure => simp [intOf]; omega
      · obtain rfl : zs = [] := List.eq_nil_of_length_eq_zero (by omega)
        have h5 : decide ((0 : Int) < (([] : List Nd).length : Int)) = false := by simp
        have hms : mstep [] (a, c) = [] ++ [(a, c)] := by
          unfold mstep
          rw [if_neg (by show ¬ c = 0; omega), if_neg (by simp)]
        have Hms := hid hms
        clear hms
        obtain ⟨p2, cap2, rfl⟩ := hown2.val
        go_wp2_with fail
        go_quiet (fail)
        go_wp2_with (at_builtin; refine appendN (wr := (wr.alloc (.cells #[.int .i64 a, .int .i64 c] 116)).drewN nq) (b := a) (c := c) _ _ (hown2.drewN nq) (by first | omega | simp) (by simp; omega) rfl rfl rfl rfl (by simp [go_sem]) ?_; intro v' w3 ho3 hg3 hnn)
        go_roundw
        case rel =>
          refine ⟨k + 1, _, by go_num, by omega, ?_, ho3, ?_, ?_, (below_drewN hbl2 _).trans (below_grown hg3 (by simp; omega) hown2.lt)⟩
          · simp <;> omega
          · show _ = _
            rw [hp'.out, Hms.out]
          · have h : sumL (mstep _ (a, c)) = _ + c := hms1.out
            have h5 := hms2.out
            rw [Hms.out] at h h5
            exact ⟨h5, by have := hsum'.out; omega⟩
        case measure => simp [intOf]; omega
    · go_wp2_with fail
      go_ret2
      refine ⟨_, rfl, ?_, hbw1.trans (hbl.mono (by omega))⟩
      rw [hZ.out, hp.out, List.drop_eq_nil_of_le (by omega)]
      exact hown.mono (by omega)
theorem o_join {va vb : Value} {xs ys : List Nd} (w : World) (ha : RdN w va xs) (hb : RdN w vb ys) (hxy : xs.length + ys.length ≤ 100000) (hp : ∀ x ∈ xs ++ ys, 1 ≤ x.1 ∧ 0 < x.2) (hs : sumL (xs ++ ys) ≤ 72057594037927935) (hn : NB (xs ++ ys)) :
    Calls Tryz.prog 181 #[va, vb] w (FoldOk (joinL xs ys) w) := by
  have FO := hid (fun W v (q : RdN W v (xs ++ ys)) => o_fold W q (by simp; omega) hp hs hn)
  have hba : Below w.heap.size w (w.alloc (.cells #[va, vb] 113)) := (Below.refl _ _).alloc nlr _
  have hsa : (w.alloc (.cells #[va, vb] 113)).heap.size = w.heap.size + 1 := by simp
  have CO := hid (o_concat (Blk.new w #[va, vb] 113) (ha.below hba nlr) (hb.below hba nlr) (by omega) (by omega) (by omega))
  obtain ⟨pa, ca, rfl⟩ := ha.val
  obtain ⟨pb, cb, rfl⟩ := hb.val
  have hJ : Hid (foldZ (xs ++ ys) = joinL xs ys) := rfl
  clear ha hb hp hs hn
  go_enter Tryz.func181, Tryz.ntmps181
  go_wp2_with fail
  refine CO.out.mono ?_
  rintro e w2 ⟨v2, rfl, o2, hb2⟩
  have hs2 := hb2.size
  go_wp2_with fail
  refine (FO.out _ _ o2.rd).mono ?_
  rintro e w3 ⟨v3, rfl, o3, hb3⟩
  rw [hJ.out] at o3
  go_wp2_with fail
  go_ret2
  exact ⟨_, rfl, o3.mono (by omega), (hba.trans (hb2.mono (by omega))).trans (hb3.mono (by omega))⟩
end Go.Proofs.YtdnlejboijkcfaaGreatDoor
/- The walks of package blend: lowered, Lower, wrong, Merge. -/
namespace Go.Proofs.YtdnlejboijkcfaaGreatDoor
set_option maxHeartbeats 8000000
set_option maxRecDepth 100000
open Go.RowKit Nl
theorem PoolV.is {w : World} {q g h m : Nat} {kind l : Int} {zs : List Nd} (d : PoolV w q g h kind l m zs) : poolIs kind l = true := by
  rcases d with ⟨rfl, hb, h1, h2, cs, ⟨u, t, d, v⟩, rfl⟩ | ⟨rfl, hb, h1, h2, b, xs, d, lim, hb3, rfl⟩
  · have := v.l1; have := v.l2; simp [poolIs]; omega
  · have := d.2.l1; have := d.2.l2; simp [poolIs]; omega
theorem Nl.Roll.nb {l : Int} {zs : List (Int × Int)} (r : Roll l zs) : NB zs := fun x hx => by
  have h1 := r.ids x hx
  have l1 := r.l1
  have l2 := r.l2
  have hc := r.strict.2 x hx
  have hle := Pos.le_sum r.strict.pos x hx
  have hm := r.most
  simp only [rightB, decide_eq_true_eq] at h1
  obtain ⟨n, rfl⟩ := Int.eq_ofNat_of_zero_le (show 0 ≤ l by omega)
  have := (pow48 (n := n) (by omega)).2
  simp only [Int.toNat_natCast] at h1
  exact ⟨⟨by omega, by omega⟩, ⟨by omega, by omega⟩⟩
theorem bl_lowered {w : World} {dg q g h m : Nat} {kind l K : Int} {zs : List Nd} (k : Int) (d : DgV w dg q g h kind l K m zs) (hm : m ≤ 100000) (hz : zs.length ≤ 19999) (hk : isK k = true) :
    Calls Tryz.prog 182 #[.pointer (some ⟨dg, 0, none⟩), .int .i64 k] w (IsNodes (lowL l k zs) w) := by
  have hroll := d.inv.roll
  have CF := hid (dg_conf d)
  have ND := hid (fun W (x : DgV W dg q g h kind l K m zs) => dg_nodes x hm)
  have LD := hid (fun W v (x : RdN W v zs) => pl_load kind l W d.pool.is (rollB_iff.2 hroll) x hroll.nb (by omega))
  have RN := hid (fun W q g h (x : PoolV W q g h kind l 20000 zs) => p_Run k hk x (by decide) (by omega) (by omega))
  have hlow : Hid (lowL l k zs = (runR l (capV (sumL zs) k) zs).1) := rfl
  have hlen := (run_facts (most := capV (sumL zs) k) hroll).2.2.1
  generalize runR l (capV (sumL zs) k) zs = R at *
  obtain ⟨Z, st⟩ := R
  have SN := hid (fun W q g h (x : PoolV W q g h kind l 20000 Z) => pl_snap x (by decide))
  clear hroll hlen
  go_enter Tryz.func182, Tryz.ntmps182
  go_wp2_with fail
  refine CF.out.mono ?_
  rintro e w1 ⟨rfl, hb1⟩
  have hs1 := hb1.size
  have hba : Below w1.heap.size w1 (w1.alloc (.cells #[.int .i64 l, .int .i64 K, .int .i64 kind] 24)) := (Below.refl _ _).alloc nlr _
  have X := Blk.new w1 #[.int .i64 l, .int .i64 K, .int .i64 kind] 24
  have hsa : (w1.alloc (.cells #[.int .i64 l, .int .i64 K, .int .i64 kind] 24)).heap.size = w1.heap.size + 1 := by simp
  have d2 := (d.below hb1 nlr).below hba nlr
  have hbw := hb1.trans (hba.mono hs1)
  clear CF d
  go_wp2_with fail
  generalize (w1.alloc (.cells #[.int .i64 l, .int .i64 K, .int .i64 kind] 24)) = w2 at *
  have x0 : w2.cell? ⟨w1.heap.size, 0, none⟩ = some (.int .i64 l) := X.cell 0
  have x2 : w2.cell? ⟨w1.heap.size, 2, none⟩ = some (.int .i64 kind) := X.cell 2
  have hl0 : w1.heap.size < w2.heap.size := by omega
  have hB0 := Below.refl w2.heap.size w2
  go_region_held3 (fun w' => w'.cell? ⟨w1.heap.size, 0, none⟩ = some (.int .i64 l) ∧ w'.cell? ⟨w1.heap.size, 2, none⟩ = some (.int .i64 kind) ∧ Below w2.heap.size w2 w')
    (first
      | exact ⟨x0, x2, below_drewN hB0 1⟩
      | exact ⟨(X.below' hB5 hl0).cell 0, (X.below' hB5 hl0).cell 2, hB5⟩
      | exact ⟨(X.below' hB6 hl0).cell 0, (X.below' hB6 hl0).cell 2, hB6⟩)
    (first
      | (go_at_call 66; have hB4 := (‹_ ∧ _ ∧ Below w2.heap.size w2 _›).2.2; refine (ND.out _ (d2.below hB4 nlr)).mono ?_; rintro e w5 ⟨v5, rfl, o5, hb5⟩
         have hB5 := hB4.trans (hb5.mono hB4.size))
      | (go_at_call 209; refine (LD.out _ _ o5.rd).mono ?_; rintro e w6 ⟨q6, g6, h6, rfl, d6, hq6, hg6, hh6, hb6⟩
         have hB6 := hB5.trans (hb6.mono hB5.size)))
  have hB6' := hbw.trans (hB6.mono hbw.size)
  have d6' := d6.mono (m' := 20000) (by omega)
  have hsB := hB5.size
  clear d6 LD ND hb6
  go_wp2_with fail
  refine (RN.out _ _ _ _ d6').mono ?_
  rintro e w7 ⟨rfl, h7, d7, hh7, c7⟩
  have hs7 := c7.size
  go_wp2_with fail
  refine (SN.out _ _ _ _ d7).mono ?_
  rintro e w8 ⟨v8, rfl, o8, hb8⟩
  go_wp2_with fail
  go_ret
  rw [hlow.out]
  have hB7 : Below w.heap.size w w7 := hB6'.trans (c7.below (fun j _ hj => by rcases hj with e | e | e <;> omega) hB6'.size)
  exact ⟨_, rfl, o8.mono hB7.size, hB7.trans (hb8.mono hB7.size)⟩
def bl_code (l l' t t' : Int) : Int := if l ≠ l' then 6 else if 72057594037927935 - t' < t then 5 else 0
theorem bl_wrong {w : World} {dg q g h m dg' q' g' h' m' : Nat} {kind l K kind' l' K' : Int} {zs zs' : List Nd} (d : DgV w dg q g h kind l K m zs) (d' : DgV w dg' q' g' h' kind' l' K' m' zs') :
    Calls Tryz.prog 180 #[.pointer (some ⟨dg, 0, none⟩), .pointer (some ⟨dg', 0, none⟩)] w fun e w' => e = .returned (.int .i64 (bl_code l l' (sumL zs) (sumL zs'))) ∧ Below w.heap.size w w' := by
  have CF := hid (dg_conf d)
  have CF' := hid (fun W (x : DgV W dg' q' g' h' kind' l' K' m' zs') => dg_conf x)
  have DN := hid (fun W (x : DgV W dg q g h kind l K m zs) => dg_n x)
  have DN' := hid (fun W (x : DgV W dg' q' g' h' kind' l' K' m' zs') => dg_n x)
  have t0 := sumL_nonneg d.inv.roll.strict.pos
  have t1 := d.inv.roll.most
  have t2 := sumL_nonneg d'.inv.roll.strict.pos
  have t3 := d'.inv.roll.most
  obtain ⟨t, et⟩ : ∃ x, sumL zs = x := ⟨_, rfl⟩
  obtain ⟨t', et'⟩ : ∃ x, sumL zs' = x := ⟨_, rfl⟩
  rw [et] at t0 t1 DN ⊢
  rw [et'] at t2 t3 DN' ⊢
  clear et et'
  by_cases hl : l = l'
  · have hq : (l != l') = false := by simp [hl]
    by_cases hc : 72057594037927935 - t' < t
    · have ec : Hid (bl_code l l' t t' = 5) := by show _ = _; unfold bl_code; rw [if_neg (fun q => q hl), if_pos hc]
      rw [ec.out]
      clear hl
      go_enter Tryz.func180, Tryz.ntmps180
      go_wp2_with fail
      refine CF.out.mono ?_
      rintro e w1 ⟨rfl, hb1⟩
      have hs1 := hb1.size
      have d1 := d.below hb1 nlr
      have d1' := d'.below hb1 nlr
      go_wp2_with fail
      rename_i KK hKK
      show KK (Act.put _ (some 15) (Value.int .i64 l)) w1
      refine hKK _ _ ?_
      clear hKK
      go_wp2_with fail
      refine (CF'.out _ d1').mono ?_
      rintro e w2 ⟨rfl, hb2⟩
      have d2 := d1.below hb2 nlr
      have d2' := d1'.below hb2 nlr
      have hbw := hb1.trans (hb2.mono hs1)
      go_wp2_with fail
      rename_i KK hKK
      show KK (Act.put _ (some 18) (Value.int .i64 l')) w2
      refine hKK _ _ ?_
      clear hKK
      go_wp2_with fail
      refine (DN.out _ d2).mono ?_
      rintro e w3 ⟨rfl, rfl⟩
      go_wp2_with fail
      refine (DN'.out _ d2').mono ?_
      rintro e w3 ⟨rfl, rfl⟩
      go_wp2_with fail
      go_ret
      exact ⟨rfl, hbw⟩
    · have ec : Hid (bl_code l l' t t' = 0) := by show _ = _; unfold bl_code; rw [if_neg (fun q => q hl), if_neg hc]
      rw [ec.out]
      clear hl
      go_enter Tryz.func180, Tryz.ntmps180
      go_wp2_with fail
      refine CF.out.mono ?_
      rintro e w1 ⟨rfl, hb1⟩
      have hs1 := hb1.size
      have d1 := d.below hb1 nlr
      have d1' := d'.below hb1 nlr
      go_wp2_with fail
      rename_i KK hKK
      show KK (Act.put _ (some 15) (Value.int .i64 l)) w1
      refine hKK _ _ ?_
      clear hKK
      go_wp2_with fail
      refine (CF'.out _ d1').mono ?_
      rintro e w2 ⟨rfl, hb2⟩
      have d2 := d1.below hb2 nlr
      have d2' := d1'.below hb2 nlr
      have hbw := hb1.trans (hb2.mono hs1)
      go_wp2_with fail
      rename_i KK hKK
      show KK (Act.put _ (some 18) (Value.int .i64 l')) w2
      refine hKK _ _ ?_
      clear hKK
      go_wp2_with fail
      refine (DN.out _ d2).mono ?_
      rintro e w3 ⟨rfl, rfl⟩
      go_wp2_with fail
      refine (DN'.out _ d2').mono ?_
      rintro e w3 ⟨rfl, rfl⟩
      go_wp2_with fail
      go_ret
      exact ⟨rfl, hbw⟩
  · have hq : (l != l') = true := by simpa using hl
    have ec : Hid (bl_code l l' t t' = 6) := by show _ = _; unfold bl_code; rw [if_pos hl]
    rw [ec.out]
    clear hl
    go_enter Tryz.func180, Tryz.ntmps180
    go_wp2_with fail
    refine CF.out.mono ?_
    rintro e w1 ⟨rfl, hb1⟩
    have hs1 := hb1.size
    have d1' := d'.below hb1 nlr
    go_wp2_with fail
    rename_i KK hKK
    show KK (Act.put _ (some 15) (Value.int .i64 l)) w1
    refine hKK _ _ ?_
    clear hKK
    go_wp2_with fail
    refine (CF'.out _ d1').mono ?_
    rintro e w2 ⟨rfl, hb2⟩
    have hbw := hb1.trans (hb2.mono hs1)
    go_wp2_with fail
    rename_i KK hKK
    show KK (Act.put _ (some 18) (Value.int .i64 l')) w2
    refine hKK _ _ ?_
    clear hKK
    go_wp2_with fail
    go_ret
    exact ⟨rfl, hbw⟩
theorem conf_k (a b c : Int) (W : World) : (Instr.field 24 (.agg #[.int .i64 a, .int .i64 b, .int .i64 c]) 1).run Tryz.prog W = .ok (.int .i64 b) W := by
  simp [Instr.field, run_underlying Tryz.underlying24]
  rfl
theorem bl_merge {w : World} {dg q g hp m dg' q' g' h' m' : Nat} {kind l K kind' K' : Int} {zs zs' : List Nd} (d : DgV w dg q g hp kind l K m zs) (d' : DgV w dg' q' g' h' kind' l K' m' zs') (hm : m ≤ 100000) (hm' : m' ≤ 100000) (hz : zs.length + zs'.length ≤ 19999) (hs : sumL zs + sumL zs' ≤ 72057594037927935) :
    Calls Tryz.prog 151 #[.pointer (some ⟨dg, 0, none⟩), .pointer (some ⟨dg', 0, none⟩)] w (DgNew kind l (min K K') 20000 (mergeL l (min K K') zs zs') w) := by
  have k1 := d.inv.k1
  have k2 := d.inv.k2
  have k1' := d'.inv.k1
  have k2' := d'.inv.k2
  have WR := hid (bl_wrong d d')
  have hcode : bl_code l l (sumL zs) (sumL zs') = 0 := by unfold bl_code; rw [if_neg (fun q => q rfl), if_neg (by omega)]
  rw [hcode] at WR
  have CF := hid (fun W (x : DgV W dg q g hp kind l K m zs) => dg_conf x)
  have CF' := hid (fun W (x : DgV W dg' q' g' h' kind' l K' m' zs') => dg_conf x)
  obtain ⟨k, ek⟩ : ∃ k, min K K' = k := ⟨_, rfl⟩
  have hk1 : 1 ≤ k := by omega
  have hkK : k ≤ K := by omega
  have hkK' : k ≤ K' := by omega
  have hk : isK k = true := decide_eq_true ⟨hk1, by omega⟩
  obtain ⟨g1, g2, g3, g4, -⟩ := merge_spec d.inv d'.inv hk1 hkK hkK' hs
  obtain ⟨a1, a2, a3, a4⟩ := low_spec d.inv hk1 hkK
  obtain ⟨b1, b2, b3, b4⟩ := low_spec d'.inv hk1 hkK'
  have LW := hid (fun W (x : DgV W dg q g hp kind l K m zs) => bl_lowered k x hm (by omega) hk)
  have LW' := hid (fun W (x : DgV W dg' q' g' h' kind' l K' m' zs') => bl_lowered k x hm' (by omega) hk)
  have JN := hid (fun W va vb (x : RdN W va (lowL l k zs)) (y : RdN W vb (lowL l k zs')) => o_join W x y (by omega) (fun z hz => by
    rcases List.mem_append.1 hz with hz | hz
    · exact a1.roll.strict.2 z hz
    · exact b1.roll.strict.2 z hz) (by rw [sumL_append]; omega) (fun z hz => by
    rcases List.mem_append.1 hz with hz | hz
    · exact a1.roll.nb z hz
    · exact b1.roll.nb z hz))
  have h0 := merge_load d.pool.is g1
  have DL := hid (fun W v (x : RdN W v (mergeL l k zs zs')) => dg_load kind l k x g1.roll.nb (by omega) h0)
  have hmin : Hid (min K K' = k) := ek
  have hJ : Hid (joinL (lowL l k zs) (lowL l k zs') = mergeL l k zs zs') := rfl
  rw [ek]
  generalize mergeL l k zs zs' = Z at *
  clear g1 g2 g3 g4 a1 a2 a3 a4 b1 b2 b3 b4 h0 hcode hk ek hs
  go_enter Tryz.func151, Tryz.ntmps151
  go_wp2_with fail
  refine WR.out.mono ?_
  rintro e w1 ⟨rfl, hb1⟩
  have hs1 := hb1.size
  have d1 := d.below hb1 nlr
  have d1' := d'.below hb1 nlr
  clear WR d d'
  go_wp2_with fail
  refine (CF.out _ d1).mono ?_
  rintro e w2 ⟨rfl, hb2⟩
  have hs2 := hb2.size
  have hba : Below w2.heap.size w2 (w2.alloc (.cells #[.int .i64 l, .int .i64 K, .int .i64 kind] 24)) := (Below.refl _ _).alloc nlr _
  have X := Blk.new w2 #[.int .i64 l, .int .i64 K, .int .i64 kind] 24
  have hsa : (w2.alloc (.cells #[.int .i64 l, .int .i64 K, .int .i64 kind] 24)).heap.size = w2.heap.size + 1 := by simp
  have d3 := (d1.below hb2 nlr).below hba nlr
  have d3' := (d1'.below hb2 nlr).below hba nlr
  have hbw := (hb1.trans (hb2.mono hs1)).trans (hba.mono (by omega))
  have hDb : Hid (∀ j, DB dg q g hp j → j < w2.heap.size) := fun j hj => by have := d1.ltB j hj; omega
  have hDb' : Hid (∀ j, DB dg' q' g' h' j → j < w2.heap.size) := fun j hj => by have := d1'.ltB j hj; omega
  clear d1 d1' CF
  go_wp2_with fail
  generalize (w2.alloc (.cells #[.int .i64 l, .int .i64 K, .int .i64 kind] 24)) = w3 at *
  have x1 : w3.cell? ⟨w2.heap.size, 1, none⟩ = some (.int .i64 K) := X.cell 1
  have f1 := X.free 1
  have hl0 : w2.heap.size < w3.heap.size := by omega
  have hB0 := Below.refl w3.heap.size w3
  have hfl := fun W : World => conf_k l K' kind' W
  have hcase : (K ≤ K' ∧ K = k) ∨ (K' < K ∧ K' = k) := by have := hmin.out; omega
  clear hmin
  rcases hcase with ⟨hmn, ekk⟩ | ⟨hmn, ekk⟩
  all_goals
    have Ekk := hid ekk
    clear ekk
    go_region_with ((go_at_call 65; refine (CF'.out _ (d3'.below (below_drewN hB0 1) nlr)).mono ?_; rintro e w5 ⟨rfl, hb5⟩; have X5 := (X.drewN 1).below hb5 nlr; have x15 : w5.cell? ⟨w2.heap.size, 1, none⟩ = some (.int .i64 K) := X5.cell 1; have f15 := X5.free 1; have hl5 : w2.heap.size < w5.heap.size := X5.lt))
    all_goals
      clear hfl x1 f1
      have hs5 := hb5.size
      have hs5' : w3.heap.size ≤ w5.heap.size := hs5
      have d5 := (d3.below (below_drewN hB0 1) nlr).below hb5 nlr
      have d5' := (d3'.below (below_drewN hB0 1) nlr).below hb5 nlr
      have hbw5 : Below w.heap.size w w5 := hbw.trans (((below_drewN hB0 1).trans (hb5.mono nlr)).mono hbw.size)
      go_wp2_with fail
      rw [Ekk.out]
      have X6 := X5.set 1 (.int .i64 k)
      have d6 : DgV (w5.setCell ⟨w2.heap.size, 1, none⟩ (.int .i64 k)) dg q g hp kind l K m zs := d5.keepB (fun j _ hj => Below.heap_setCell _ _ _ _ (by have := hDb.out j hj; show j ≠ w2.heap.size; omega))
      have d6' : DgV (w5.setCell ⟨w2.heap.size, 1, none⟩ (.int .i64 k)) dg' q' g' h' kind' l K' m' zs' := d5'.keepB (fun j _ hj => Below.heap_setCell _ _ _ _ (by have := hDb'.out j hj; show j ≠ w2.heap.size; omega))
      have hbw6 := hbw5.setCell (p := ⟨w2.heap.size, 1, none⟩) (by show w.heap.size ≤ w2.heap.size; omega) (.int .i64 k)
      have hs6 : (w5.setCell ⟨w2.heap.size, 1, none⟩ (.int .i64 k)).heap.size = w5.heap.size := by simp
      generalize (w5.setCell ⟨w2.heap.size, 1, none⟩ (.int .i64 k)) = w6 at *
      have y1 : w6.cell? ⟨w2.heap.size, 1, none⟩ = some (.int .i64 k) := X6.cell 1
      have hl6 : w2.heap.size < w6.heap.size := X6.lt
      have hB6 := Below.refl w6.heap.size w6
      clear x15 f15 X5 d5 d5' hb5 hbw5 d3 d3' X
      go_region_held3 (fun w' => w'.cell? ⟨w2.heap.size, 1, none⟩ = some (.int .i64 k) ∧ Below w6.heap.size w6 w')
        (first
          | exact ⟨y1, below_drewN hB6 1⟩
          | exact ⟨(X6.below' hB7 hl6).cell 1, hB7⟩
          | exact ⟨(X6.below' hB8 hl6).cell 1, hB8⟩
          | exact ⟨(X6.below' hB9 hl6).cell 1, hB9⟩)
        (first
          | (go_at_call_of 182 (Value.pointer (some ⟨dg, 0, none⟩)); have hB4 := (‹_ ∧ Below w6.heap.size w6 _›).2; refine (LW.out _ (d6.below hB4 nlr)).mono ?_; rintro e w7 ⟨v7, rfl, o7, hb7⟩
             have hB7 := hB4.trans (hb7.mono hB4.size))
          | (go_at_call_of 182 (Value.pointer (some ⟨dg', 0, none⟩)); have hB4 := (‹_ ∧ Below w6.heap.size w6 _›).2; refine (LW'.out _ (d6'.below hB4 nlr)).mono ?_; rintro e w8 ⟨v8, rfl, o8, hb8⟩
             have hB8 := hB4.trans (hb8.mono hB4.size))
          | (go_at_call 181; have hB4 := (‹_ ∧ Below w6.heap.size w6 _›).2; refine (JN.out _ _ _ (o7.rd.below hb8 nlr) o8.rd).mono ?_; rintro e w9 ⟨v9, rfl, o9, hb9⟩
             have hB9 := hB4.trans (hb9.mono hB4.size)))
      have X9 := X6.below' hB9 hl6
      have z0 : w9.cell? ⟨w2.heap.size, 0, none⟩ = some (.int .i64 l) := X9.cell 0
      have z1 : w9.cell? ⟨w2.heap.size, 1, none⟩ = some (.int .i64 k) := X9.cell 1
      have z2 : w9.cell? ⟨w2.heap.size, 2, none⟩ = some (.int .i64 kind) := X9.cell 2
      rw [hJ.out] at o9
      have hbw9 := hbw6.trans (hB9.mono hbw6.size)
      have hs9 := hbw9.size
      clear hb7 hb8 hb9 o7 o8 y1
      go_wp2_with fail
      refine (DL.out _ _ o9.rd).mono ?_
      rintro e w10 ⟨dg0, q0, g0, h0, rfl, d10, e1, e2, e3, e4, hb10⟩
      go_wp2_with fail
      go_ret2
      exact ⟨dg0, q0, g0, h0, rfl, d10, by omega, by omega, by omega, by omega, hbw9.trans (hb10.mono hbw9.size)⟩
end Go.Proofs.YtdnlejboijkcfaaGreatDoor
/- The walk of law 14's alive. -/
namespace Go.Proofs.YtdnlejboijkcfaaGreatDoor
set_option maxHeartbeats 8000000
set_option maxRecDepth 100000
open Go.RowKit Nl
end Go.Proofs.YtdnlejboijkcfaaGreatDoor
/- The walk of law 14's some. -/
namespace Go.Proofs.YtdnlejboijkcfaaGreatDoor
set_option maxHeartbeats 8000000
set_option maxRecDepth 100000
open Go.RowKit Nl
end Go.Proofs.YtdnlejboijkcfaaGreatDoor
