/- Texts laid together. -/
import Derived.Test.YtlciofheonbkiaaGreatP16
import Derived.Test.YtlciofheonbkiaaGreatP14
import Derived.Deep.RegionHeldLaw
/- The walk of the reference's Pour. -/
namespace Go.Proofs.YtlciofheonbkiaaGreat
set_option maxHeartbeats 8000000
set_option maxRecDepth 100000
open Go.RowKit Nl
def BPourP (l : Int) (its ys : List Nd) (v0 : Value) (w : World) (e : Ending) (w' : World) : Prop :=
  (72057594037927935 - sumL its < sumL ys ∧ e = .returned (.tuple #[.agg #[.int .i64 l, v0], .int .i64 5]) ∧ Below w.heap.size w w') ∨
  (¬ 72057594037927935 - sumL its < sumL ys ∧ ∃ v, e = .returned (.tuple #[.agg #[.int .i64 l, v], .int .i64 0]) ∧ RdN w' v (pourR its ys) ∧ (v = v0 ∨ ∀ k, v.ownBlock = some k → w.heap.size ≤ k) ∧ Below w.heap.size w w')
def BPourRel (l : Int) (its ys : List Nd) (M : Nat) (v0 : Value) (bx : Nat) (w5 : World) (gn : Nat) (i : Value) (wr : World) : Prop :=
  ∃ (j : Nat) (v : Value), i = .int .i64 j ∧ j ≤ M ∧ M ≤ gn + j ∧ Blk wr bx #[.int .i64 l, v] 41 ∧ RdN wr v (pourR its (ys.take j)) ∧
    ((j = 0 ∧ v = v0) ∨ ∀ k, v.ownBlock = some k → bx < k) ∧ Below bx w5 wr ∧ bx < wr.heap.size
theorem Nl.pour_take {its ys : List (Int × Int)} {j : Nat} {a c : Int} (h : j < ys.length) (e : ys.getD j (0, 0) = (a, c)) : pourR its (ys.take (j + 1)) = putR a c (pourR its (ys.take j)) := by
  have e2 : ys[j] = (a, c) := by rw [← e]; simp [List.getD, h]
  rw [List.take_succ_eq_append_getElem h, e2]
  unfold pourR
  rw [List.foldl_append]; rfl
theorem ret_pour {R : Ending → World → Prop} {tmps : Array Value} {W : World} {g : Nat} {u v : Value} {l : Int} (Y : Blk W g #[.int .i64 l, v] 41) (h4 : tmps.getD 4 undef = .pointer (some ⟨g, 0, none⟩)) (h5 : tmps.getD 5 undef = u) (hR : R (.returned (.tuple #[.agg #[.int .i64 l, v], u])) W) :
    bodyPost Tryz.prog Tryz.f30 R .ret ⟨tmps, []⟩ W := by
  refine bodyPost_ret (v := .tuple #[.agg #[.int .i64 l, v], u]) ?_ rfl hR
  have y0 : W.cell? ⟨g, 0, none⟩ = some (.int .i64 l) := Y.cell 0
  have y1 : W.cell? ⟨g, 1, none⟩ = some v := Y.cell 1
  have h4' : tmps[4]?.getD undef = .pointer (some ⟨g, 0, none⟩) := by simpa using h4
  have h5' : tmps[5]?.getD undef = u := by simpa using h5
  simp [results, Tryz.results30, h4', h5', go_sem, y0, y1]
theorem Nl.pour_pre {l : Int} {its ys : List (Int × Int)} (hb : Bag l its) (hb' : Bag l ys) (hs : sumL its + sumL ys ≤ 72057594037927935) (j : Nat) :
    Bag l (pourR its (ys.take j)) ∧ (pourR its (ys.take j)).length ≤ its.length + j := by
  have hm : ∀ (zs : List (Int × Int)), (∀ y ∈ zs, 1 ≤ y.2) → 0 ≤ sumL zs := fun zs h => sumL_nonneg (fun y hy => by have := h y hy; omega)
  have e : sumL ys = sumL (ys.take j) + sumL (ys.drop j) := by
    conv => lhs; rw [← List.take_append_drop j ys]
    rw [sumL_append]
  have h0 := hm (ys.drop j) (fun y hy => hb'.pos y (List.mem_of_mem_drop hy))
  obtain ⟨p1, -, -, -⟩ := pour_spec (ys.take j) its hb (fun y hy => ⟨hb'.val y (List.mem_of_mem_take hy), hb'.pos y (List.mem_of_mem_take hy)⟩) (by omega)
  refine ⟨p1, ?_⟩
  have key : ∀ (zs bs : List (Int × Int)), (pourR bs zs).length ≤ bs.length + zs.length := by
    intro zs
    induction zs with
    | nil => intro bs; exact nlr
    | cons z r ih =>
      intro bs
      have h := ih (putR z.1 z.2 bs)
      have h2 := putR_length (x := z.1) (c := z.2) bs
      show (pourR (putR z.1 z.2 bs) r).length ≤ _
      simp only [List.length_cons]
      omega
  have h3 := key (ys.take j) its
  have h4 : (ys.take j).length ≤ j := by rw [List.length_take]; omega
  omega
theorem b_pour {w : World} {its ys : List Nd} {v u : Value} (l : Int) (hr : RdN w v its) (hy : RdN w u ys) (hl : its.length + ys.length ≤ 10000) (hb : Bag l its) (hb' : Bag l ys) :
    Calls Tryz.prog 30 #[.agg #[.int .i64 l, v], .agg #[.int .i64 l, u]] w (BPourP l its ys v w) := by
  obtain ⟨p, cap, rfl⟩ := hr.val
  obtain ⟨p', cap', rfl⟩ := hy.val
  obtain ⟨M, eM⟩ : ∃ M, ys.length = M := ⟨_, rfl⟩
  rw [eM] at hy hl ⊢
  have EM := hid eM
  clear eM
  have s0 := sumL_nonneg hb.pos'
  have s1 := hb.most
  have s0' := sumL_nonneg hb'.pos'
  have s1' := hb'.most
  have X3 : Blk (((w.alloc (.cells #[.int .i64 l, .slice p its.length cap] 41)).alloc (.cells #[.int .i64 l, .slice p' M cap'] 41)).alloc (.cells #[.int .i64 0, .slice none 0 0] 41)) w.heap.size #[.int .i64 l, .slice p its.length cap] 41 := ((Blk.new w _ _).alloc _).alloc _
  have Y3 : Blk (((w.alloc (.cells #[.int .i64 l, .slice p its.length cap] 41)).alloc (.cells #[.int .i64 l, .slice p' M cap'] 41)).alloc (.cells #[.int .i64 0, .slice none 0 0] 41)) (w.heap.size + 1) #[.int .i64 l, .slice p' M cap'] 41 := by
    have h := (Blk.new (w.alloc (.cells #[.int .i64 l, .slice p its.length cap] 41)) #[.int .i64 l, .slice p' M cap'] 41).alloc (.cells #[.int .i64 0, .slice none 0 0] 41)
    simpa using h
  have Z3 : Blk (((w.alloc (.cells #[.int .i64 l, .slice p its.length cap] 41)).alloc (.cells #[.int .i64 l, .slice p' M cap'] 41)).alloc (.cells #[.int .i64 0, .slice none 0 0] 41)) (w.heap.size + 1 + 1) #[.int .i64 0, .slice none 0 0] 41 := by
    have h := Blk.new ((w.alloc (.cells #[.int .i64 l, .slice p its.length cap] 41)).alloc (.cells #[.int .i64 l, .slice p' M cap'] 41)) #[.int .i64 0, .slice none 0 0] 41
    simpa using h
  have hb3 : Below w.heap.size w (((w.alloc (.cells #[.int .i64 l, .slice p its.length cap] 41)).alloc (.cells #[.int .i64 l, .slice p' M cap'] 41)).alloc (.cells #[.int .i64 0, .slice none 0 0] 41)) := (((Below.refl _ _).alloc nlr _).alloc (by simp) _).alloc (by simp; omega) _
  have hr3 := hr.below hb3 nlr
  have hy3 := hy.below hb3 nlr
  go_enter Tryz.func30, Tryz.ntmps30
  go_upto_region 1 with fail
  generalize (((w.alloc (.cells #[.int .i64 l, .slice p its.length cap] 41)).alloc (.cells #[.int .i64 l, .slice p' M cap'] 41)).alloc (.cells #[.int .i64 0, .slice none 0 0] 41)) = w3 at *
  have hl3 := Z3.lt
  have zl : (l != l) = false := by simp
  have x0 : w3.cell? ⟨w.heap.size, 0, none⟩ = some (.int .i64 l) := X3.cell 0
  have y0 : w3.cell? ⟨w.heap.size + 1, 0, none⟩ = some (.int .i64 l) := Y3.cell 0
  have T1 := hid (fun W (q : Below w3.heap.size w3 W) => b_total l (hr3.below q nlr) (by omega) hb.pos' hb.most)
  have T2 := hid (fun W (q : Below w3.heap.size w3 W) => b_total l (hy3.below q nlr) (by rw [EM.out]; omega) hb'.pos' hb'.most)
  have hB0 := Below.refl w3.heap.size w3
  have FX := hid (fun W (q : Below w3.heap.size w3 W) => (show W.cell? ⟨w.heap.size, 0, none⟩ = some (.int .i64 l) ∧ W.cell? ⟨w.heap.size, 1, none⟩ = some (.slice p its.length cap) ∧ W.cell? ⟨w.heap.size + 1, 0, none⟩ = some (.int .i64 l) ∧ W.cell? ⟨w.heap.size + 1, 1, none⟩ = some (.slice p' M cap') ∧ Below w3.heap.size w3 W from
    ⟨(X3.below q nlr).cell 0, (X3.below q nlr).cell 1, (Y3.below q nlr).cell 0, (Y3.below q nlr).cell 1, q⟩))
  obtain ⟨S, eS⟩ : ∃ S, sumL its = S := ⟨_, rfl⟩
  obtain ⟨S', eS'⟩ : ∃ S, sumL ys = S := ⟨_, rfl⟩
  have hw : IntKind.i64.wrap (72057594037927935 - S) = 72057594037927935 - S := IntWalk.i64_in _ ⟨by omega, by omega⟩
  rw [eS] at T1
  rw [eS'] at T2
  have ES := hid (And.intro eS eS')
  have HW := hid hw
  clear hw eS eS'
  go_wp2_with fail
  have hw := HW.out
  go_region_held3 (fun W => W.cell? ⟨w.heap.size, 0, none⟩ = some (.int .i64 l) ∧ W.cell? ⟨w.heap.size, 1, none⟩ = some (.slice p its.length cap) ∧ W.cell? ⟨w.heap.size + 1, 0, none⟩ = some (.int .i64 l) ∧ W.cell? ⟨w.heap.size + 1, 1, none⟩ = some (.slice p' M cap') ∧ Below w3.heap.size w3 W)
    (first
      | exact FX.out _ (below_drewN hB0 1)
      | exact FX.out _ hBn)
    (first
      | (go_at_call_of 11 (Value.agg #[Value.int .i64 l, Value.slice p' M cap']); have hBa := (‹_ ∧ _ ∧ _ ∧ _ ∧ Below w3.heap.size w3 _›).2.2.2.2; refine (T2.out _ hBa).mono ?_; rintro e w5 ⟨rfl, hb5⟩
         have hBn := hBa.trans (hb5.mono hBa.size))
      | (go_at_call_of 11 (Value.agg #[Value.int .i64 l, Value.slice p its.length cap]); have hBa := (‹_ ∧ _ ∧ _ ∧ _ ∧ Below w3.heap.size w3 _›).2.2.2.2; refine (T1.out _ hBa).mono ?_; rintro e w5 ⟨rfl, hb5⟩
         have hBn := hBa.trans (hb5.mono hBa.size)))
  all_goals
    have F5 := FX.out _ hBn
    have Z5 := Z3.below hBn nlr
    have X5 := X3.below hBn nlr
    have Y5 := Y3.below hBn nlr
    have hbw5 := hb3.trans (hBn.mono hb3.size)
    obtain ⟨eS, eS'⟩ := ES.out
    clear T1 T2 FX HW hw
    by_cases hF : 72057594037927935 - S < S'
    · have z : decide (72057594037927935 - S < S') = true := decide_eq_true hF
      have x0 : w5.cell? ⟨w.heap.size, 0, none⟩ = some (.int .i64 l) := X5.cell 0
      have x1 : w5.cell? ⟨w.heap.size, 1, none⟩ = some (.slice p its.length cap) := X5.cell 1
      have z0 : w5.cell? ⟨w.heap.size + 1 + 1, 0, none⟩ = some (.int .i64 0) := Z5.cell 0
      have z1 : w5.cell? ⟨w.heap.size + 1 + 1, 1, none⟩ = some (.slice none 0 0) := Z5.cell 1
      have f0 := Z5.free 0
      have f1 := Z5.free 1
      have hzl := Z5.lt
      have Q := (Z5.set 0 (.int .i64 l)).set 1 (.slice p its.length cap)
      have hq := (hbw5.setCell (p := ⟨w.heap.size + 1 + 1, 0, none⟩) (by show _ ≤ w.heap.size + 1 + 1; omega) (.int .i64 l)).setCell (p := ⟨w.heap.size + 1 + 1, 1, none⟩) (by show _ ≤ w.heap.size + 1 + 1; omega) (.slice p its.length cap)
      go_wp2_with fail
      exact ret_pour Q rfl rfl (.inl ⟨by rw [eS, eS']; exact hF, rfl, hq⟩)
    · have z : decide (72057594037927935 - S < S') = false := decide_eq_false hF
      have x0 : w5.cell? ⟨w.heap.size, 0, none⟩ = some (.int .i64 l) := X5.cell 0
      have x1 : w5.cell? ⟨w.heap.size, 1, none⟩ = some (.slice p its.length cap) := X5.cell 1
      have hY1 : w.heap.size + 1 < w5.heap.size := Y5.lt
      have hZ1 : w.heap.size + 1 + 1 < w5.heap.size := Z5.lt
      have N6 := Blk.new w5 #[.int .i64 l, .slice p its.length cap] 41
      have hb6 : Below w5.heap.size w5 (w5.alloc (.cells #[.int .i64 l, .slice p its.length cap] 41)) := (Below.refl _ _).alloc nlr _
      have hr6 := (hr.below hbw5 nlr).below hb6 nlr
      have R0 : Hid (BPourRel l its ys M (.slice p its.length cap) w5.heap.size w5 M (.int .i64 0) (w5.alloc (.cells #[.int .i64 l, .slice p its.length cap] 41))) :=
        ⟨0, _, rfl, Nat.zero_le _, nlr, N6, hr6, .inl ⟨rfl, rfl⟩, hb6, by simp⟩
      have HY5 := hid Y5
      have HZ5 := hid Z5
      have HB5 := hid hbw5
      have hys5 := hid (hy.below hbw5 nlr)
      have HP := hid (pour_pre hb hb' (show sumL its + sumL ys ≤ 72057594037927935 by rw [eS, eS']; omega))
      have HF := hid (show ¬ 72057594037927935 - sumL its < sumL ys by rw [eS, eS']; exact hF)
      clear N6 hb6 hr6 Y5 Z5 X5 hbw5
      go_wp2_with fail
      go_loopg [7] M (fun gn i wr => BPourRel l its ys M (.slice p its.length cap) w5.heap.size w5 gn i wr)
      case atStart => exact R0.out
      case round =>
        obtain ⟨j, v, rfl, hj, hgn, Yb, hrj, hvj, hbj, hlb⟩ := hrel
        have Y6 := HY5.out.below hbj nlr
        have yc : wr.cell? ⟨w.heap.size + 1, 1, none⟩ = some (.slice p' M cap') := Y6.cell 1
        have ys6 := hys5.out.below hbj nlr
        obtain ⟨hBg, hBl⟩ := HP.out j
        by_cases hlt : j < M
        · have hlt' : j < ys.length := by rw [EM.out]; exact hlt
          obtain ⟨gs, off, a, c, hp, hac, hgs, q0, q1⟩ := ys6.at hlt'
          have z0 : decide ((j : Int) < (M : Int)) = true := decide_eq_true (by omega)
          have hmem : (a, c) ∈ ys := by rw [← hac]; simp [List.getD, hlt']
          have PT := hid (fun W (q : RdN W v (pourR its (ys.take j))) => b_put l a c q (by omega) hBg.pos' hBg.rise hBg.most ⟨by have := hb'.pos _ hmem; omega, by have h1 := hb'.pos _ hmem; have := Pos.le_sum hb'.pos' _ hmem; have := hb'.most; omega⟩)
          have st := pour_take (its := its) hlt' hac
          have hYb := hid Yb
          have b0 : wr.cell? ⟨w5.heap.size, 0, none⟩ = some (.int .i64 l) := Yb.cell 0
          have b1 : wr.cell? ⟨w5.heap.size, 1, none⟩ = some v := Yb.cell 1
          obtain ⟨A, eA⟩ : ∃ A, pourR its (ys.take j) = A := ⟨_, rfl⟩
          obtain ⟨A2, eA2⟩ : ∃ A, pourR its (ys.take (j + 1)) = A := ⟨_, rfl⟩
          have EA := hid eA2
          rw [eA2] at st
          rw [eA] at hrj PT st
          rw [← st] at PT
          have hH := hid (And.intro hbj (And.intro hlb hgn))
          have hVJ := hid hvj
          subst hp
          have hM10 : M ≤ 10000 := by omega
          clear hlt' eA eA2 hBg hBl hgn hbj hlb hvj hac hmem R0 hY1 hZ1 st HF hl s0 s1 s0' s1' F5 x0 x1
          have hB9 := Below.refl wr.heap.size wr
          have PT2 := hid (PT.out (wr.drewN 1) (hrj.below (below_drewN hB9 1) nlr))
          have hA := hid hrj
          have hjl : (j : Int) < (M : Int) := by omega
          clear hrj PT Yb Y6 ys6
          go_upto_region 9 with fail
          go_region_with ((go_at_call 78; refine PT2.out.mono ?_; rintro e w7 ⟨v7, rfl, ho7, hb7⟩; obtain ⟨p7, c7, rfl⟩ := ho7.val; have hBn := (below_drewN hB9 1).trans (hb7.mono nlr); have Y7 := hYb.out.below hBn nlr; have k0 : World.cell? w7 ⟨w5.heap.size, 0, none⟩ = some (.int .i64 l) := Y7.cell 0; have k1 : World.cell? w7 ⟨w5.heap.size, 1, none⟩ = some v := Y7.cell 1; have g0 := Y7.free 0; have g1 := Y7.free 1; have hyl7 := Y7.lt))
          all_goals
            obtain ⟨hbj, hlb, hgn⟩ := hH.out
            have Y8 := (Y7.set 0 (.int .i64 l)).set 1 (.slice p7 A2.length c7)
            have lt7 := ho7.lt
            have r8 : RdN ((w7.setCell ⟨w5.heap.size, 0, none⟩ (.int .i64 l)).setCell ⟨w5.heap.size, 1, none⟩ (.slice p7 A2.length c7)) (.slice p7 A2.length c7) A2 := ho7.rd.keep (fun g _ hg => by
              have : wr.heap.size ≤ g := lt7 g hg
              rw [Below.heap_setCell _ ⟨w5.heap.size, 1, none⟩ _ _ (by show g ≠ w5.heap.size; omega), Below.heap_setCell _ ⟨w5.heap.size, 0, none⟩ _ _ (by show g ≠ w5.heap.size; omega)]) (by simp)
            have hb8 := ((hbj.trans (hBn.mono hbj.size)).setCell (p := ⟨w5.heap.size, 0, none⟩) nlr (.int .i64 l)).setCell (p := ⟨w5.heap.size, 1, none⟩) nlr (.slice p7 A2.length c7)
            have hl8 : w5.heap.size < ((w7.setCell ⟨w5.heap.size, 0, none⟩ (.int .i64 l)).setCell ⟨w5.heap.size, 1, none⟩ (.slice p7 A2.length c7)).heap.size := by simpa using hyl7
            clear Y7 k0 k1 g0 g1 hyl7 hBn hb7 PT2 yc q0 q1 b0 b1
            go_wp2_with fail
            go_roundg (M - (j + 1))
            case rel =>
              refine ⟨j + 1, .slice p7 A2.length c7, by go_num, by omega, by omega, Y8, by rw [EA.out]; exact r8, .inr (fun k hk => by have : wr.heap.size ≤ k := lt7 k hk; omega), hb8, hl8⟩
            case measure => omega
        · obtain rfl : M = j := by omega
          have z0 : decide ((M : Int) < (M : Int)) = false := decide_eq_false (by omega)
          rw [← EM.out, List.take_length] at hrj
          obtain ⟨pv, cv, rfl⟩ := hrj.val
          have Z6 := HZ5.out.below hbj nlr
          have b0 : wr.cell? ⟨w5.heap.size, 0, none⟩ = some (.int .i64 l) := Yb.cell 0
          have b1 : wr.cell? ⟨w5.heap.size, 1, none⟩ = some (.slice pv (pourR its ys).length cv) := Yb.cell 1
          have c0 : wr.cell? ⟨w.heap.size + 1 + 1, 0, none⟩ = some (.int .i64 0) := Z6.cell 0
          have c1 : wr.cell? ⟨w.heap.size + 1 + 1, 1, none⟩ = some (.slice none 0 0) := Z6.cell 1
          have f0 := Z6.free 0
          have f1 := Z6.free 1
          have hzl := Z6.lt
          have Q := (Z6.set 0 (.int .i64 l)).set 1 (.slice pv (pourR its ys).length cv)
          have hbw6 := HB5.out.trans (hbj.mono HB5.out.size)
          have hq := (hbw6.setCell (p := ⟨w.heap.size + 1 + 1, 0, none⟩) (by show _ ≤ w.heap.size + 1 + 1; omega) (.int .i64 l)).setCell (p := ⟨w.heap.size + 1 + 1, 1, none⟩) (by show _ ≤ w.heap.size + 1 + 1; omega) (.slice pv (pourR its ys).length cv)
          have hZB : w.heap.size + 1 + 1 < w5.heap.size := HZ5.out.lt
          have P : Hid (BPourP l its ys (.slice p its.length cap) w (.returned (.tuple #[.agg #[.int .i64 l, .slice pv (pourR its ys).length cv], .int .i64 0])) ((wr.setCell ⟨w.heap.size + 1 + 1, 0, none⟩ (.int .i64 l)).setCell ⟨w.heap.size + 1 + 1, 1, none⟩ (.slice pv (pourR its ys).length cv))) := by
            refine .inr ⟨Int.not_lt.2 HF.out, _, rfl, ?_, ?_, hq⟩
            · rcases hvj with ⟨h0, e⟩ | h
              · have h9 := hr.below hq nlr
                have h2 : pourR its ys = its := by rw [List.length_eq_zero_iff.1 (EM.out.trans h0)]; rfl
                have key : ∀ (W : World) u A, u = Value.slice p its.length cap → A = its → RdN W (.slice p its.length cap) its → RdN W u A := by rintro W _ _ rfl rfl h; exact h
                exact key _ _ _ e h2 h9
              · exact hrj.keep (fun g _ hg => by
                  have := h g hg
                  rw [Below.heap_setCell _ ⟨w.heap.size + 1 + 1, 1, none⟩ _ _ (by show g ≠ w.heap.size + 1 + 1; omega), Below.heap_setCell _ ⟨w.heap.size + 1 + 1, 0, none⟩ _ _ (by show g ≠ w.heap.size + 1 + 1; omega)]) (by simp)
            · rcases hvj with ⟨-, e⟩ | h
              · exact .inl e
              · exact .inr (fun k hk => by have := h k hk; omega)
          clear hvj hrj hq hbw6 Z6 HF R0
          go_wp2_with fail
          refine ret_pour (u := .int .i64 0) Q ?_ ?_ ?_
          · rfl
          · rfl
          · exact P.out
end Go.Proofs.YtlciofheonbkiaaGreat
