/- The walk of the probe's Take. -/
import Derived.Test.YtejoecoenehooaaProbe6
import Derived.BigRegion
namespace Go.Proofs.Ytejoecoenehooaa
open Go.RowKit Nl

namespace Nl
def pTake (l : Int) (b : Nat) (xs : List (Int × Int)) (id : Int) : List (Int × Int) := if pGet l b xs id = 0 then xs else takeP b xs id
theorem Pv.take {l : Int} {b : Nat} {xs : List (Int × Int)} (v : Pv l b xs) (id : Int) : Pv l b (pTake l b xs id) ∧ ((occ (pTake l b xs id) : Int) = occ xs - if pGet l b xs id = 0 then 0 else 1) ∧ sumL (pTake l b xs id) = sumL xs - pGet l b xs id := by
  unfold pTake
  split
  · rename_i h; exact ⟨v, by omega, by omega⟩
  · rename_i h
    have hr : rightB l id = true := by
      cases h3 : rightB l id
      · exact absurd (by unfold pGet; rw [h3]; rfl) h
      · rfl
    have hg : pGet l b xs id = cntA xs (lookI xs b id) := by unfold pGet; rw [hr]; rfl
    have hp := v.tab.pos (lookI xs b id)
    have h0 := v.tab.pos_len
    have hh := v.half
    obtain ⟨e, he, hce⟩ := has_empty (show occ xs < xs.length by omega)
    obtain ⟨t1, t2, t3, t4, t5⟩ := takeP_spec v.tab id he hce (by omega)
    rw [hg]
    refine ⟨⟨v.l1, v.l2, t1, by omega, by have := v.most; omega, fun i hi => ?_⟩, by omega, t3⟩
    have hlt : i < (takeP b xs id).length := by
      refine Nat.lt_of_not_le fun q => ?_
      have : cntA (takeP b xs id) i = 0 := by unfold cntA; simp [List.getD, List.getElem?_eq_none q]
      omega
    obtain ⟨⟨j, hj, g1, g2, g3⟩, _⟩ := (t5 _ _).1 ⟨i, hlt, rfl, rfl, hi⟩
    rw [← g1]; exact v.ids j (by omega)
end Nl

theorem cells_home {P : Program} {f : FuncId} {args : Array Value} {w : World} {v : Value} (h : Calls P f args w fun e w' => e = .returned v ∧ w = w') : Calls P f args w fun e w' => e = .returned v ∧ w' = w := h.mono fun _ _ ⟨a, b⟩ => ⟨a, b.symm⟩

theorem toNat_next (q N : Nat) : (((q : Int) + 1) % (N : Int)).toNat = (q + 1) % N := by
  rw [show ((q : Int) + 1) % (N : Int) = (((q + 1) % N : Nat) : Int) by simp]; exact Int.toNat_natCast _
def PTakeRel (w : World) (g h : Nat) (l : Int) (b : Nat) (u t : Int) (N e : Nat) (R : List Nd) (hole i : Value) (wr : World) : Prop :=
  ∃ (f m p q : Nat) (ys : List Nd), hole = .int .i64 p ∧ i = .int .i64 q ∧ Hid (takeF b f ys p q = R) ∧ TabH b ys p m ∧ q = (p + m) % N ∧ cntA ys e ≤ 0 ∧ e ≠ p ∧ way N q e < f ∧ Hid (ys.length = N) ∧ (∀ j, idA ys j ≤ 9223372036854775807) ∧ Pn wr g h l b u t ys ∧ Tch g h w wr

set_option maxRecDepth 100000 in
set_option maxHeartbeats 2000000 in
theorem p_take {w : World} {g h : Nat} {l : Int} {b : Nat} {xs : List Nd} (id : Int) (d : PnV w g h l b xs) (hb : b ≤ 40) (hb1 : 1 ≤ b) (bi : -9223372036854775808 ≤ id ∧ id ≤ 9223372036854775807) :
    Calls Try.prog 127 #[.pointer (some ⟨g, 0, none⟩), .int .i64 id] w fun e w' => e = .returned (.int .i64 (pGet l b xs id)) ∧ PnV w' g h l b (pTake l b xs id) ∧ Tch g h w w' := by
  obtain ⟨d, v⟩ := d
  obtain ⟨W1, W2, W3⟩ := v.take id
  have hl := And.intro v.l1 v.l2
  obtain ⟨r, er⟩ : ∃ r, rightB l id = r := ⟨_, rfl⟩
  have Er := hid er
  cases r
  · have e : pGet l b xs id = 0 := by unfold pGet; rw [er]; rfl
    have e2 : pTake l b xs id = xs := by unfold pTake; rw [if_pos e]
    rw [e, e2]
    clear er e e2 W1 W2 W3
    go_enter Try.func127, Try.ntmps127
    go_wp2_with fail
    refine (p_right id d hl bi).mono ?_
    rintro e w' ⟨rfl, rfl⟩
    rw [Er.out]
    go_wp2_with fail
    go_ret
    exact ⟨rfl, ⟨d, v⟩, Tch.refl _ _ _⟩
  · have eg : pGet l b xs id = cntA xs (lookI xs b id) := by unfold pGet; rw [er]; rfl
    have hi1 := right_pos er
    have h0 := v.tab.pos_len
    have hh := v.half
    obtain ⟨em, he, hce⟩ := has_empty (show occ xs < xs.length by omega)
    have hs := stopB_iff (xs := xs) (id := id) (i := em) |>.2 (.inl hce)
    have L := hid (p_look id d v.tab hb1 (by omega) he hs ⟨hi1, bi.2⟩)
    have hi := (look_spec v.tab id he hs).2.2.1
    have hcp := v.tab.pos (lookI xs b id)
    have hlen40 : xs.length ≤ 1099511627776 := by
      have h40 : 2 ^ b ≤ 2 ^ 40 := Nat.pow_le_pow_right (by omega) (by omega)
      have h41 : (2 : Nat) ^ 40 = 1099511627776 := rfl
      rw [v.tab.len]; omega
    have hT : Hid (takeP b xs id = takeF b xs.length (xs.set (lookI xs b id) (0, 0)) (lookI xs b id) ((lookI xs b id + 1) % xs.length)) := rfl
    by_cases h1 : cntA xs (lookI xs b id) = 0
    · have e : pGet l b xs id = 0 := by rw [eg]; exact h1
      have e2 : pTake l b xs id = xs := by unfold pTake; rw [if_pos e]
      have hc0 : (cntA xs (lookI xs b id) == 0) = true := by simpa using h1
      rw [e, e2]
      generalize lookI xs b id = i at *
      clear er e e2 eg W1 W2 W3 hs h1 hT
      go_enter Try.func127, Try.ntmps127
      go_wp2_with fail
      refine (p_right id d hl bi).mono ?_
      rintro e w' ⟨rfl, rfl⟩
      rw [Er.out]
      go_wp2_with fail
      refine L.out.mono ?_
      rintro e w1 ⟨rfl, hb1'⟩
      have d1 := d.below hb1' (Nat.le_refl _)
      obtain ⟨capc4, c4⟩ := d1.c4
      obtain ⟨q1, q2⟩ := d1.at hi
      generalize cntA xs i = x at *
      as_aux_lemma =>
        go_wp2_with fail
        go_ret
        exact ⟨rfl, ⟨d1, v⟩, Tch.of_below hb1'⟩
    · have hn : ¬ pGet l b xs id = 0 := by rw [eg]; exact h1
      have e2 : pTake l b xs id = takeP b xs id := by unfold pTake; rw [if_neg hn]
      rw [if_neg hn] at W2
      rw [e2] at W1 W2 W3 ⊢
      rw [eg] at W3 ⊢
      have hne : em ≠ lookI xs b id := fun q => by have := v.tab.pos em; rw [← q] at h1; omega
      have t0 := TabH.start v.tab hi
      have hc0 : (cntA xs (lookI xs b id) == 0) = false := by simpa using h1
      have hcE : cntA (xs.set (lookI xs b id) (0, 0)) em ≤ 0 := by rw [cntA_set xs _ em _ hi, if_neg (Ne.symm hne)]; exact hce
      have hwy := way_lt ((lookI xs b id + 1) % xs.length) em h0
      have hmx : ∀ j, idA (xs.set (lookI xs b id) (0, 0)) j ≤ 9223372036854775807 := fun j => by
        rw [idA_set xs _ j _ hi]; split
        · decide
        · exact v.idmax j
      have hoc : 1 ≤ occ xs := by have := W2; omega
      have hxm := cnt_le v.tab (lookI xs b id)
      have hmo := v.most
      have hol := occ_le xs
      have hll : (xs.set (lookI xs b id) ((0 : Int), (0 : Int))).length = xs.length := by simp
      have hsr := sumL_nonneg (pos_of_tab W1.tab)
      obtain ⟨R, eR⟩ : ∃ R, takeP b xs id = R := ⟨_, rfl⟩
      rw [eR] at W1 W2 W3 hT hsr ⊢
      have Len := hid v.tab.len
      have Hll := hid hll
      have Hmx := hid hmx
      generalize ei : lookI xs b id = i at *
      obtain ⟨u, eu⟩ : ∃ u : Int, (occ xs : Int) = u := ⟨_, rfl⟩
      obtain ⟨t, et⟩ : ∃ t : Int, sumL xs = t := ⟨_, rfl⟩
      rw [eu] at d W2
      rw [et] at d W3 hxm hmo
      have hu : 1 ≤ u ∧ u ≤ 1099511627776 := by omega
      obtain ⟨x, ex⟩ : ∃ x : Int, cntA xs i = x := ⟨_, rfl⟩
      rw [ex] at W3 hxm h1 hcp hc0 ⊢
      have Ex := hid ex
      have WV := hid W1
      have W2' := hid W2
      have W3' := hid W3
      have hxx : x ≠ 0 := h1
      clear er e2 eg hs hll hmx eR ei eu et ex W1 W2 W3 hn hce hsr h1 v
      have Hxx := hid hxx
      clear hxx
      go_enter Try.func127, Try.ntmps127
      go_wp2_with fail
      refine (p_right id d hl bi).mono ?_
      rintro e w' ⟨rfl, rfl⟩
      rw [Er.out]
      go_wp2_with fail
      refine L.out.mono ?_
      rintro e w1 ⟨rfl, hb1'⟩
      have d1 := d.below hb1' (Nat.le_refl _)
      have T1 : Tch g h w w1 := Tch.of_below hb1'
      obtain ⟨capc4, c4⟩ := d1.c4
      obtain ⟨q1, q2⟩ := d1.at hi
      rw [Ex.out] at q2
      have k0 := d1.fh (i * 2)
      have k1 := d1.fh (i * 2 + 1)
      as_aux_lemma =>
        go_wp2_with fail
        have d2 := d1.store i hi 0 0
        have T2 : Tch g h w ((w1.setCell ⟨h, i * 2, none⟩ (.int .i64 0)).setCell ⟨h, i * 2 + 1, none⟩ (.int .i64 0)) := (T1.trans (Tch.set2 _ _ _)).trans (Tch.set2 _ _ _)
        generalize (w1.setCell ⟨h, i * 2, none⟩ (.int .i64 0)).setCell ⟨h, i * 2 + 1, none⟩ (.int .i64 0) = w2 at *
        refine (p_next d2 (by rw [Hll.out]; exact Len.out) hb i (by rw [Hll.out]; exact hi)).mono ?_
        rintro e w' ⟨rfl, rfl⟩
        rw [Hll.out]
        clear c4 q1 q2 k0 k1
        go_wp2_with fail
        go_loopw [5, 8] (fun hole i wr => PTakeRel w g h l b u t xs.length em R hole i wr) (fun _ i _ => way xs.length (intOf i).toNat em)
        case atStart => exact ⟨xs.length, 1, i, (i + 1) % xs.length, _, rfl, rfl, hT.out.symm, t0, rfl, hcE, hne, hwy, Hll.out, Hmx.out, d2, T2⟩
        case round =>
          obtain ⟨f, m, p, q, ys, rfl, rfl, hR, hH, hqe, hce, hnp, hwy', hL, hM, d3, T3⟩ := hrel
          obtain ⟨f, rfl⟩ : ∃ f', f = f' + 1 := ⟨f - 1, by omega⟩
          have hql : q < ys.length := by rw [hL.out, hqe]; exact Nat.mod_lt _ h0
          have hyl : ys.length ≤ 1099511627776 := by rw [hL.out]; exact hlen40
          have hpl := hH.hl
          have hR2 : Hid ((if cntA ys q ≤ 0 then ys else if way ys.length (homeA b (idA ys q)) p ≤ way ys.length (homeA b (idA ys q)) q then takeF b f ((ys.set p (idA ys q, cntA ys q)).set q (0, 0)) q ((q + 1) % ys.length) else takeF b f ys p ((q + 1) % ys.length)) = R) := hR.out
          obtain ⟨capc4, c4⟩ := d3.c4
          obtain ⟨q1, q2⟩ := d3.at hql
          have hcq := hH.pos q
          have hkq := hH.one q
          have hmq := hM q
          have Hqe := hid hqe
          have Hce := hid hce
          have HL2 := hid hL.out
          have Hnp := hid hnp
          have HM := hid hM
          clear hR hce hM hqe hnp
          have HV := hid (fun (k : 1 ≤ idA ys q) => homeV_nat (b := b) hb1 (by omega) k)
          have hhl := hH.home (idA ys q)
          have eqq : q = (p + m) % ys.length := by rw [HL2.out]; exact Hqe.out
          have Mv := hid (fun h2 h3 => hH.move (i := q) eqq h2 h3)
          have Sk : Hid (0 < cntA ys q → ¬ way ys.length (homeA b (idA ys q)) p ≤ way ys.length (homeA b (idA ys q)) q → TabH b ys p (m + 1)) := by
            rw [eqq]; exact fun h1 h2 => hH.skip h1 h2
          have hpq : Hid (0 < cntA ys q → p ≠ q) := fun h1 e => by have := hH.he; rw [e] at this; omega
          clear eqq
          generalize eyy : idA ys q = y at *
          generalize exx : cntA ys q = z at *
          have Eyy := hid eyy
          have Exx := hid exx
          clear eyy exx
          by_cases hz : 0 < z
          · have hy1 := hkq hz
            have Hm := hid (fun W' : World => p_home (b : Int) y W' (by omega) (by omega) (by omega) hmq)
            rw [HV.out hy1] at Hm
            have Wp := hid (fun (W' : World) (q' : Pn W' g h l b u t ys) => p_way q' (by rw [HL2.out]; exact Len.out) hb (homeA b y) p hhl hpl)
            have Wq := hid (fun (W' : World) (q' : Pn W' g h l b u t ys) => p_way q' (by rw [HL2.out]; exact Len.out) hb (homeA b y) q hhl hql)
            have Nx := hid (fun (W' : World) (ys' : List Nd) (q' : Pn W' g h l b u t ys') (k : ys'.length = xs.length) => p_next q' (by rw [k]; exact Len.out) hb q (by rw [k, ← HL2.out]; exact hql))
            generalize homeA b y = H at *
            generalize way ys.length H p = A at *
            generalize way ys.length H q = B at *
            have c1 : wr.cell? ⟨g, 1, none⟩ = some (.int .i64 b) := d3.c1
            have hqn : Hid (em ≠ q) := fun e => by have := Hce.out; rw [e, Exx.out] at this; omega
            have hwn : Hid (way xs.length ((q + 1) % xs.length) em + 1 = way xs.length q em) := way_next (by rw [← HL2.out]; exact hql) he (Ne.symm hqn.out)
            have q0 := d3.at hpl
            by_cases hAB : A ≤ B
            · as_aux_lemma =>
                go_wp2_with fail
                go_quiet ((go_at_call 147; exact Calls.quiet_of_same (cells_home (Hm.out _))))
                go_wp2_with fail
                refine (Wp.out _ (d3.drewN nq)).mono ?_
                rintro e w' ⟨rfl, rfl⟩
                go_wp2_with fail
                refine (Wq.out _ (d3.drewN nq)).mono ?_
                rintro e w' ⟨rfl, rfl⟩
                obtain ⟨q3, q4⟩ := q0
                have k0 := d3.fh (p * 2)
                have k1 := d3.fh (p * 2 + 1)
                have k2 := d3.fh (q * 2)
                have k3 := d3.fh (q * 2 + 1)
                have hpq' : p ≠ q := hpq.out hz
                have d4 := (d3.drewN nq)
                have T4 := T3.drewN nq
                have c4' : (wr.drewN nq).cell? ⟨g, 4, none⟩ = some (.slice (some ⟨h, 0, none⟩) ys.length capc4) := c4
                have q1' : (wr.drewN nq).cell? ⟨h, q * 2, none⟩ = some (.int .i64 y) := q1
                have q2' : (wr.drewN nq).cell? ⟨h, q * 2 + 1, none⟩ = some (.int .i64 z) := q2
                have q3' : (wr.drewN nq).cell? ⟨h, p * 2, none⟩ = some (.int .i64 (idA ys p)) := q3
                have q4' : (wr.drewN nq).cell? ⟨h, p * 2 + 1, none⟩ = some (.int .i64 (cntA ys p)) := q4
                have k0' : (wr.drewN nq).frozen? ⟨h, p * 2, none⟩ = false := k0
                have k1' : (wr.drewN nq).frozen? ⟨h, p * 2 + 1, none⟩ = false := k1
                have k2' : (wr.drewN nq).frozen? ⟨h, q * 2, none⟩ = false := k2
                have k3' : (wr.drewN nq).frozen? ⟨h, q * 2 + 1, none⟩ = false := k3
                clear c4 q1 q2 q3 q4 k0 k1 k2 k3 c1
                generalize wr.drewN nq = wq at *
                as_aux_lemma =>
                  go_wp2_with fail
                  go_region
                  have d5 := ((d4.store p hpl y z).store q (by simpa using hql) 0 0).drew
                  have T5 : Tch g h w ((((wq.setCell ⟨h, p * 2, none⟩ (.int .i64 y)).setCell ⟨h, p * 2 + 1, none⟩ (.int .i64 z)).setCell ⟨h, q * 2, none⟩ (.int .i64 0)).setCell ⟨h, q * 2 + 1, none⟩ (.int .i64 0)).drew := ((((T4.trans (Tch.set2 _ _ _)).trans (Tch.set2 _ _ _)).trans (Tch.set2 _ _ _)).trans (Tch.set2 _ _ _)).drewN 1
                  generalize ((((wq.setCell ⟨h, p * 2, none⟩ (.int .i64 y)).setCell ⟨h, p * 2 + 1, none⟩ (.int .i64 z)).setCell ⟨h, q * 2, none⟩ (.int .i64 0)).setCell ⟨h, q * 2 + 1, none⟩ (.int .i64 0)).drew = wz at *
                  have hl5 : ((ys.set p (y, z)).set q ((0 : Int), (0 : Int))).length = ys.length := by simp
                  have hl6 : ((ys.set p (y, z)).set q ((0 : Int), (0 : Int))).length = xs.length := hl5.trans HL2.out
                  have hqp1 : q < (ys.set p (y, z)).length := by simpa using hql
                  have hcm : cntA ((ys.set p (y, z)).set q (0, 0)) em ≤ 0 := by
                    rw [cntA_set _ q em _ hqp1, if_neg (Ne.symm hqn.out), cntA_set ys p em _ hpl, if_neg (Ne.symm Hnp.out)]; exact Hce.out
                  have him : ∀ j, idA ((ys.set p (y, z)).set q (0, 0)) j ≤ 9223372036854775807 := fun j => by
                    rw [idA_set _ q j _ hqp1]; split
                    · decide
                    · rw [idA_set ys p j _ hpl]; split
                      · exact hmq
                      · exact HM.out j
                  have Him := hid him
                  have Hcm := hid hcm
                  have Hl6 := hid hl6
                  clear hl5 hl6 hcm him c4' q1' q2' q3' q4' k0' k1' k2' k3'
                  go_wp2_with fail
                  refine (Nx.out _ _ d5 Hl6.out).mono ?_
                  rintro e w' ⟨rfl, rfl⟩
                  rw [Hl6.out]
                  go_wp2_with fail
                  go_roundw
                  case rel =>
                    refine ⟨f, 1, q, (q + 1) % xs.length, _, rfl, rfl, ?_, Mv.out hz hAB, rfl, Hcm.out, hqn.out, by have := hwn.out; omega, Hl6.out, Him.out, d5, T5⟩
                    have e := hR2.out
                    rw [if_neg (by omega), if_pos hAB, HL2.out] at e
                    exact e
                  case measure => simp [intOf]; rw [toNat_next]; have := hwn.out; omega
            · as_aux_lemma =>
                go_wp2_with fail
                go_quiet ((go_at_call 147; exact Calls.quiet_of_same (cells_home (Hm.out _))))
                go_wp2_with fail
                refine (Wp.out _ (d3.drewN nq)).mono ?_
                rintro e w' ⟨rfl, rfl⟩
                go_wp2_with fail
                refine (Wq.out _ (d3.drewN nq)).mono ?_
                rintro e w' ⟨rfl, rfl⟩
                go_wp2_with fail
                refine (Nx.out _ ys (d3.drewN nq) HL2.out).mono ?_
                rintro e w' ⟨rfl, rfl⟩
                rw [HL2.out]
                go_wp2_with fail
                go_roundw
                case rel =>
                  refine ⟨f, m + 1, p, (q + 1) % xs.length, ys, rfl, rfl, ?_, Sk.out hz hAB, ?_, Hce.out, Hnp.out, by have := hwn.out; omega, HL2.out, HM.out, d3.drewN nq, T3.drewN nq⟩
                  · have e := hR2.out
                    rw [if_neg (by omega), if_neg hAB, HL2.out] at e
                    exact e
                  · rw [Hqe.out]; exact add_mod_next
                case measure => simp [intOf]; rw [toNat_next]; have := hwn.out; omega
          · have c2 : wr.cell? ⟨g, 2, none⟩ = some (.int .i64 u) := d3.c2
            have c3 : wr.cell? ⟨g, 3, none⟩ = some (.int .i64 t) := d3.c3
            have f2 := d3.fg 2
            have f3 := d3.fg 3
            as_aux_lemma =>
              go_wp2_with fail
              go_ret
              have e := hR2.out
              rw [if_pos (by omega)] at e
              rw [e] at d3
              have d4 := (d3.used (u - 1)).tot (t - x)
              refine ⟨rfl, ⟨?_, WV.out⟩, (T3.trans (Tch.set1 _ _ _)).trans (Tch.set1 _ _ _)⟩
              rw [W2'.out, W3'.out]
              exact d4
end Go.Proofs.Ytejoecoenehooaa
