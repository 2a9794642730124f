/- Texts laid together. -/
import Derived.Test.YtdnlejboijkcfaaGreatDoorP04
import Derived.BigRegion
import Derived.Test.YtdnlejboijkcfaaGreatDoorP01
import Derived.Test.YtdnlejboijkcfaaGreatDoorP03
/- Texts laid together: Probe6, Probe7, Probe8, PbSnap. -/
/- The walk of the probe's Add. -/
namespace Go.Proofs.YtdnlejboijkcfaaGreatDoor
set_option maxHeartbeats 8000000
set_option maxRecDepth 100000
open Go.RowKit Nl
namespace Nl
def pAddCode (l : Int) (xs : List (Int × Int)) (id c : Int) : Int := if rightB l id = false ∨ c < 0 then 2 else if 72057594037927935 < sumL xs + c then 5 else 0
def pAdd (l : Int) (b : Nat) (xs : List (Int × Int)) (id c : Int) : Nat × List (Int × Int) := if pAddCode l xs id c = 0 then addT b xs id c else (b, xs)
theorem Pv.add {l : Int} {b : Nat} {xs : List (Int × Int)} (v : Pv l b xs) (hb : b + 1 ≤ 62) {id c : Int} (hr : rightB l id = true) (hc : 0 ≤ c) (hm : sumL xs + c ≤ 72057594037927935) : Pv l (addT b xs id c).1 (addT b xs id c).2 := by
  obtain ⟨a1, a2, a3, a4, a5, a6⟩ := addT_spec v.tab hb v.half (right_pos hr) hc
  refine ⟨v.l1, v.l2, a1, a2, by omega, fun i hi => ?_⟩
  have hlt : i < (addT b xs id c).2.length := by
    refine Nat.lt_of_not_le fun h => ?_
    have : cntA (addT b xs id c).2 i = 0 := by unfold cntA; simp [List.getD, List.getElem?_eq_none h]
    omega
  rcases (a6 _ _).1 ⟨i, hlt, rfl, rfl, hi⟩ with ⟨_, j, hj, g1, g2, g3⟩ | ⟨g1, _⟩
  · rw [← g1]; exact v.ids j (by omega)
  · rw [g1]; exact hr
theorem Pv.add' {l : Int} {b : Nat} {xs : List (Int × Int)} (v : Pv l b xs) (hb : b + 1 ≤ 62) (id c : Int) : Pv l (pAdd l b xs id c).1 (pAdd l b xs id c).2 := by
  unfold pAdd
  split
  · rename_i h
    unfold pAddCode at h
    split at h
    · omega
    · rename_i h1
      split at h
      · omega
      · have hr : rightB l id = true := by
          cases h3 : rightB l id
          · exact absurd (.inl h3) h1
          · rfl
        exact v.add hb hr (by by_cases hq : c < 0; exact absurd (.inr hq) h1; omega) (by omega)
  · exact v
theorem right_max {l id : Int} (h : rightB l id = true) : id ≤ 9223372036854775807 := by
  simp only [rightB, decide_eq_true_eq] at h
  obtain ⟨n, rfl⟩ := Int.eq_ofNat_of_zero_le (show 0 ≤ l by omega)
  have := (pow48 (n := n) (by omega)).2
  simp only [Int.toNat_natCast] at h
  omega
theorem Pv.idmax {l : Int} {b : Nat} {xs : List (Int × Int)} (v : Pv l b xs) (i : Nat) : idA xs i ≤ 9223372036854775807 := by
  by_cases h : 0 < cntA xs i
  · exact right_max (v.ids i h)
  · have := v.tab.zero i (by have := v.tab.pos i; omega); omega
end Nl
theorem Pn.used {w : World} {g h : Nat} {l u t : Int} {b : Nat} {xs : List Nd} (d : Pn w g h l b u t xs) (u' : Int) : Pn (w.setCell ⟨g, 2, none⟩ (.int .i64 u')) g h l b u' t xs := by
  obtain ⟨cap, rest, d1, d2, d3⟩ := d
  have h1 := d1.set 2 (.int .i64 u')
  exact ⟨cap, rest, by simpa using h1, d2.set_other _ _ (Ne.symm d3), d3⟩
theorem Pn.tot {w : World} {g h : Nat} {l u t : Int} {b : Nat} {xs : List Nd} (d : Pn w g h l b u t xs) (t' : Int) : Pn (w.setCell ⟨g, 3, none⟩ (.int .i64 t')) g h l b u t' xs := by
  obtain ⟨cap, rest, d1, d2, d3⟩ := d
  have h1 := d1.set 3 (.int .i64 t')
  exact ⟨cap, rest, by simpa using h1, d2.set_other _ _ (Ne.symm d3), d3⟩
theorem Pn.cnt {w : World} {g h : Nat} {l u t : Int} {b : Nat} {xs : List Nd} (d : Pn w g h l b u t xs) (k : Nat) (hk : k < xs.length) (c : Int) : Pn (w.setCell ⟨h, k * 2 + 1, none⟩ (.int .i64 c)) g h l b u t (xs.set k (idA xs k, c)) := by
  have e : (xs.set k (idA xs k, c)).length = xs.length := by simp
  obtain ⟨cap, rest, d1, d2, d3⟩ := d
  refine ⟨cap, rest, ?_, ?_, d3⟩
  · rw [e]; exact d1.set_other _ _ d3
  · have h2 := d2.set (k * 2 + 1) (.int .i64 c)
    have hl := ncells_length xs
    rw [set_rest (by omega)] at h2
    have e2 : (ncells xs).set (k * 2 + 1) (.int .i64 c) = ncells (xs.set k (idA xs k, c)) := (ncells_set xs k c).symm
    rwa [e2] at h2
def PAddPost (g h : Nat) (l : Int) (r : Nat × List Nd) (code : Int) (w : World) (e : Ending) (w' : World) : Prop :=
  e = .returned (.int .i64 code) ∧ ∃ h', PnV w' g h' l r.1 r.2 ∧ (h' = h ∨ w.heap.size ≤ h') ∧ Tch g h w w'
theorem p_add {w : World} {g h : Nat} {l : Int} {b : Nat} {xs : List Nd} (id c : Int) (d : PnV w g h l b xs) (hb : b + 1 ≤ 40) (hb1 : 1 ≤ b) (bi : -9223372036854775808 ≤ id ∧ id ≤ 9223372036854775807) (bc : -9223372036854775808 ≤ c ∧ c ≤ 9223372036854775807) :
    Calls Tryz.prog 120 #[.pointer (some ⟨g, 0, none⟩), .int .i64 id, .int .i64 c] w (PAddPost g h l (pAdd l b xs id c) (pAddCode l xs id c) w) := by
  obtain ⟨d, v⟩ := d
  have W := hid (v.add' (by omega) id c)
  have hl := And.intro v.l1 v.l2
  have ht0 := sumL_nonneg (pos_of_tab v.tab)
  have htm := v.most
  obtain ⟨r, er⟩ : ∃ r, rightB l id = r := ⟨_, rfl⟩
  have Er := hid er
  have same : ∀ W' : World, Tch g h w W' → Pn W' g h l b (occ xs) (sumL xs) xs → pAddCode l xs id c ≠ 0 → ∃ h', PnV W' g h' l (pAdd l b xs id c).1 (pAdd l b xs id c).2 ∧ (h' = h ∨ w.heap.size ≤ h') ∧ Tch g h w W' := fun W' tc dd q => by
    have e : pAdd l b xs id c = (b, xs) := by unfold pAdd; rw [if_neg q]
    rw [e]; exact ⟨h, ⟨dd, v⟩, .inl rfl, tc⟩
  have Same := hid same
  clear same
  cases r
  · have e : pAddCode l xs id c = 2 := by unfold pAddCode; rw [if_pos (.inl er)]
    have E := hid e
    clear er e
    go_enter Tryz.func120, Tryz.ntmps120
    go_wp2_with fail
    refine (p_right id d hl bi).mono ?_
    rintro e w' ⟨rfl, rfl⟩
    rw [Er.out]
    go_wp2_with fail
    go_ret
    exact ⟨ret_int E.out.symm, Same.out _ (Tch.refl _ _ _) d (by rw [E.out]; decide)⟩
  · by_cases h1 : c < 0
    · have e : pAddCode l xs id c = 2 := by unfold pAddCode; rw [if_pos (.inr h1)]
      have E := hid e
      clear er e
      go_enter Tryz.func120, Tryz.ntmps120
      go_wp2_with fail
      refine (p_right id d hl bi).mono ?_
      rintro e w' ⟨rfl, rfl⟩
      rw [Er.out]
      go_wp2_with fail
      go_ret
      exact ⟨ret_int E.out.symm, Same.out _ (Tch.refl _ _ _) d (by rw [E.out]; decide)⟩
    · have c3 : w.cell? ⟨g, 3, none⟩ = some (.int .i64 (sumL xs)) := d.c3
      obtain ⟨o, eo⟩ : ∃ o, addOk (sumL xs) c = o := ⟨_, rfl⟩
      have Eo := hid eo
      cases o
      · have hx : 72057594037927935 < sumL xs + c := by
          simp only [addOk, decide_eq_false_iff_not] at eo
          omega
        have e : pAddCode l xs id c = 5 := by unfold pAddCode; rw [if_neg (by rw [er]; simp; omega), if_pos hx]
        have E := hid e
        clear er e hx eo
        go_enter Tryz.func120, Tryz.ntmps120
        go_wp2_with fail
        refine (p_right id d hl bi).mono ?_
        rintro e w' ⟨rfl, rfl⟩
        rw [Er.out]
        go_wp2_with fail
        refine (add_any (sumL xs) c w (by omega) (by omega) bc.1 bc.2).mono ?_
        rintro e w' ⟨rfl, rfl⟩
        rw [Eo.out]
        go_wp2_with fail
        go_ret
        exact ⟨ret_int E.out.symm, Same.out _ (Tch.refl _ _ _) d (by rw [E.out]; decide)⟩
      · have ev : addV (sumL xs) c = sumL xs + c := by unfold addV; rw [eo]; rfl
        have Ev := hid ev
        by_cases h2 : 72057594037927935 < sumL xs + c
        · have e : pAddCode l xs id c = 5 := by unfold pAddCode; rw [if_neg (by rw [er]; simp; omega), if_pos h2]
          have E := hid e
          clear er e eo ev
          go_enter Tryz.func120, Tryz.ntmps120
          go_wp2_with fail
          refine (p_right id d hl bi).mono ?_
          rintro e w' ⟨rfl, rfl⟩
          rw [Er.out]
          go_wp2_with fail
          refine (add_any (sumL xs) c w (by omega) (by omega) bc.1 bc.2).mono ?_
          rintro e w' ⟨rfl, rfl⟩
          rw [Eo.out, Ev.out]
          go_wp2_with fail
          go_ret
          exact ⟨ret_int E.out.symm, Same.out _ (Tch.refl _ _ _) d (by rw [E.out]; decide)⟩
        · have e : pAddCode l xs id c = 0 := by unfold pAddCode; rw [if_neg (by rw [er]; simp; omega), if_neg h2]
          have E := hid e
          have e2 : pAdd l b xs id c = addT b xs id c := by unfold pAdd; rw [if_pos e]
          rw [e2] at W ⊢
          clear Same
          by_cases h3 : c = 0
          · have e3 : addT b xs id c = (b, xs) := by unfold addT; rw [if_pos h3]
            have E3 := hid e3
            have hc0 : (c == 0) = true := by simpa using h3
            clear er e eo ev e2 e3 h3
            go_enter Tryz.func120, Tryz.ntmps120
            go_wp2_with fail
            refine (p_right id d hl bi).mono ?_
            rintro e w' ⟨rfl, rfl⟩
            rw [Er.out]
            go_wp2_with fail
            refine (add_any (sumL xs) c w (by omega) (by omega) bc.1 bc.2).mono ?_
            rintro e w' ⟨rfl, rfl⟩
            rw [Eo.out, Ev.out]
            go_wp2_with fail
            go_ret
            exact ⟨ret_int E.out.symm, h, by rw [E3.out]; exact ⟨d, v⟩, .inl rfl, Tch.refl _ _ _⟩
          · have hc0 : (c == 0) = false := by simpa using h3
            obtain ⟨em, he, hs⟩ := v.empty
            have hi1 := right_pos er
            have L := hid (p_look id d v.tab hb1 (by omega) he (hs id) ⟨hi1, bi.2⟩)
            have hlk := look_spec v.tab id he (hs id)
            have hi := hlk.2.2.1
            have hst := hlk.2.1
            have hlen40 : xs.length ≤ 1099511627776 := by
              have h40 : 2 ^ b ≤ 2 ^ 40 := Nat.pow_le_pow_right (by omega) (by omega)
              have h41 : (2 : Nat) ^ 40 = 1099511627776 := rfl
              rw [v.tab.len]; omega
            have hol := occ_le xs
            have hcl := cnt_le v.tab (lookI xs b id)
            have hcp := v.tab.pos (lookI xs b id)
            have hT : Hid (addT b xs id c = if 0 < cntA xs (lookI xs b id) then (b, xs.set (lookI xs b id) (id, cntA xs (lookI xs b id) + c)) else if xs.length < 2 * (occ xs + 1) then (b + 1, (widenP b xs).set (lookI (widenP b xs) (b + 1) id) (id, c)) else (b, xs.set (lookI xs b id) (id, c))) := by
              show _ = _
              unfold addT; rw [if_neg h3]
            have hst2 : Hid (0 < cntA xs (lookI xs b id) → idA xs (lookI xs b id) = id) := fun q => by
              rcases stopB_iff.1 hst with p | p
              · omega
              · exact p
            have Cs := hid (fun x => occ_set xs (lookI xs b id) x hi)
            have Ss := hid (fun x => sumL_set xs (lookI xs b id) x hi)
            generalize ei : lookI xs b id = i at *
            have Ei := hid ei
            have H3 := hid h3
            clear er e eo ev e2 h3 hs hst hlk ei
            go_enter Tryz.func120, Tryz.ntmps120
            go_wp2_with fail
            refine (p_right id d hl bi).mono ?_
            rintro e w' ⟨rfl, rfl⟩
            rw [Er.out]
            go_wp2_with fail
            refine (add_any (sumL xs) c w (by omega) (by omega) bc.1 bc.2).mono ?_
            rintro e w' ⟨rfl, rfl⟩
            rw [Eo.out, Ev.out]
            go_wp2_with fail
            refine L.out.mono ?_
            rintro e w1 ⟨rfl, hb1'⟩
            have d1 := d.below hb1' nlr
            have T1 : Tch g h w w1 := Tch.of_below hb1'
            obtain ⟨u, eu⟩ : ∃ u : Int, (occ xs : Int) = u := ⟨_, rfl⟩
            obtain ⟨t, et⟩ : ∃ t : Int, sumL xs = t := ⟨_, rfl⟩
            rw [eu, et] at d1
            rw [et] at hcl ht0 htm h2 ⊢
            have hu1 : u ≤ xs.length := by omega
            have hu0 : 0 ≤ u := by omega
            have Eu := hid eu
            have Et := hid et
            have c1' : w1.cell? ⟨g, 2, none⟩ = some (.int .i64 u) := d1.c2
            obtain ⟨capc4, c4⟩ := d1.c4
            have c3' : w1.cell? ⟨g, 3, none⟩ = some (.int .i64 t) := d1.c3
            obtain ⟨q1, q2⟩ := d1.at hi
            have f2 := d1.fg 2
            have f3 := d1.fg 3
            have k0 := d1.fh (i * 2)
            have k1 := d1.fh (i * 2 + 1)
            have hgh := d1.ne
            generalize ey : idA xs i = y at *
            generalize ex : cntA xs i = x at *
            have Ey := hid ey
            have Ex := hid ex
            clear c3 eu et ey ex L
            by_cases h4 : x = 0
            · have hx : (x == 0) = true := by simpa using h4
              have H4 := hid h4
              clear h4
              have d2 := d1.used (u + 1)
              have T2 := T1.trans (Tch.set1 (g := g) (h := h) w1 2 (.int .i64 (u + 1)))
              by_cases h5 : (xs.length : Int) < 2 * (u + 1)
              · have Wd := hid (fun W' q => p_widen (w := W') q v.tab hb1 hb v.idmax (g := g) (h := h) (l := l) (u := u + 1) (t := t))
                obtain ⟨w1', w2', w3', w4', w5'⟩ := widen_spec v.tab (show b + 1 ≤ 62 by omega)
                have hwl : (widenP b xs).length ≤ 2199023255552 := by omega
                have h0l := v.tab.pos_len
                obtain ⟨e2, he2, hce2⟩ := has_empty (show occ (widenP b xs) < (widenP b xs).length by have := v.half; omega)
                have hs2 := stopB_iff (xs := widenP b xs) (id := id) (i := e2) |>.2 (.inl hce2)
                have hlk2 := look_spec w1' id he2 hs2
                have hi2 := hlk2.2.2.1
                have Lk := hid (fun W' h' q => p_look (w := W') id q w1' (by omega) hb he2 hs2 ⟨hi1, bi.2⟩ (g := g) (h := h') (l := l) (u := u + 1) (t := t))
                have HZ : Hid (cntA (widenP b xs) (lookI (widenP b xs) (b + 1) id) = 0) := by
                  have hno := look_none v.tab id (by rw [Ei.out, Ex.out, H4.out]; decide)
                  exact (new_spec w1' hi1 (show 0 < c by have := H3.out; omega) (by have := v.half; omega) (fun j hj hcj q => by
                    obtain ⟨j', hj', g1, g2, g3⟩ := (w5' id _).1 ⟨j, hj, q, rfl, hcj⟩
                    exact hno j' hj' (by omega) g1)).2.1
                have Nw := hid (fun q => new_spec w1' hi1 (show 0 < c by have := H3.out; omega) (by have := v.half; omega) q)
                have W2 := hid w2'
                have W3 := hid w3'
                have W4 := hid w4'
                have C2 := hid (fun x => occ_set (widenP b xs) (lookI (widenP b xs) (b + 1) id) x hi2)
                have S2 := hid (fun x => sumL_set (widenP b xs) (lookI (widenP b xs) (b + 1) id) x hi2)
                generalize ej : lookI (widenP b xs) (b + 1) id = j at *
                generalize ez : widenP b xs = zs at *
                have Ez := hid ez
                have Ej := hid ej
                clear w1' w2' w3' w4' w5' hce2 hs2 hlk2 ez ej he2
                as_aux_lemma =>
                  go_wp2_with fail
                  go_quiet (fail)
                  go_wp2_with fail
                  refine (Wd.out _ (d2.drewN nq)).mono ?_
                  rintro e w3 ⟨rfl, h', d3, hh', T3⟩
                  rw [Ez.out] at d3
                  go_wp2_with fail
                  refine (Lk.out _ h' d3).mono ?_
                  rintro e w4 ⟨rfl, hb4⟩
                  have d4 := d3.below hb4 nlr
                  have T4 : Tch g h w w4 := (((T2.drewN nq).trans ⟨T3.os, T3.tape, T3.output, T3.size, fun k hk e1 _ => T3.block k hk e1 e1⟩).below' hb4)
                  obtain ⟨capc4', c4'⟩ := d4.c4
                  have c3'' : w4.cell? ⟨g, 3, none⟩ = some (.int .i64 t) := d4.c3
                  obtain ⟨q1', q2'⟩ := d4.at hi2
                  rw [HZ.out] at q2'
                  have f3' := d4.fg 3
                  have k0' := d4.fh (j * 2)
                  have k1' := d4.fh (j * 2 + 1)
                  have hgh' := d4.ne
                  clear c1' c4 c3' q1 q2 f2 f3 k0 k1
                  as_aux_lemma =>
                    go_wp2_with fail
                    go_ret
                    have d5 := (d4.store j hi2 id c).tot (t + c)
                    have hw1 := T1.size
                    have hh2 : (w1.setCell ⟨g, 2, none⟩ (.int .i64 (u + 1))).heap.size ≤ h' := hh'
                    simp only [World.size_setCell] at hh2
                    have hnp : ¬ 0 < x := by have := H4.out; omega
                    have hlt : xs.length < 2 * (occ xs + 1) := by have := Eu.out; omega
                    have w3 := W.out
                    rw [hT.out, if_neg hnp, if_pos hlt] at w3
                    have q1 := C2.out (id, c)
                    have q2 := S2.out (id, c)
                    rw [HZ.out, W2.out] at q1
                    rw [HZ.out, W3.out] at q2
                    rw [if_neg (by decide), if_pos (show 0 < (id, c).2 by show 0 < c; have := H3.out; omega)] at q1
                    have q3 : (occ (zs.set j (id, c)) : Int) = u + 1 := by rw [← Eu.out]; omega
                    have q4 : sumL (zs.set j (id, c)) = t + c := by rw [← Et.out]; simp only at q2; omega
                    refine ⟨ret_int E.out.symm, h', ?_, .inr (by omega), ((T4.setNew (by omega) _).setNew (by omega) _).trans (Tch.set1 _ _ _)⟩
                    rw [hT.out, if_neg hnp, if_pos hlt]
                    exact ⟨by show Pn _ _ _ _ _ _ _ _; rw [q3, q4]; exact d5, w3⟩
              · as_aux_lemma =>
                  go_wp2_with fail
                  go_quiet (fail)
                  go_wp2_with fail
                  go_ret
                  have d5 := ((d2.drewN nq).store i hi id (x + c)).tot (t + c)
                  have hnp : ¬ 0 < x := by have := H4.out; omega
                  have hlt : ¬ xs.length < 2 * (occ xs + 1) := by have := Eu.out; omega
                  have hxc : x + c = c := by have := H4.out; omega
                  have w3 := W.out
                  rw [hT.out, if_neg hnp, if_neg hlt] at w3
                  have q1 := Cs.out (id, c)
                  have q2 := Ss.out (id, c)
                  rw [if_neg hnp, if_pos (show 0 < (id, c).2 by show 0 < c; have := H3.out; omega)] at q1
                  have q3 : (occ (xs.set i (id, c)) : Int) = u + 1 := by rw [← Eu.out]; omega
                  have q4 : sumL (xs.set i (id, c)) = t + c := by rw [← Et.out]; have := H4.out; simp only at q2; omega
                  refine ⟨ret_int E.out.symm, h, ?_, .inl rfl, (((T2.drewN nq).trans (Tch.set2 _ _ _)).trans (Tch.set2 _ _ _)).trans (Tch.set1 _ _ _)⟩
                  rw [hT.out, if_neg hnp, if_neg hlt]
                  refine ⟨?_, w3⟩
                  show Pn _ _ _ _ _ _ _ _
                  rw [q3, q4]
                  rw [hxc] at d5 ⊢
                  exact d5
            · have hx : (x == 0) = false := by simpa using h4
              have hxp : 0 < x := by omega
              clear h4
              as_aux_lemma =>
                go_wp2_with fail
                go_ret
                have d2 := (d1.cnt i hi (x + c)).tot (t + c)
                rw [Ey.out, hst2.out hxp] at d2
                have w3 := W.out
                rw [hT.out, if_pos hxp] at w3
                refine ⟨ret_int E.out.symm, h, ?_, .inl rfl, (T1.trans (Tch.set2 _ _ _)).trans (Tch.set1 _ _ _)⟩
                rw [hT.out, if_pos hxp]
                have q1 := Cs.out (id, x + c)
                have q2 := Ss.out (id, x + c)
                rw [if_pos hxp, if_pos (show 0 < (id, x + c).2 by show 0 < x + c; omega)] at q1
                have q3 : (occ (xs.set i (id, x + c)) : Int) = u := by rw [← Eu.out]; omega
                have q4 : sumL (xs.set i (id, x + c)) = t + c := by rw [← Et.out]; simp only at q2; omega
                exact ⟨by show Pn _ _ _ _ _ _ _ _; rw [q3, q4]; exact d2, w3⟩
end Go.Proofs.YtdnlejboijkcfaaGreatDoor
/- The walk of the probe's Take. -/
namespace Go.Proofs.YtdnlejboijkcfaaGreatDoor
set_option maxHeartbeats 8000000
set_option maxRecDepth 100000
open Go.RowKit Nl
namespace Nl
def pTake (l : Int) (b : Nat) (xs : List (Int × Int)) (id : Int) : List (Int × Int) := if pGet l b xs id = 0 then xs else takeP b xs id
theorem Pv.take {l : Int} {b : Nat} {xs : List (Int × Int)} (v : Pv l b xs) (id : Int) : Pv l b (pTake l b xs id) ∧ ((occ (pTake l b xs id) : Int) = occ xs - if pGet l b xs id = 0 then 0 else 1) ∧ sumL (pTake l b xs id) = sumL xs - pGet l b xs id := by
  unfold pTake
  split
  · rename_i h; exact ⟨v, by omega, by omega⟩
  · rename_i h
    have hr : rightB l id = true := by
      cases h3 : rightB l id
      · exact absurd (by unfold pGet; rw [h3]; rfl) h
      · rfl
    have hg : pGet l b xs id = cntA xs (lookI xs b id) := by unfold pGet; rw [hr]; rfl
    have hp := v.tab.pos (lookI xs b id)
    have h0 := v.tab.pos_len
    have hh := v.half
    obtain ⟨e, he, hce⟩ := has_empty (show occ xs < xs.length by omega)
    obtain ⟨t1, t2, t3, t4, t5⟩ := takeP_spec v.tab id he hce (by omega)
    rw [hg]
    refine ⟨⟨v.l1, v.l2, t1, by omega, by have := v.most; omega, fun i hi => ?_⟩, by omega, t3⟩
    have hlt : i < (takeP b xs id).length := by
      refine Nat.lt_of_not_le fun q => ?_
      have : cntA (takeP b xs id) i = 0 := by unfold cntA; simp [List.getD, List.getElem?_eq_none q]
      omega
    obtain ⟨⟨j, hj, g1, g2, g3⟩, _⟩ := (t5 _ _).1 ⟨i, hlt, rfl, rfl, hi⟩
    rw [← g1]; exact v.ids j (by omega)
end Nl
theorem cells_home {P : Program} {f : FuncId} {args : Array Value} {w : World} {v : Value} (h : Calls P f args w fun e w' => e = .returned v ∧ w = w') : Calls P f args w fun e w' => e = .returned v ∧ w' = w := h.mono fun _ _ ⟨a, b⟩ => ⟨a, b.symm⟩
theorem toNat_next (q N : Nat) : (((q : Int) + 1) % (N : Int)).toNat = (q + 1) % N := by
  rw [show ((q : Int) + 1) % (N : Int) = (((q + 1) % N : Nat) : Int) by simp]; exact Int.toNat_natCast _
def PTakeRel (w : World) (g h : Nat) (l : Int) (b : Nat) (u t : Int) (N e : Nat) (R : List Nd) (hole i : Value) (wr : World) : Prop :=
  ∃ (f m p q : Nat) (ys : List Nd), hole = .int .i64 p ∧ i = .int .i64 q ∧ Hid (takeF b f ys p q = R) ∧ TabH b ys p m ∧ q = (p + m) % N ∧ cntA ys e ≤ 0 ∧ e ≠ p ∧ way N q e < f ∧ Hid (ys.length = N) ∧ (∀ j, idA ys j ≤ 9223372036854775807) ∧ Pn wr g h l b u t ys ∧ Tch g h w wr
theorem p_take {w : World} {g h : Nat} {l : Int} {b : Nat} {xs : List Nd} (id : Int) (d : PnV w g h l b xs) (hb : b ≤ 40) (hb1 : 1 ≤ b) (bi : -9223372036854775808 ≤ id ∧ id ≤ 9223372036854775807) :
    Calls Tryz.prog 233 #[.pointer (some ⟨g, 0, none⟩), .int .i64 id] w fun e w' => e = .returned (.int .i64 (pGet l b xs id)) ∧ PnV w' g h l b (pTake l b xs id) ∧ Tch g h w w' := by
  obtain ⟨d, v⟩ := d
  obtain ⟨W1, W2, W3⟩ := v.take id
  have hl := And.intro v.l1 v.l2
  obtain ⟨r, er⟩ : ∃ r, rightB l id = r := ⟨_, rfl⟩
  have Er := hid er
  cases r
  · have e : pGet l b xs id = 0 := by unfold pGet; rw [er]; rfl
    have e2 : pTake l b xs id = xs := by unfold pTake; rw [if_pos e]
    rw [e, e2]
    clear er e e2 W1 W2 W3
    go_enter Tryz.func233, Tryz.ntmps233
    go_wp2_with fail
    refine (p_right id d hl bi).mono ?_
    rintro e w' ⟨rfl, rfl⟩
    rw [Er.out]
    go_wp2_with fail
    go_ret
    exact ⟨rfl, ⟨d, v⟩, Tch.refl _ _ _⟩
  · have eg : pGet l b xs id = cntA xs (lookI xs b id) := by unfold pGet; rw [er]; rfl
    have hi1 := right_pos er
    have h0 := v.tab.pos_len
    have hh := v.half
    obtain ⟨em, he, hce⟩ := has_empty (show occ xs < xs.length by omega)
    have hs := stopB_iff (xs := xs) (id := id) (i := em) |>.2 (.inl hce)
    have L := hid (p_look id d v.tab hb1 (by omega) he hs ⟨hi1, bi.2⟩)
    have hi := (look_spec v.tab id he hs).2.2.1
    have hcp := v.tab.pos (lookI xs b id)
    have hlen40 : xs.length ≤ 1099511627776 := by
      have h40 : 2 ^ b ≤ 2 ^ 40 := Nat.pow_le_pow_right (by omega) (by omega)
      have h41 : (2 : Nat) ^ 40 = 1099511627776 := rfl
      rw [v.tab.len]; omega
    have hT : Hid (takeP b xs id = takeF b xs.length (xs.set (lookI xs b id) (0, 0)) (lookI xs b id) ((lookI xs b id + 1) % xs.length)) := rfl
    by_cases h1 : cntA xs (lookI xs b id) = 0
    · have e : pGet l b xs id = 0 := by rw [eg]; exact h1
      have e2 : pTake l b xs id = xs := by unfold pTake; rw [if_pos e]
      have hc0 : (cntA xs (lookI xs b id) == 0) = true := by simpa using h1
      rw [e, e2]
      generalize lookI xs b id = i at *
      clear er e e2 eg W1 W2 W3 hs h1 hT
      go_enter Tryz.func233, Tryz.ntmps233
      go_wp2_with fail
      refine (p_right id d hl bi).mono ?_
      rintro e w' ⟨rfl, rfl⟩
      rw [Er.out]
      go_wp2_with fail
      refine L.out.mono ?_
      rintro e w1 ⟨rfl, hb1'⟩
      have d1 := d.below hb1' nlr
      obtain ⟨capc4, c4⟩ := d1.c4
      obtain ⟨q1, q2⟩ := d1.at hi
      generalize cntA xs i = x at *
      as_aux_lemma =>
        go_wp2_with fail
        go_ret
        exact ⟨rfl, ⟨d1, v⟩, Tch.of_below hb1'⟩
    · have hn : ¬ pGet l b xs id = 0 := by rw [eg]; exact h1
      have e2 : pTake l b xs id = takeP b xs id := by unfold pTake; rw [if_neg hn]
      rw [if_neg hn] at W2
      rw [e2] at W1 W2 W3 ⊢
      rw [eg] at W3 ⊢
      have hne : em ≠ lookI xs b id := fun q => by have := v.tab.pos em; rw [← q] at h1; omega
      have t0 := TabH.start v.tab hi
      have hc0 : (cntA xs (lookI xs b id) == 0) = false := by simpa using h1
      have hcE : cntA (xs.set (lookI xs b id) (0, 0)) em ≤ 0 := by rw [cntA_set xs _ em _ hi, if_neg (Ne.symm hne)]; exact hce
      have hwy := way_lt ((lookI xs b id + 1) % xs.length) em h0
      have hmx : ∀ j, idA (xs.set (lookI xs b id) (0, 0)) j ≤ 9223372036854775807 := fun j => by
        rw [idA_set xs _ j _ hi]; split
        · decide
        · exact v.idmax j
      have hoc : 1 ≤ occ xs := by have := W2; omega
      have hxm := cnt_le v.tab (lookI xs b id)
      have hmo := v.most
      have hol := occ_le xs
      have hll : (xs.set (lookI xs b id) ((0 : Int), (0 : Int))).length = xs.length := by simp
      have hsr := sumL_nonneg (pos_of_tab W1.tab)
      obtain ⟨R, eR⟩ : ∃ R, takeP b xs id = R := ⟨_, rfl⟩
      rw [eR] at W1 W2 W3 hT hsr ⊢
      have Len := hid v.tab.len
      have Hll := hid hll
      have Hmx := hid hmx
      generalize ei : lookI xs b id = i at *
      obtain ⟨u, eu⟩ : ∃ u : Int, (occ xs : Int) = u := ⟨_, rfl⟩
      obtain ⟨t, et⟩ : ∃ t : Int, sumL xs = t := ⟨_, rfl⟩
      rw [eu] at d W2
      rw [et] at d W3 hxm hmo
      have hu : 1 ≤ u ∧ u ≤ 1099511627776 := by omega
      obtain ⟨x, ex⟩ : ∃ x : Int, cntA xs i = x := ⟨_, rfl⟩
      rw [ex] at W3 hxm h1 hcp hc0 ⊢
      have Ex := hid ex
      have WV := hid W1
      have W2' := hid W2
      have W3' := hid W3
      have hxx : x ≠ 0 := h1
      clear er e2 eg hs hll hmx eR ei eu et ex W1 W2 W3 hn hce hsr h1 v
      have Hxx := hid hxx
      clear hxx
      go_enter Tryz.func233, Tryz.ntmps233
      go_wp2_with fail
      refine (p_right id d hl bi).mono ?_
      rintro e w' ⟨rfl, rfl⟩
      rw [Er.out]
      go_wp2_with fail
      refine L.out.mono ?_
      rintro e w1 ⟨rfl, hb1'⟩
      have d1 := d.below hb1' nlr
      have T1 : Tch g h w w1 := Tch.of_below hb1'
      obtain ⟨capc4, c4⟩ := d1.c4
      obtain ⟨q1, q2⟩ := d1.at hi
      rw [Ex.out] at q2
      have k0 := d1.fh (i * 2)
      have k1 := d1.fh (i * 2 + 1)
      as_aux_lemma =>
        go_wp2_with fail
        have d2 := d1.store i hi 0 0
        have T2 : Tch g h w ((w1.setCell ⟨h, i * 2, none⟩ (.int .i64 0)).setCell ⟨h, i * 2 + 1, none⟩ (.int .i64 0)) := (T1.trans (Tch.set2 _ _ _)).trans (Tch.set2 _ _ _)
        generalize (w1.setCell ⟨h, i * 2, none⟩ (.int .i64 0)).setCell ⟨h, i * 2 + 1, none⟩ (.int .i64 0) = w2 at *
        refine (p_next d2 (by rw [Hll.out]; exact Len.out) hb i (by rw [Hll.out]; exact hi)).mono ?_
        rintro e w' ⟨rfl, rfl⟩
        rw [Hll.out]
        clear c4 q1 q2 k0 k1
        go_wp2_with fail
        go_loopw [5, 8] (fun hole i wr => PTakeRel w g h l b u t xs.length em R hole i wr) (fun _ i _ => way xs.length (intOf i).toNat em)
        case atStart => exact ⟨xs.length, 1, i, (i + 1) % xs.length, _, rfl, rfl, hT.out.symm, t0, rfl, hcE, hne, hwy, Hll.out, Hmx.out, d2, T2⟩
        case round =>
          obtain ⟨f, m, p, q, ys, rfl, rfl, hR, hH, hqe, hce, hnp, hwy', hL, hM, d3, T3⟩ := hrel
          obtain ⟨f, rfl⟩ : ∃ f', f = f' + 1 := ⟨f - 1, by omega⟩
          have hql : q < ys.length := by rw [hL.out, hqe]; exact Nat.mod_lt _ h0
          have hyl : ys.length ≤ 1099511627776 := by rw [hL.out]; exact hlen40
          have hpl := hH.hl
          have hR2 : Hid ((if cntA ys q ≤ 0 then ys else if way ys.length (homeA b (idA ys q)) p ≤ way ys.length (homeA b (idA ys q)) q then takeF b f ((ys.set p (idA ys q, cntA ys q)).set q (0, 0)) q ((q + 1) % ys.length) else takeF b f ys p ((q + 1) % ys.length)) = R) := hR.out
          obtain ⟨capc4, c4⟩ := d3.c4
          obtain ⟨q1, q2⟩ := d3.at hql
          have hcq := hH.pos q
          have hkq := hH.one q
          have hmq := hM q
          have Hqe := hid hqe
          have Hce := hid hce
          have HL2 := hid hL.out
          have Hnp := hid hnp
          have HM := hid hM
          clear hR hce hM hqe hnp
          have HV := hid (fun (k : 1 ≤ idA ys q) => homeV_nat (b := b) hb1 (by omega) k)
          have hhl := hH.home (idA ys q)
          have eqq : q = (p + m) % ys.length := by rw [HL2.out]; exact Hqe.out
          have Mv := hid (fun h2 h3 => hH.move (i := q) eqq h2 h3)
          have Sk : Hid (0 < cntA ys q → ¬ way ys.length (homeA b (idA ys q)) p ≤ way ys.length (homeA b (idA ys q)) q → TabH b ys p (m + 1)) := by
            rw [eqq]; exact fun h1 h2 => hH.skip h1 h2
          have hpq : Hid (0 < cntA ys q → p ≠ q) := fun h1 e => by have := hH.he; rw [e] at this; omega
          clear eqq
          generalize eyy : idA ys q = y at *
          generalize exx : cntA ys q = z at *
          have Eyy := hid eyy
          have Exx := hid exx
          clear eyy exx
          by_cases hz : 0 < z
          · have hy1 := hkq hz
            have Hm := hid (fun W' : World => p_home (b : Int) y W' (by omega) (by omega) (by omega) hmq)
            rw [HV.out hy1] at Hm
            have Wp := hid (fun (W' : World) (q' : Pn W' g h l b u t ys) => p_way q' (by rw [HL2.out]; exact Len.out) hb (homeA b y) p hhl hpl)
            have Wq := hid (fun (W' : World) (q' : Pn W' g h l b u t ys) => p_way q' (by rw [HL2.out]; exact Len.out) hb (homeA b y) q hhl hql)
            have Nx := hid (fun (W' : World) (ys' : List Nd) (q' : Pn W' g h l b u t ys') (k : ys'.length = xs.length) => p_next q' (by rw [k]; exact Len.out) hb q (by rw [k, ← HL2.out]; exact hql))
            generalize homeA b y = H at *
            generalize way ys.length H p = A at *
            generalize way ys.length H q = B at *
            have c1 : wr.cell? ⟨g, 1, none⟩ = some (.int .i64 b) := d3.c1
            have hqn : Hid (em ≠ q) := fun e => by have := Hce.out; rw [e, Exx.out] at this; omega
            have hwn : Hid (way xs.length ((q + 1) % xs.length) em + 1 = way xs.length q em) := way_next (by rw [← HL2.out]; exact hql) he (Ne.symm hqn.out)
            have q0 := d3.at hpl
            by_cases hAB : A ≤ B
            · as_aux_lemma =>
                go_wp2_with fail
                go_quiet ((go_at_call 186; exact Calls.quiet_of_same (cells_home (Hm.out _))))
                go_wp2_with fail
                refine (Wp.out _ (d3.drewN nq)).mono ?_
                rintro e w' ⟨rfl, rfl⟩
                go_wp2_with fail
                refine (Wq.out _ (d3.drewN nq)).mono ?_
                rintro e w' ⟨rfl, rfl⟩
                obtain ⟨q3, q4⟩ := q0
                have k0 := d3.fh (p * 2)
                have k1 := d3.fh (p * 2 + 1)
                have k2 := d3.fh (q * 2)
                have k3 := d3.fh (q * 2 + 1)
                have hpq' : p ≠ q := hpq.out hz
                have d4 := (d3.drewN nq)
                have T4 := T3.drewN nq
                have c4' : (wr.drewN nq).cell? ⟨g, 4, none⟩ = some (.slice (some ⟨h, 0, none⟩) ys.length capc4) := c4
                have q1' : (wr.drewN nq).cell? ⟨h, q * 2, none⟩ = some (.int .i64 y) := q1
                have q2' : (wr.drewN nq).cell? ⟨h, q * 2 + 1, none⟩ = some (.int .i64 z) := q2
                have q3' : (wr.drewN nq).cell? ⟨h, p * 2, none⟩ = some (.int .i64 (idA ys p)) := q3
                have q4' : (wr.drewN nq).cell? ⟨h, p * 2 + 1, none⟩ = some (.int .i64 (cntA ys p)) := q4
                have k0' : (wr.drewN nq).frozen? ⟨h, p * 2, none⟩ = false := k0
                have k1' : (wr.drewN nq).frozen? ⟨h, p * 2 + 1, none⟩ = false := k1
                have k2' : (wr.drewN nq).frozen? ⟨h, q * 2, none⟩ = false := k2
                have k3' : (wr.drewN nq).frozen? ⟨h, q * 2 + 1, none⟩ = false := k3
                clear c4 q1 q2 q3 q4 k0 k1 k2 k3 c1
                generalize wr.drewN nq = wq at *
                as_aux_lemma =>
                  go_wp2_with fail
                  go_region
                  have d5 := ((d4.store p hpl y z).store q (by simpa using hql) 0 0).drew
                  have T5 : Tch g h w ((((wq.setCell ⟨h, p * 2, none⟩ (.int .i64 y)).setCell ⟨h, p * 2 + 1, none⟩ (.int .i64 z)).setCell ⟨h, q * 2, none⟩ (.int .i64 0)).setCell ⟨h, q * 2 + 1, none⟩ (.int .i64 0)).drew := ((((T4.trans (Tch.set2 _ _ _)).trans (Tch.set2 _ _ _)).trans (Tch.set2 _ _ _)).trans (Tch.set2 _ _ _)).drewN 1
                  generalize ((((wq.setCell ⟨h, p * 2, none⟩ (.int .i64 y)).setCell ⟨h, p * 2 + 1, none⟩ (.int .i64 z)).setCell ⟨h, q * 2, none⟩ (.int .i64 0)).setCell ⟨h, q * 2 + 1, none⟩ (.int .i64 0)).drew = wz at *
                  have hl5 : ((ys.set p (y, z)).set q ((0 : Int), (0 : Int))).length = ys.length := by simp
                  have hl6 : ((ys.set p (y, z)).set q ((0 : Int), (0 : Int))).length = xs.length := hl5.trans HL2.out
                  have hqp1 : q < (ys.set p (y, z)).length := by simpa using hql
                  have hcm : cntA ((ys.set p (y, z)).set q (0, 0)) em ≤ 0 := by
                    rw [cntA_set _ q em _ hqp1, if_neg (Ne.symm hqn.out), cntA_set ys p em _ hpl, if_neg (Ne.symm Hnp.out)]; exact Hce.out
                  have him : ∀ j, idA ((ys.set p (y, z)).set q (0, 0)) j ≤ 9223372036854775807 := fun j => by
                    rw [idA_set _ q j _ hqp1]; split
                    · decide
                    · rw [idA_set ys p j _ hpl]; split
                      · exact hmq
                      · exact HM.out j
                  have Him := hid him
                  have Hcm := hid hcm
                  have Hl6 := hid hl6
                  clear hl5 hl6 hcm him c4' q1' q2' q3' q4' k0' k1' k2' k3'
                  go_wp2_with fail
                  refine (Nx.out _ _ d5 Hl6.out).mono ?_
                  rintro e w' ⟨rfl, rfl⟩
                  rw [Hl6.out]
                  go_wp2_with fail
                  go_roundw
                  case rel =>
                    refine ⟨f, 1, q, (q + 1) % xs.length, _, rfl, rfl, ?_, Mv.out hz hAB, rfl, Hcm.out, hqn.out, by have := hwn.out; omega, Hl6.out, Him.out, d5, T5⟩
                    have e := hR2.out
                    rw [if_neg (by omega), if_pos hAB, HL2.out] at e
                    exact e
                  case measure => simp [intOf]; rw [toNat_next]; have := hwn.out; omega
            · as_aux_lemma =>
                go_wp2_with fail
                go_quiet ((go_at_call 186; exact Calls.quiet_of_same (cells_home (Hm.out _))))
                go_wp2_with fail
                refine (Wp.out _ (d3.drewN nq)).mono ?_
                rintro e w' ⟨rfl, rfl⟩
                go_wp2_with fail
                refine (Wq.out _ (d3.drewN nq)).mono ?_
                rintro e w' ⟨rfl, rfl⟩
                go_wp2_with fail
                refine (Nx.out _ ys (d3.drewN nq) HL2.out).mono ?_
                rintro e w' ⟨rfl, rfl⟩
                rw [HL2.out]
                go_wp2_with fail
                go_roundw
                case rel =>
                  refine ⟨f, m + 1, p, (q + 1) % xs.length, ys, rfl, rfl, ?_, Sk.out hz hAB, ?_, Hce.out, Hnp.out, by have := hwn.out; omega, HL2.out, HM.out, d3.drewN nq, T3.drewN nq⟩
                  · have e := hR2.out
                    rw [if_neg (by omega), if_neg hAB, HL2.out] at e
                    exact e
                  · rw [Hqe.out]; exact add_mod_next
                case measure => simp [intOf]; rw [toNat_next]; have := hwn.out; omega
          · have c2 : wr.cell? ⟨g, 2, none⟩ = some (.int .i64 u) := d3.c2
            have c3 : wr.cell? ⟨g, 3, none⟩ = some (.int .i64 t) := d3.c3
            have f2 := d3.fg 2
            have f3 := d3.fg 3
            as_aux_lemma =>
              go_wp2_with fail
              go_ret
              have e := hR2.out
              rw [if_pos (by omega)] at e
              rw [e] at d3
              have d4 := (d3.used (u - 1)).tot (t - x)
              refine ⟨rfl, ⟨?_, WV.out⟩, (T3.trans (Tch.set1 _ _ _)).trans (Tch.set1 _ _ _)⟩
              rw [W2'.out, W3'.out]
              exact d4
end Go.Proofs.YtdnlejboijkcfaaGreatDoor
/- The walks of the probe: Snap, Clone. -/
namespace Go.Proofs.YtdnlejboijkcfaaGreatDoor
set_option maxHeartbeats 8000000
set_option maxRecDepth 100000
open Go.RowKit Nl
theorem o_sorted {v : Value} {xs : List Nd} (w : World) (hr : RdN w v xs) (hl : xs.length < 1048576) :
    Calls Tryz.prog 196 #[v] w (IsNodes (sortL xs) w) := by
  have S := hid (o_sorts xs.length xs v w nlr hl hr)
  obtain ⟨p, cap, rfl⟩ := hr.val
  go_enter Tryz.func196, Tryz.ntmps196
  go_wp2_with fail
  refine S.out.mono ?_
  rintro e w1 ⟨v1, zs, rfl, hs, _, ho, hb⟩
  have e := SS_sortL hs
  subst e
  go_wp2_with fail
  go_ret
  exact ⟨_, rfl, ho, hb⟩
def PSnapRel (w : World) (xs : List Nd) (out i : Value) (wr : World) : Prop :=
  ∃ k : Nat, i = .int .i64 k ∧ k ≤ xs.length ∧ OwnN wr w.heap.size out (full (xs.take k)) ∧ Below w.heap.size w wr
theorem p_snap {w : World} {g h : Nat} {l u t : Int} {b : Nat} {xs : List Nd} (d : Pn w g h l b u t xs) (hcl : xs.length < 1048576) :
    Calls Tryz.prog 164 #[.pointer (some ⟨g, 0, none⟩)] w (IsNodes (sortL (full xs)) w) := by
  obtain ⟨cap, c4⟩ := d.c4
  have hlh := d.lh
  go_enter Tryz.func164, Tryz.ntmps164
  go_wp2_with fail
  go_loopw [3, 13] (fun out i wr => PSnapRel w xs out i wr) (fun _ i _ => xs.length - (intOf i).toNat)
  case atStart => exact ⟨0, rfl, by omega, by simp [full]; exact OwnN.nil _ _, Below.refl _ _⟩
  case round =>
    obtain ⟨k, rfl, hk, hown, hbl⟩ := hrel
    have hwr := hbl.size
    by_cases h1 : k < xs.length
    · have d2 := d.below hbl nlr
      obtain ⟨q1, q2⟩ := d2.at h1
      have Hst := hid (full_take k h1)
      have hsl : (full (xs.take k)).length ≤ k := by
        rw [full_length]; have := occ_le (xs.take k); rw [List.length_take] at this; omega
      generalize full (xs.take k) = zs at *
      generalize cntA xs k = x at *
      generalize idA xs k = y at *
      obtain ⟨p, cap, rfl⟩ := hown.val
      have hba : Below wr.heap.size wr (wr.alloc (.cells #[.int .i64 y, .int .i64 x] 116)) := (Below.refl _ _).alloc nlr _
      have hown2 := hown.below hba nlr
      have hbl2 := hbl.trans (hba.mono hwr)
      by_cases h2 : 0 < x
      · as_aux_lemma =>
          go_wp2_with (at_builtin; refine appendN (wr := wr.alloc (.cells #[.int .i64 y, .int .i64 x] 116)) (b := y) (c := x) _ _ hown2 (by omega) (by simp; omega) rfl rfl rfl rfl (by simp [go_sem]) ?_; intro v3 w3 ho3 hg3 hnn)
          go_roundw
          case rel => exact ⟨k + 1, by go_num, by omega, by rw [Hst.out, if_pos h2]; exact ho3, hbl2.trans (below_grown hg3 (by simp; omega) hown2.lt)⟩
          case measure => simp [intOf]; omega
      · as_aux_lemma =>
          go_wp2_with fail
          go_roundw
          case rel => exact ⟨k + 1, by go_num, by omega, by rw [Hst.out, if_neg h2]; simpa using hown2, hbl2⟩
          case measure => simp [intOf]; omega
    · rw [List.take_of_length_le (by omega)] at hown
      have hfl : (full xs).length < 1048576 := by rw [full_length]; have := occ_le xs; omega
      go_wp2_with fail
      refine (o_sorted wr hown.rd hfl).mono ?_
      rintro e w1 ⟨v1, rfl, ho1, hb1⟩
      go_wp2_with fail
      go_ret
      exact ⟨_, rfl, ho1.mono hwr, hbl.trans (hb1.mono hwr)⟩
theorem OwnN.blk {w : World} {B : Nat} {v : Value} {xs : List Nd} (h : OwnN w B v xs) (h0 : 0 < xs.length) : ∃ g cap rest, v = .slice (some ⟨g, 0, none⟩) xs.length (xs.length + cap) ∧ B ≤ g ∧ Blk w g (ncells xs ++ rest).toArray 116 := by
  rcases h.2 with ⟨h1, h2⟩ | ⟨g, cap, cur, hv, hg, hh, h3, h4, h5, h6⟩
  · omega
  · refine ⟨g, cap - xs.length, cur.toList.drop (xs.length * 2), ?_, hg, ?_⟩
    · rw [hv]; congr 1; omega
    · have e : cur = (ncells xs ++ cur.toList.drop (xs.length * 2)).toArray := by
        apply Array.ext'
        rw [← h6]; simp
      show w.heap[g]? = _
      rw [hh]; congr 2
def PClonePost (l : Int) (b : Nat) (xs : List Nd) (w : World) (e : Ending) (w' : World) : Prop :=
  ∃ g h, e = .returned (.pointer (some ⟨g, 0, none⟩)) ∧ PnV w' g h l b xs ∧ w.heap.size ≤ g ∧ w.heap.size ≤ h ∧ Below w.heap.size w w'
theorem p_clone {w : World} {g h : Nat} {l : Int} {b : Nat} {xs : List Nd} (d : PnV w g h l b xs) (hcl : xs.length < 1048576) :
    Calls Tryz.prog 184 #[.pointer (some ⟨g, 0, none⟩)] w (PClonePost l b xs w) := by
  obtain ⟨d, v⟩ := d
  have h0 := v.tab.pos_len
  obtain ⟨u, eu⟩ : ∃ u : Int, (occ xs : Int) = u := ⟨_, rfl⟩
  obtain ⟨t, et⟩ : ∃ t : Int, sumL xs = t := ⟨_, rfl⟩
  rw [eu, et] at d
  have Eu := hid eu
  have Et := hid et
  have c0 := d.c0
  have c1 := d.c1
  have c2 := d.c2
  have c3 := d.c3
  obtain ⟨cap, c4, hr⟩ := d.rd
  have hlg := d.lg
  clear eu et
  go_enter Tryz.func184, Tryz.ntmps184
  go_wp2_with fail
  have hba : Below w.heap.size w (w.alloc (.cells #[.int .i64 l, .int .i64 b, .int .i64 u, .int .i64 t, .slice (some ⟨h, 0, none⟩) xs.length cap] 216)) := (Below.refl _ _).alloc nlr _
  refine (o_clone _ (hr.below hba nlr) hcl).mono ?_
  rintro e w1 ⟨v1, rfl, ho1, hb1⟩
  have X := (Blk.new w #[.int .i64 l, .int .i64 b, .int .i64 u, .int .i64 t, .slice (some ⟨h, 0, none⟩) xs.length cap] 216).below hb1 nlr
  have hs1 := hb1.size
  simp only [World.size_alloc] at hs1
  have hB : Below w.heap.size w w1 := hba.trans (hb1.mono (by simp))
  obtain ⟨h', cap', rest, rfl, hh', hblk⟩ := ho1.blk h0
  simp only [World.size_alloc] at hh'
  have f4 := X.free 4
  have x4 : w1.cell? ⟨w.heap.size, 4, none⟩ = some (.slice (some ⟨h, 0, none⟩) xs.length cap) := X.cell 4
  go_wp2_with fail
  go_ret
  refine ⟨w.heap.size, h', rfl, ⟨?_, v⟩, nlr, by omega, hB.trans ((Below.refl _ _).setCell (p := ⟨w.heap.size, 4, none⟩) nlr _)⟩
  rw [Eu.out, Et.out]
  have X2 := X.set 4 (.slice (some ⟨h', 0, none⟩) xs.length (xs.length + cap'))
  exact ⟨cap', rest, by simpa using X2, hblk.set_other _ _ (by omega), by omega⟩
end Go.Proofs.YtdnlejboijkcfaaGreatDoor
/- The probe's nodes are the document's (no program in sight): what a call does to a roll. -/
namespace Go.Proofs.YtdnlejboijkcfaaGreatDoor
set_option maxHeartbeats 8000000
set_option maxRecDepth 100000
open Go.RowKit
namespace Nl
theorem strict_ext {xs ys : List (Int × Int)} (hx : Strict xs) (hy : Strict ys) (h : ∀ z, z ∈ xs ↔ z ∈ ys) : xs = ys := by
  refine srt_one (hx.1.imp (fun q => Int.le_of_lt q)) (hy.1.imp (fun q => Int.le_of_lt q)) (fun k => ?_)
  have one : ∀ {zs : List (Int × Int)}, Strict zs → ∀ z ∈ zs, z.1 = k → atK k zs = [z] := by
    intro zs hz z hm hk
    induction zs with
    | nil => cases hm
    | cons a r ih =>
      rw [atK_cons]
      cases hm with
      | head => rw [if_pos hk, atK_nil (fun w hw => by have := hz.head w hw; omega)]
      | tail _ hm =>
        have := hz.head z hm
        rw [if_neg (by omega)]
        exact ih hz.tail hm
  by_cases hex : ∃ z ∈ xs, z.1 = k
  · obtain ⟨z, hm, hk⟩ := hex
    rw [one hx z hm hk, one hy z ((h z).1 hm) hk]
  · rw [atK_nil (fun z hz q => hex ⟨z, hz, q⟩), atK_nil (fun z hz q => hex ⟨z, (h z).2 hz, q⟩)]
theorem strict_at {zs : List (Int × Int)} (h : Strict zs) {id c : Int} (hm : (id, c) ∈ zs) : findL id zs = c := by
  induction zs with
  | nil => cases hm
  | cons a r ih =>
    rw [findL]
    cases hm with
    | head => rw [if_pos rfl]
    | tail _ hm =>
      have := h.head _ hm
      rw [if_neg (by simp only at this; omega)]
      exact ih h.tail hm
theorem strict_split {zs : List (Int × Int)} (h : Strict zs) (id : Int) : ∃ P Q, zs = P ++ ((if 0 < findL id zs then [(id, findL id zs)] else []) ++ Q) ∧ (∀ x ∈ P, x.1 < id) ∧ (∀ x ∈ Q, id < x.1) ∧ 0 ≤ findL id zs := by
  induction zs with
  | nil => exact ⟨[], [], by simp [findL], by simp, by simp, by simp [findL]⟩
  | cons a r ih =>
    have ha := h.2 a (by simp)
    by_cases h1 : a.1 = id
    · have e : findL id (a :: r) = a.2 := by rw [findL, if_pos h1]
      refine ⟨[], r, ?_, by simp, fun x hx => by have := h.head x hx; omega, by rw [e]; omega⟩
      rw [e, if_pos (by omega), ← h1]; rfl
    · have e : findL id (a :: r) = findL id r := by rw [findL, if_neg h1]
      obtain ⟨P, Q, e1, e2, e3, e4⟩ := ih h.tail
      rw [e]
      by_cases h2 : a.1 < id
      · refine ⟨a :: P, Q, by rw [List.cons_append, ← e1], fun x hx => ?_, e3, e4⟩
        cases hx with
        | head => exact h2
        | tail _ hx => exact e2 x hx
      · have hn : findL id r = 0 := findL_no (fun x hx => by have := h.head x hx; omega)
        refine ⟨[], a :: r, by rw [hn]; rfl, by simp, fun x hx => ?_, by omega⟩
        cases hx with
        | head => omega
        | tail _ hx => have := h.head x hx; omega
theorem strict_mid {P M Q : List (Int × Int)} {id c c' : Int} (h : Strict (P ++ (M ++ Q))) (hP : ∀ x ∈ P, x.1 < id) (hQ : ∀ x ∈ Q, id < x.1) (hi : 1 ≤ id) (hc : c = c') : Strict (P ++ ((if 0 < c then [(id, c')] else []) ++ Q)) := by
  subst hc
  have hp := List.pairwise_append.1 h.1
  have hq := List.pairwise_append.1 hp.2.1
  refine ⟨?_, fun x hx => ?_⟩
  · rw [List.pairwise_append, List.pairwise_append]
    refine ⟨hp.1, ⟨?_, hq.2.1, fun x hx y hy => ?_⟩, fun x hx y hy => ?_⟩
    · split
      · exact List.pairwise_singleton ..
      · exact List.Pairwise.nil
    · split at hx
      · simp at hx; subst hx; exact hQ y hy
      · cases hx
    · rw [List.mem_append] at hy
      rcases hy with hy | hy
      · split at hy
        · simp at hy; subst hy; exact hP x hx
        · cases hy
      · exact hp.2.2 x hx y (by simp [hy])
  · rw [List.mem_append, List.mem_append] at hx
    rcases hx with hx | hx | hx
    · exact h.2 x (by simp [hx])
    · split at hx
      · simp at hx; subst hx; exact ⟨hi, by assumption⟩
      · cases hx
    · exact h.2 x (by simp [hx])
theorem addS_spec {zs : List (Int × Int)} (h : Strict zs) {id c : Int} (hi : 1 ≤ id) (hc : 0 ≤ c) : Strict (addS zs id c) ∧ ∀ id' c', (id', c') ∈ addS zs id c ↔ ((id' ≠ id ∧ (id', c') ∈ zs) ∨ (id' = id ∧ c' = findL id zs + c ∧ 0 < c')) := by
  obtain ⟨P, Q, e1, e2, e3, e4⟩ := strict_split h id
  generalize findL id zs = v at *
  subst e1
  rw [addS_parts e2 e3 e4 hc]
  refine ⟨strict_mid h e2 e3 hi rfl, fun id' c' => ?_⟩
  simp only [List.mem_append]
  constructor
  · rintro (hx | hx | hx)
    · have := e2 _ hx; exact .inl ⟨by simp only at this; omega, .inl hx⟩
    · split at hx
      · simp at hx; exact .inr ⟨hx.1, hx.2, by omega⟩
      · cases hx
    · have := e3 _ hx; exact .inl ⟨by simp only at this; omega, .inr (.inr hx)⟩
  · rintro (⟨h1, hx | hx | hx⟩ | ⟨h1, h2, h3⟩)
    · exact .inl hx
    · split at hx
      · simp at hx; exact absurd hx.1 h1
      · cases hx
    · exact .inr (.inr hx)
    · right; left; rw [if_pos (by omega)]; simp [h1, h2]
theorem addS_sum {zs : List (Int × Int)} (h : Strict zs) {id c : Int} (hc : 0 ≤ c) : sumL (addS zs id c) = sumL zs + c := by
  obtain ⟨P, Q, e1, e2, e3, e4⟩ := strict_split h id
  generalize findL id zs = v at *
  subst e1
  rw [addS_parts e2 e3 e4 hc, sumL_append, sumL_append, sumL_append, sumL_append]
  have : sumL (if 0 < v + c then [(id, v + c)] else []) = v + c := by
    split
    · simp [sumL]
    · simp [sumL]; omega
  have : sumL (if 0 < v then [(id, v)] else []) = v := by
    split
    · simp [sumL]
    · simp [sumL]; omega
  omega
def snapP (xs : List (Int × Int)) : List (Int × Int) := sortL (full xs)
theorem srt_ne {zs : List (Int × Int)} (h : Srt zs) (hn : zs.Pairwise (fun x y => x.1 ≠ y.1)) : zs.Pairwise (fun x y => x.1 < y.1) := by
  induction zs with
  | nil => exact List.Pairwise.nil
  | cons a r ih =>
    rw [List.pairwise_cons] at *
    have h1 := List.pairwise_cons.1 h
    exact ⟨fun y hy => by have := h1.1 y hy; have := hn.1 y hy; omega, ih h1.2 hn.2⟩
theorem insL_perm (xs : List (Int × Int)) (y : Int × Int) : (insL xs y).Perm (y :: xs) := by
  unfold insL
  have h := List.perm_middle (a := y) (l₁ := xs.take (back xs y.1 xs.length)) (l₂ := xs.drop (back xs y.1 xs.length))
  rwa [List.take_append_drop] at h
theorem foldl_insL_perm (ys xs : List (Int × Int)) : (ys.foldl insL xs).Perm (ys ++ xs) := by
  induction ys generalizing xs with
  | nil => exact List.Perm.refl _
  | cons y r ih =>
    rw [List.foldl_cons]
    refine (ih _).trans ?_
    refine ((insL_perm xs y).append_left r).trans ?_
    exact List.perm_middle
theorem sortL_perm (xs : List (Int × Int)) : (sortL xs).Perm xs := by
  have := foldl_insL_perm xs []
  rwa [List.append_nil] at this
theorem snapP_strict {b : Nat} {xs : List (Int × Int)} (t : Tab b xs) : Strict (snapP xs) := by
  refine ⟨srt_ne (sortL_SS _).1 ?_, fun x hx => t.full_ok x ((sortL_mem _ _).1 hx)⟩
  exact (sortL_perm (full xs)).symm.pairwise t.full_pair (fun h => Ne.symm h)
theorem snapP_mem {xs : List (Int × Int)} {id c : Int} : (id, c) ∈ snapP xs ↔ Has xs id c := (sortL_mem _ _).trans full_mem
theorem snapP_length (xs : List (Int × Int)) : (snapP xs).length = occ xs := by unfold snapP; rw [sortL_length, full_length]
theorem snapP_sum {b : Nat} {xs : List (Int × Int)} (t : Tab b xs) : sumL (snapP xs) = sumL xs := by unfold snapP; rw [sortL_sum, full_sum t.pos]
theorem get_snapP {l : Int} {b : Nat} {xs : List (Int × Int)} (v : Pv l b xs) (id : Int) : pGet l b xs id = findL id (snapP xs) := by
  have hs := snapP_strict v.tab
  unfold pGet
  cases hr : rightB l id
  · refine (findL_no (fun x hx q => ?_)).symm
    obtain ⟨i, hi, h1, h2, h3⟩ := snapP_mem.1 (show (x.1, x.2) ∈ snapP xs from hx)
    have := v.ids i (by omega)
    rw [h1, q, hr] at this; cases this
  · simp only [if_true]
    obtain ⟨e, he, hst⟩ := v.empty
    obtain ⟨s1, s2, s3, s4⟩ := look_spec v.tab id he (hst id)
    by_cases hc : 0 < cntA xs (lookI xs b id)
    · have hid : idA xs (lookI xs b id) = id := by
        rcases stopB_iff.1 s2 with q | q
        · omega
        · exact q
      exact (strict_at hs (snapP_mem.2 ⟨_, s3, hid, rfl, hc⟩)).symm
    · have hz : cntA xs (lookI xs b id) = 0 := by have := v.tab.pos (lookI xs b id); omega
      rw [hz]
      refine (findL_no (fun x hx q => ?_)).symm
      obtain ⟨i, hi, h1, h2, h3⟩ := snapP_mem.1 (show (x.1, x.2) ∈ snapP xs from hx)
      exact look_none v.tab id (by omega) i hi (by omega) (by rw [h1, q])
theorem tot_snapP {l : Int} {b : Nat} {xs : List (Int × Int)} (v : Pv l b xs) : totV (snapP xs) = sumL xs := by
  rw [totV_sum (snapP_strict v.tab).pos (by rw [snapP_sum v.tab]; exact v.most), snapP_sum v.tab]
theorem add_snapP {l : Int} {b : Nat} {xs : List (Int × Int)} (v : Pv l b xs) (hb : b + 1 ≤ 62) (id c : Int) : stAdd l (snapP xs) id c = (snapP (pAdd l b xs id c).2, pAddCode l xs id c) := by
  unfold stAdd
  rw [tot_snapP v]
  unfold pAdd pAddCode
  by_cases h1 : rightB l id = false ∨ c < 0
  · rw [if_pos h1, if_pos h1, if_neg (by decide)]
  · rw [if_neg h1, if_neg h1]
    by_cases h2 : 72057594037927935 < sumL xs + c
    · rw [if_pos (show 72057594037927935 - sumL xs < c by omega), if_pos h2, if_neg (by decide)]
    · rw [if_neg (show ¬ 72057594037927935 - sumL xs < c by omega), if_neg h2, if_pos rfl]
      have hr : rightB l id = true := by
        cases h : rightB l id
        · exact absurd (.inl h) h1
        · rfl
      have hc : 0 ≤ c := by
        by_cases h : c < 0
        · exact absurd (.inr h) h1
        · omega
      have hi := right_pos hr
      have hs := snapP_strict v.tab
      rw [foldL_add hs hi hc (by rw [snapP_sum v.tab]; omega)]
      simp only [Option.getD_some, Prod.mk.injEq, and_true]
      obtain ⟨a1, a2⟩ := addS_spec hs hi hc
      obtain ⟨t1, t2, t3, t4, t5, t6⟩ := addT_spec v.tab hb v.half hi hc
      refine strict_ext a1 (snapP_strict t1) (fun ⟨id', c'⟩ => ?_)
      rw [a2, snapP_mem, snapP_mem, t6, ← get_snapP v]
      unfold pGet
      rw [hr]; rfl
theorem take_snapP {l : Int} {b : Nat} {xs : List (Int × Int)} (v : Pv l b xs) (id : Int) : stTake (snapP xs) id = (snapP (pTake l b xs id), pGet l b xs id) := by
  unfold stTake
  rw [get_snapP v]
  congr 1
  have hs := snapP_strict v.tab
  have hv := (v.take id).1
  refine strict_ext ⟨hs.1.filter _, fun x hx => hs.2 x (List.mem_filter.1 hx).1⟩ (snapP_strict hv.tab) (fun ⟨id', c'⟩ => ?_)
  rw [List.mem_filter, snapP_mem, snapP_mem]
  unfold pTake
  by_cases hg : pGet l b xs id = 0
  · rw [if_pos hg]
    refine ⟨fun h => h.1, fun h => ⟨h, ?_⟩⟩
    simp only [decide_eq_true_eq]
    intro q
    have hm := snapP_mem.2 h
    rw [q] at hm
    have := strict_at hs hm
    rw [← get_snapP v, hg] at this
    have := (hs.2 _ hm).2
    simp only at this; omega
  · rw [if_neg hg]
    have hr : rightB l id = true := by
      cases h3 : rightB l id
      · exact absurd (by unfold pGet; rw [h3]; rfl) hg
      · rfl
    have hgc : pGet l b xs id = cntA xs (lookI xs b id) := by unfold pGet; rw [hr]; rfl
    have hp := v.tab.pos (lookI xs b id)
    have h0 := v.tab.pos_len
    have hh := v.half
    obtain ⟨e, he, hce⟩ := has_empty (show occ xs < xs.length by omega)
    obtain ⟨t1, t2, t3, t4, t5⟩ := takeP_spec v.tab id he hce (by omega)
    rw [t5]
    simp only [decide_eq_true_eq]
def Lim (m : Nat) (xs : List (Int × Int)) : Prop := occ xs ≤ m ∧ xs.length ≤ 8 + 4 * m
theorem Lim.mono {m m' : Nat} {xs : List (Int × Int)} (h : Lim m xs) (hm : m ≤ m') : Lim m' xs := ⟨by have := h.1; omega, by have := h.2; omega⟩
theorem Lim.new : Lim 0 (List.replicate 8 ((0 : Int), (0 : Int))) := ⟨by rw [occ_zeros]; omega, by simp⟩
theorem Lim.bits {l : Int} {b m : Nat} {xs : List (Int × Int)} (h : Lim m xs) (v : Pv l b xs) (hm : m ≤ 100000) : b ≤ 18 ∧ xs.length ≤ 400008 := by
  have h1 := h.2
  have h2 := v.tab.len
  refine ⟨?_, by omega⟩
  refine Nat.le_of_not_lt fun q => ?_
  have h3 : (2 : Nat) ^ 19 ≤ 2 ^ b := Nat.pow_le_pow_right (by omega) (by omega)
  have h4 : (2 : Nat) ^ 19 = 524288 := rfl
  omega
theorem Lim.take {l : Int} {b m : Nat} {xs : List (Int × Int)} (h : Lim m xs) (v : Pv l b xs) (id : Int) : Lim m (pTake l b xs id) := by
  obtain ⟨t1, t2, t3⟩ := v.take id
  have h1 := h.1
  have h2 := h.2
  have e : (pTake l b xs id).length = xs.length := by rw [t1.tab.len, v.tab.len]
  refine ⟨?_, by omega⟩
  split at t2 <;> omega
end Nl
end Go.Proofs.YtdnlejboijkcfaaGreatDoor
