/- The walk of the probe's Add. -/
import Derived.Test.YtejoecoenehooaaProbe5
namespace Go.Proofs.Ytejoecoenehooaa
open Go.RowKit Nl

namespace Nl
def pAddCode (l : Int) (xs : List (Int × Int)) (id c : Int) : Int := if rightB l id = false ∨ c < 0 then 2 else if 72057594037927935 < sumL xs + c then 5 else 0
def pAdd (l : Int) (b : Nat) (xs : List (Int × Int)) (id c : Int) : Nat × List (Int × Int) := if pAddCode l xs id c = 0 then addT b xs id c else (b, xs)
theorem Pv.add {l : Int} {b : Nat} {xs : List (Int × Int)} (v : Pv l b xs) (hb : b + 1 ≤ 62) {id c : Int} (hr : rightB l id = true) (hc : 0 ≤ c) (hm : sumL xs + c ≤ 72057594037927935) : Pv l (addT b xs id c).1 (addT b xs id c).2 := by
  obtain ⟨a1, a2, a3, a4, a5, a6⟩ := addT_spec v.tab hb v.half (right_pos hr) hc
  refine ⟨v.l1, v.l2, a1, a2, by omega, fun i hi => ?_⟩
  have hlt : i < (addT b xs id c).2.length := by
    refine Nat.lt_of_not_le fun h => ?_
    have : cntA (addT b xs id c).2 i = 0 := by unfold cntA; simp [List.getD, List.getElem?_eq_none h]
    omega
  rcases (a6 _ _).1 ⟨i, hlt, rfl, rfl, hi⟩ with ⟨_, j, hj, g1, g2, g3⟩ | ⟨g1, _⟩
  · rw [← g1]; exact v.ids j (by omega)
  · rw [g1]; exact hr
theorem Pv.add' {l : Int} {b : Nat} {xs : List (Int × Int)} (v : Pv l b xs) (hb : b + 1 ≤ 62) (id c : Int) : Pv l (pAdd l b xs id c).1 (pAdd l b xs id c).2 := by
  unfold pAdd
  split
  · rename_i h
    unfold pAddCode at h
    split at h
    · omega
    · rename_i h1
      split at h
      · omega
      · have hr : rightB l id = true := by
          cases h3 : rightB l id
          · exact absurd (.inl h3) h1
          · rfl
        exact v.add hb hr (by by_cases hq : c < 0; exact absurd (.inr hq) h1; omega) (by omega)
  · exact v
theorem right_max {l id : Int} (h : rightB l id = true) : id ≤ 9223372036854775807 := by
  simp only [rightB, decide_eq_true_eq] at h
  obtain ⟨n, rfl⟩ := Int.eq_ofNat_of_zero_le (show 0 ≤ l by omega)
  have := (pow48 (n := n) (by omega)).2
  simp only [Int.toNat_natCast] at h
  omega
theorem Pv.idmax {l : Int} {b : Nat} {xs : List (Int × Int)} (v : Pv l b xs) (i : Nat) : idA xs i ≤ 9223372036854775807 := by
  by_cases h : 0 < cntA xs i
  · exact right_max (v.ids i h)
  · have := v.tab.zero i (by have := v.tab.pos i; omega); omega
end Nl

theorem Pn.used {w : World} {g h : Nat} {l u t : Int} {b : Nat} {xs : List Nd} (d : Pn w g h l b u t xs) (u' : Int) : Pn (w.setCell ⟨g, 2, none⟩ (.int .i64 u')) g h l b u' t xs := by
  obtain ⟨cap, rest, d1, d2, d3⟩ := d
  have h1 := d1.set 2 (.int .i64 u')
  exact ⟨cap, rest, by simpa using h1, d2.set_other _ _ (Ne.symm d3), d3⟩
theorem Pn.tot {w : World} {g h : Nat} {l u t : Int} {b : Nat} {xs : List Nd} (d : Pn w g h l b u t xs) (t' : Int) : Pn (w.setCell ⟨g, 3, none⟩ (.int .i64 t')) g h l b u t' xs := by
  obtain ⟨cap, rest, d1, d2, d3⟩ := d
  have h1 := d1.set 3 (.int .i64 t')
  exact ⟨cap, rest, by simpa using h1, d2.set_other _ _ (Ne.symm d3), d3⟩
theorem Pn.cnt {w : World} {g h : Nat} {l u t : Int} {b : Nat} {xs : List Nd} (d : Pn w g h l b u t xs) (k : Nat) (hk : k < xs.length) (c : Int) : Pn (w.setCell ⟨h, k * 2 + 1, none⟩ (.int .i64 c)) g h l b u t (xs.set k (idA xs k, c)) := by
  have e : (xs.set k (idA xs k, c)).length = xs.length := by simp
  obtain ⟨cap, rest, d1, d2, d3⟩ := d
  refine ⟨cap, rest, ?_, ?_, d3⟩
  · rw [e]; exact d1.set_other _ _ d3
  · have h2 := d2.set (k * 2 + 1) (.int .i64 c)
    have hl := ncells_length xs
    rw [set_rest (by omega)] at h2
    have e2 : (ncells xs).set (k * 2 + 1) (.int .i64 c) = ncells (xs.set k (idA xs k, c)) := (ncells_set xs k c).symm
    rwa [e2] at h2

def PAddPost (g h : Nat) (l : Int) (r : Nat × List Nd) (code : Int) (w : World) (e : Ending) (w' : World) : Prop :=
  e = .returned (.int .i64 code) ∧ ∃ h', PnV w' g h' l r.1 r.2 ∧ (h' = h ∨ w.heap.size ≤ h') ∧ Tch g h w w'

set_option maxRecDepth 100000 in
set_option maxHeartbeats 2000000 in
theorem p_add {w : World} {g h : Nat} {l : Int} {b : Nat} {xs : List Nd} (id c : Int) (d : PnV w g h l b xs) (hb : b + 1 ≤ 40) (hb1 : 1 ≤ b) (bi : -9223372036854775808 ≤ id ∧ id ≤ 9223372036854775807) (bc : -9223372036854775808 ≤ c ∧ c ≤ 9223372036854775807) :
    Calls Try.prog 129 #[.pointer (some ⟨g, 0, none⟩), .int .i64 id, .int .i64 c] w (PAddPost g h l (pAdd l b xs id c) (pAddCode l xs id c) w) := by
  obtain ⟨d, v⟩ := d
  have W := hid (v.add' (by omega) id c)
  have hl := And.intro v.l1 v.l2
  have ht0 := sumL_nonneg (pos_of_tab v.tab)
  have htm := v.most
  obtain ⟨r, er⟩ : ∃ r, rightB l id = r := ⟨_, rfl⟩
  have Er := hid er
  have same : ∀ W' : World, Tch g h w W' → Pn W' g h l b (occ xs) (sumL xs) xs → pAddCode l xs id c ≠ 0 → ∃ h', PnV W' g h' l (pAdd l b xs id c).1 (pAdd l b xs id c).2 ∧ (h' = h ∨ w.heap.size ≤ h') ∧ Tch g h w W' := fun W' tc dd q => by
    have e : pAdd l b xs id c = (b, xs) := by unfold pAdd; rw [if_neg q]
    rw [e]; exact ⟨h, ⟨dd, v⟩, .inl rfl, tc⟩
  have Same := hid same
  clear same
  cases r
  · have e : pAddCode l xs id c = 2 := by unfold pAddCode; rw [if_pos (.inl er)]
    have E := hid e
    clear er e
    go_enter Try.func129, Try.ntmps129
    go_wp2_with fail
    refine (p_right id d hl bi).mono ?_
    rintro e w' ⟨rfl, rfl⟩
    rw [Er.out]
    go_wp2_with fail
    go_ret
    exact ⟨ret_int E.out.symm, Same.out _ (Tch.refl _ _ _) d (by rw [E.out]; decide)⟩
  · by_cases h1 : c < 0
    · have e : pAddCode l xs id c = 2 := by unfold pAddCode; rw [if_pos (.inr h1)]
      have E := hid e
      clear er e
      go_enter Try.func129, Try.ntmps129
      go_wp2_with fail
      refine (p_right id d hl bi).mono ?_
      rintro e w' ⟨rfl, rfl⟩
      rw [Er.out]
      go_wp2_with fail
      go_ret
      exact ⟨ret_int E.out.symm, Same.out _ (Tch.refl _ _ _) d (by rw [E.out]; decide)⟩
    · have c3 : w.cell? ⟨g, 3, none⟩ = some (.int .i64 (sumL xs)) := d.c3
      obtain ⟨o, eo⟩ : ∃ o, addOk (sumL xs) c = o := ⟨_, rfl⟩
      have Eo := hid eo
      cases o
      · have hx : 72057594037927935 < sumL xs + c := by
          simp only [addOk, decide_eq_false_iff_not] at eo
          omega
        have e : pAddCode l xs id c = 5 := by unfold pAddCode; rw [if_neg (by rw [er]; simp; omega), if_pos hx]
        have E := hid e
        clear er e hx eo
        go_enter Try.func129, Try.ntmps129
        go_wp2_with fail
        refine (p_right id d hl bi).mono ?_
        rintro e w' ⟨rfl, rfl⟩
        rw [Er.out]
        go_wp2_with fail
        refine (add_any (sumL xs) c w (by omega) (by omega) bc.1 bc.2).mono ?_
        rintro e w' ⟨rfl, rfl⟩
        rw [Eo.out]
        go_wp2_with fail
        go_ret
        exact ⟨ret_int E.out.symm, Same.out _ (Tch.refl _ _ _) d (by rw [E.out]; decide)⟩
      · have ev : addV (sumL xs) c = sumL xs + c := by unfold addV; rw [eo]; rfl
        have Ev := hid ev
        by_cases h2 : 72057594037927935 < sumL xs + c
        · have e : pAddCode l xs id c = 5 := by unfold pAddCode; rw [if_neg (by rw [er]; simp; omega), if_pos h2]
          have E := hid e
          clear er e eo ev
          go_enter Try.func129, Try.ntmps129
          go_wp2_with fail
          refine (p_right id d hl bi).mono ?_
          rintro e w' ⟨rfl, rfl⟩
          rw [Er.out]
          go_wp2_with fail
          refine (add_any (sumL xs) c w (by omega) (by omega) bc.1 bc.2).mono ?_
          rintro e w' ⟨rfl, rfl⟩
          rw [Eo.out, Ev.out]
          go_wp2_with fail
          go_ret
          exact ⟨ret_int E.out.symm, Same.out _ (Tch.refl _ _ _) d (by rw [E.out]; decide)⟩
        · have e : pAddCode l xs id c = 0 := by unfold pAddCode; rw [if_neg (by rw [er]; simp; omega), if_neg h2]
          have E := hid e
          have e2 : pAdd l b xs id c = addT b xs id c := by unfold pAdd; rw [if_pos e]
          rw [e2] at W ⊢
          clear Same
          by_cases h3 : c = 0
          · have e3 : addT b xs id c = (b, xs) := by unfold addT; rw [if_pos h3]
            have E3 := hid e3
            have hc0 : (c == 0) = true := by simpa using h3
            clear er e eo ev e2 e3 h3
            go_enter Try.func129, Try.ntmps129
            go_wp2_with fail
            refine (p_right id d hl bi).mono ?_
            rintro e w' ⟨rfl, rfl⟩
            rw [Er.out]
            go_wp2_with fail
            refine (add_any (sumL xs) c w (by omega) (by omega) bc.1 bc.2).mono ?_
            rintro e w' ⟨rfl, rfl⟩
            rw [Eo.out, Ev.out]
            go_wp2_with fail
            go_ret
            exact ⟨ret_int E.out.symm, h, by rw [E3.out]; exact ⟨d, v⟩, .inl rfl, Tch.refl _ _ _⟩
          · have hc0 : (c == 0) = false := by simpa using h3
            obtain ⟨em, he, hs⟩ := v.empty
            have hi1 := right_pos er
            have L := hid (p_look id d v.tab hb1 (by omega) he (hs id) ⟨hi1, bi.2⟩)
            have hlk := look_spec v.tab id he (hs id)
            have hi := hlk.2.2.1
            have hst := hlk.2.1
            have hlen40 : xs.length ≤ 1099511627776 := by
              have h40 : 2 ^ b ≤ 2 ^ 40 := Nat.pow_le_pow_right (by omega) (by omega)
              have h41 : (2 : Nat) ^ 40 = 1099511627776 := rfl
              rw [v.tab.len]; omega
            have hol := occ_le xs
            have hcl := cnt_le v.tab (lookI xs b id)
            have hcp := v.tab.pos (lookI xs b id)
            have hT : Hid (addT b xs id c = if 0 < cntA xs (lookI xs b id) then (b, xs.set (lookI xs b id) (id, cntA xs (lookI xs b id) + c)) else if xs.length < 2 * (occ xs + 1) then (b + 1, (widenP b xs).set (lookI (widenP b xs) (b + 1) id) (id, c)) else (b, xs.set (lookI xs b id) (id, c))) := by
              show _ = _
              unfold addT; rw [if_neg h3]
            have hst2 : Hid (0 < cntA xs (lookI xs b id) → idA xs (lookI xs b id) = id) := fun q => by
              rcases stopB_iff.1 hst with p | p
              · omega
              · exact p
            have Cs := hid (fun x => occ_set xs (lookI xs b id) x hi)
            have Ss := hid (fun x => sumL_set xs (lookI xs b id) x hi)
            generalize ei : lookI xs b id = i at *
            have Ei := hid ei
            have H3 := hid h3
            clear er e eo ev e2 h3 hs hst hlk ei
            go_enter Try.func129, Try.ntmps129
            go_wp2_with fail
            refine (p_right id d hl bi).mono ?_
            rintro e w' ⟨rfl, rfl⟩
            rw [Er.out]
            go_wp2_with fail
            refine (add_any (sumL xs) c w (by omega) (by omega) bc.1 bc.2).mono ?_
            rintro e w' ⟨rfl, rfl⟩
            rw [Eo.out, Ev.out]
            go_wp2_with fail
            refine L.out.mono ?_
            rintro e w1 ⟨rfl, hb1'⟩
            have d1 := d.below hb1' (Nat.le_refl _)
            have T1 : Tch g h w w1 := Tch.of_below hb1'
            obtain ⟨u, eu⟩ : ∃ u : Int, (occ xs : Int) = u := ⟨_, rfl⟩
            obtain ⟨t, et⟩ : ∃ t : Int, sumL xs = t := ⟨_, rfl⟩
            rw [eu, et] at d1
            rw [et] at hcl ht0 htm h2 ⊢
            have hu1 : u ≤ xs.length := by omega
            have hu0 : 0 ≤ u := by omega
            have Eu := hid eu
            have Et := hid et
            have c1' : w1.cell? ⟨g, 2, none⟩ = some (.int .i64 u) := d1.c2
            obtain ⟨capc4, c4⟩ := d1.c4
            have c3' : w1.cell? ⟨g, 3, none⟩ = some (.int .i64 t) := d1.c3
            obtain ⟨q1, q2⟩ := d1.at hi
            have f2 := d1.fg 2
            have f3 := d1.fg 3
            have k0 := d1.fh (i * 2)
            have k1 := d1.fh (i * 2 + 1)
            have hgh := d1.ne
            generalize ey : idA xs i = y at *
            generalize ex : cntA xs i = x at *
            have Ey := hid ey
            have Ex := hid ex
            clear c3 eu et ey ex L
            by_cases h4 : x = 0
            · have hx : (x == 0) = true := by simpa using h4
              have H4 := hid h4
              clear h4
              have d2 := d1.used (u + 1)
              have T2 := T1.trans (Tch.set1 (g := g) (h := h) w1 2 (.int .i64 (u + 1)))
              by_cases h5 : (xs.length : Int) < 2 * (u + 1)
              · have Wd := hid (fun W' q => p_widen (w := W') q v.tab hb1 hb v.idmax (g := g) (h := h) (l := l) (u := u + 1) (t := t))
                obtain ⟨w1', w2', w3', w4', w5'⟩ := widen_spec v.tab (show b + 1 ≤ 62 by omega)
                have hwl : (widenP b xs).length ≤ 2199023255552 := by omega
                have h0l := v.tab.pos_len
                obtain ⟨e2, he2, hce2⟩ := has_empty (show occ (widenP b xs) < (widenP b xs).length by have := v.half; omega)
                have hs2 := stopB_iff (xs := widenP b xs) (id := id) (i := e2) |>.2 (.inl hce2)
                have hlk2 := look_spec w1' id he2 hs2
                have hi2 := hlk2.2.2.1
                have Lk := hid (fun W' h' q => p_look (w := W') id q w1' (by omega) hb he2 hs2 ⟨hi1, bi.2⟩ (g := g) (h := h') (l := l) (u := u + 1) (t := t))
                have HZ : Hid (cntA (widenP b xs) (lookI (widenP b xs) (b + 1) id) = 0) := by
                  have hno := look_none v.tab id (by rw [Ei.out, Ex.out, H4.out]; decide)
                  exact (new_spec w1' hi1 (show 0 < c by have := H3.out; omega) (by have := v.half; omega) (fun j hj hcj q => by
                    obtain ⟨j', hj', g1, g2, g3⟩ := (w5' id _).1 ⟨j, hj, q, rfl, hcj⟩
                    exact hno j' hj' (by omega) g1)).2.1
                have Nw := hid (fun q => new_spec w1' hi1 (show 0 < c by have := H3.out; omega) (by have := v.half; omega) q)
                have W2 := hid w2'
                have W3 := hid w3'
                have W4 := hid w4'
                have C2 := hid (fun x => occ_set (widenP b xs) (lookI (widenP b xs) (b + 1) id) x hi2)
                have S2 := hid (fun x => sumL_set (widenP b xs) (lookI (widenP b xs) (b + 1) id) x hi2)
                generalize ej : lookI (widenP b xs) (b + 1) id = j at *
                generalize ez : widenP b xs = zs at *
                have Ez := hid ez
                have Ej := hid ej
                clear w1' w2' w3' w4' w5' hce2 hs2 hlk2 ez ej he2
                as_aux_lemma =>
                  go_wp2_with fail
                  go_quiet (fail)
                  go_wp2_with fail
                  refine (Wd.out _ (d2.drewN nq)).mono ?_
                  rintro e w3 ⟨rfl, h', d3, hh', T3⟩
                  rw [Ez.out] at d3
                  go_wp2_with fail
                  refine (Lk.out _ h' d3).mono ?_
                  rintro e w4 ⟨rfl, hb4⟩
                  have d4 := d3.below hb4 (Nat.le_refl _)
                  have T4 : Tch g h w w4 := (((T2.drewN nq).trans ⟨T3.os, T3.tape, T3.output, T3.size, fun k hk e1 _ => T3.block k hk e1 e1⟩).below' hb4)
                  obtain ⟨capc4', c4'⟩ := d4.c4
                  have c3'' : w4.cell? ⟨g, 3, none⟩ = some (.int .i64 t) := d4.c3
                  obtain ⟨q1', q2'⟩ := d4.at hi2
                  rw [HZ.out] at q2'
                  have f3' := d4.fg 3
                  have k0' := d4.fh (j * 2)
                  have k1' := d4.fh (j * 2 + 1)
                  have hgh' := d4.ne
                  clear c1' c4 c3' q1 q2 f2 f3 k0 k1
                  as_aux_lemma =>
                    go_wp2_with fail
                    go_ret
                    have d5 := (d4.store j hi2 id c).tot (t + c)
                    have hw1 := T1.size
                    have hh2 : (w1.setCell ⟨g, 2, none⟩ (.int .i64 (u + 1))).heap.size ≤ h' := hh'
                    simp only [World.size_setCell] at hh2
                    have hnp : ¬ 0 < x := by have := H4.out; omega
                    have hlt : xs.length < 2 * (occ xs + 1) := by have := Eu.out; omega
                    have w3 := W.out
                    rw [hT.out, if_neg hnp, if_pos hlt] at w3
                    have q1 := C2.out (id, c)
                    have q2 := S2.out (id, c)
                    rw [HZ.out, W2.out] at q1
                    rw [HZ.out, W3.out] at q2
                    rw [if_neg (by decide), if_pos (show 0 < (id, c).2 by show 0 < c; have := H3.out; omega)] at q1
                    have q3 : (occ (zs.set j (id, c)) : Int) = u + 1 := by rw [← Eu.out]; omega
                    have q4 : sumL (zs.set j (id, c)) = t + c := by rw [← Et.out]; simp only at q2; omega
                    refine ⟨ret_int E.out.symm, h', ?_, .inr (by omega), ((T4.setNew (by omega) _).setNew (by omega) _).trans (Tch.set1 _ _ _)⟩
                    rw [hT.out, if_neg hnp, if_pos hlt]
                    exact ⟨by show Pn _ _ _ _ _ _ _ _; rw [q3, q4]; exact d5, w3⟩
              · as_aux_lemma =>
                  go_wp2_with fail
                  go_quiet (fail)
                  go_wp2_with fail
                  go_ret
                  have d5 := ((d2.drewN nq).store i hi id (x + c)).tot (t + c)
                  have hnp : ¬ 0 < x := by have := H4.out; omega
                  have hlt : ¬ xs.length < 2 * (occ xs + 1) := by have := Eu.out; omega
                  have hxc : x + c = c := by have := H4.out; omega
                  have w3 := W.out
                  rw [hT.out, if_neg hnp, if_neg hlt] at w3
                  have q1 := Cs.out (id, c)
                  have q2 := Ss.out (id, c)
                  rw [if_neg hnp, if_pos (show 0 < (id, c).2 by show 0 < c; have := H3.out; omega)] at q1
                  have q3 : (occ (xs.set i (id, c)) : Int) = u + 1 := by rw [← Eu.out]; omega
                  have q4 : sumL (xs.set i (id, c)) = t + c := by rw [← Et.out]; have := H4.out; simp only at q2; omega
                  refine ⟨ret_int E.out.symm, h, ?_, .inl rfl, (((T2.drewN nq).trans (Tch.set2 _ _ _)).trans (Tch.set2 _ _ _)).trans (Tch.set1 _ _ _)⟩
                  rw [hT.out, if_neg hnp, if_neg hlt]
                  refine ⟨?_, w3⟩
                  show Pn _ _ _ _ _ _ _ _
                  rw [q3, q4]
                  rw [hxc] at d5 ⊢
                  exact d5
            · have hx : (x == 0) = false := by simpa using h4
              have hxp : 0 < x := by omega
              clear h4
              as_aux_lemma =>
                go_wp2_with fail
                go_ret
                have d2 := (d1.cnt i hi (x + c)).tot (t + c)
                rw [Ey.out, hst2.out hxp] at d2
                have w3 := W.out
                rw [hT.out, if_pos hxp] at w3
                refine ⟨ret_int E.out.symm, h, ?_, .inl rfl, (T1.trans (Tch.set2 _ _ _)).trans (Tch.set1 _ _ _)⟩
                rw [hT.out, if_pos hxp]
                have q1 := Cs.out (id, x + c)
                have q2 := Ss.out (id, x + c)
                rw [if_pos hxp, if_pos (show 0 < (id, x + c).2 by show 0 < x + c; omega)] at q1
                have q3 : (occ (xs.set i (id, x + c)) : Int) = u := by rw [← Eu.out]; omega
                have q4 : sumL (xs.set i (id, x + c)) = t + c := by rw [← Et.out]; simp only at q2; omega
                exact ⟨by show Pn _ _ _ _ _ _ _ _; rw [q3, q4]; exact d2, w3⟩
end Go.Proofs.Ytejoecoenehooaa
