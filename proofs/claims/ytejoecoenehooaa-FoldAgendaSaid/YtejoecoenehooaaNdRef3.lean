/- The walk of the reference's layer 6: Fold. -/
import Derived.Test.YtejoecoenehooaaNdRef2
namespace Go.Proofs.Ytejoecoenehooaa
open Go.RowKit Nl

/-- The folded list, or that there is none. -/
def FoldPost (xs : List Nd) (w : World) (e : Ending) (w' : World) : Prop :=
  (∃ v zs, foldL xs = some zs ∧ e = .returned (.tuple #[v, .bool true]) ∧ OwnN w' w.heap.size v zs ∧ Below w.heap.size w w') ∨
  (foldL xs = none ∧ e = .returned (.tuple #[.slice none 0 0, .bool false]) ∧ Below w.heap.size w w')

def FoldRel (w1 : World) (ss : List Nd) (out i : Value) (wr : World) : Prop :=
  ∃ (k : Nat) (zs : List Nd), i = .int .i64 k ∧ k ≤ ss.length ∧ zs.length ≤ k ∧ OwnN wr w1.heap.size out zs ∧ Hid (pass [] ss = pass zs (ss.drop k)) ∧ Hid (Pos zs ∧ sumL zs + sumL (ss.drop k) ≤ 72057594037927935) ∧ Below w1.heap.size w1 wr

set_option maxRecDepth 100000 in
set_option maxHeartbeats 2000000 in
theorem r_fold {v : Value} {xs : List Nd} (w : World) (hr : RdN w v xs) (hl : xs.length < 1048576) :
    Calls Try.prog 123 #[v] w (FoldPost xs w) := by
  obtain ⟨t, et⟩ : ∃ t, totOk xs = t := ⟨_, rfl⟩
  cases t
  · have hf : foldL xs = none := by unfold foldL; rw [et]; rfl
    have Hf := hid hf
    have Et := hid et
    clear hf et
    go_enter Try.func123, Try.ntmps123
    go_wp2_with fail
    refine (r_total w hr (by omega)).mono ?_
    rintro e w' ⟨rfl, rfl⟩
    rw [Et.out]
    go_wp2_with fail
    go_ret2
    exact .inr ⟨Hf.out, rfl, Below.refl _ _⟩
  · obtain ⟨m, hm⟩ := Option.isSome_iff_exists.1 et
    obtain ⟨hs1, hpos⟩ := totF_sum hm
    have hmb := (totF_bd (by omega) hm).2
    obtain ⟨ss, es⟩ : ∃ ss, sortL xs = ss := ⟨_, rfl⟩
    have hf : foldL xs = pass [] ss := by unfold foldL; rw [et, es]; rfl
    have hsp : Pos ss := by rw [← es]; exact sortL_pos hpos
    have hss : sumL ss ≤ 72057594037927935 := by rw [← es, sortL_sum]; omega
    have hsl : ss.length < 1048576 := by rw [← es, sortL_length]; exact hl
    have Hf := hid hf
    have Et := hid et
    have Es := hid es
    have Hss := hid hss
    clear hf et es hss hm hs1 hmb hpos
    go_enter Try.func123, Try.ntmps123
    go_wp2_with fail
    refine (r_total w hr (by omega)).mono ?_
    rintro e w' ⟨rfl, rfl⟩
    rw [Et.out]
    go_wp2_with fail
    refine (r_sorted w hr hl).mono ?_
    rintro e w1 ⟨v1, rfl, ho1, hb1⟩
    rw [Es.out] at ho1
    have hw1 := hb1.size
    have hr1 := ho1.rd
    obtain ⟨p1, cap1, rfl⟩ := hr1.val
    clear hr
    go_wp2_with fail
    go_loopw [7, 8] (fun out i wr => FoldRel w1 ss out i wr) (fun _ i _ => ss.length - (intOf i).toNat)
    case atStart => exact ⟨0, [], rfl, by omega, by simp, OwnN.nil _ _, rfl, ⟨(fun x hx => by cases hx), by have := Hss.out; simp [sumL]; exact this⟩, Below.refl _ _⟩
    case round =>
      obtain ⟨k, zs, rfl, hk, hzl, hown, hp, hsum, hbl⟩ := hrel
      have hwr := hbl.size
      by_cases h1 : k < ss.length
      · have hr2 := hr1.below hbl (Nat.le_refl _)
        obtain ⟨g, off, a, c, rfl, ex, hg, c1, c2⟩ := hr2.at h1
        have hc0 : 0 ≤ c := by
          have := hsp _ (getD_mem (d := ((0, 0) : Nd)) ss k h1); rw [ex] at this; exact this
        have hp' : Hid (pass [] ss = if a < 1 then none else pass (mstep zs (a, c)) (ss.drop (k + 1))) := by
          have := hp.out; rw [drop_at (d := ((0, 0) : Nd)) ss k h1, ex] at this; exact this
        have hsum' : Hid (sumL zs + c + sumL (ss.drop (k + 1)) ≤ 72057594037927935) := by
          have := hsum.out.2; rw [drop_at (d := ((0, 0) : Nd)) ss k h1, ex] at this; simp only [sumL] at this; show _ ≤ _; omega
        have hrest : Hid (0 ≤ sumL (ss.drop (k + 1))) := sumL_nonneg (fun x hx => hsp x (List.mem_of_mem_drop hx))
        have hzp := hid hsum.out.1
        have hgb : g < w1.heap.size := by
          rcases ho1.shape with ⟨h, _⟩ | ⟨g', cap', h, _, h', _⟩
          · simp at h
          · simp only [Value.slice.injEq, Option.some.injEq, Addr.mk.injEq] at h; omega
        clear hp hsum ex hr2
        by_cases h2 : a < 1
        · go_wp2_with fail
          go_ret2
          refine .inr ⟨?_, rfl, hb1.trans (hbl.mono (by omega))⟩
          rw [Hf.out, hp'.out, if_pos h2]
        · by_cases h3 : c = 0
          · have h4 : (c == 0) = true := by simpa using h3
            have H3 := hid h3
            clear h3
            have hms : mstep zs (a, c) = zs := by unfold mstep; rw [if_pos H3.out]
            have Hms := hid hms
            clear hms
            go_wp2_with fail
            go_roundw
            case rel =>
              refine ⟨k + 1, zs, by go_num, by omega, by omega, hown, ?_, ⟨hzp.out, by have := hsum'.out; omega⟩, hbl⟩
              show _ = _
              rw [hp'.out, if_neg (by omega), Hms.out]
            case measure => simp [intOf]; omega
          · have h4 : (c == 0) = false := by simpa using h3
            have H3 := hid h3
            clear h3
            by_cases hz : 0 < zs.length
            · rcases hown.shape with ⟨_, h⟩ | ⟨h, cap2, rfl, hB, hlt, hcap, hcz⟩
              · subst h; simp at hz
              have hcz' := hcz (zs.length - 1) (by omega)
              obtain ⟨⟨b, d⟩, ez⟩ : ∃ x, zs.getD (zs.length - 1) (0, 0) = x := ⟨_, rfl⟩
              rw [ez] at hcz'
              obtain ⟨c3, c4⟩ := hcz'
              have hd0 : 0 ≤ d := by have := hzp.out _ (getD_mem (d := ((0, 0) : Nd)) zs (zs.length - 1) (by omega)); rw [ez] at this; exact this
              have hds : d + c ≤ 72057594037927935 := by
                have := hzp.out.le_sum _ (getD_mem (d := ((0, 0) : Nd)) zs (zs.length - 1) (by omega))
                rw [ez] at this
                have := hsum'.out; have := hrest.out; omega
              have Ez := hid ez
              clear hcz ez
              by_cases hba : b = a
              · have h5 : (b == a) = true := by simpa using hba
                have hms : mstep zs (a, c) = zs.set (zs.length - 1) ((zs.getD (zs.length - 1) (0, 0)).1, d + c) := by
                  unfold mstep
                  rw [if_neg H3.out, if_pos ⟨hz, by rw [Ez.out]; exact hba⟩, Ez.out]
                  conv => rhs; rw [last_split hz]
                  simp
                have Hms := hid hms
                have Hba := hid hba
                have hfz : wr.frozen? ⟨h, (zs.length - 1) * 2 + 1, none⟩ = false := World.ownsRow.frozenAt hown _
                clear hms hba
                go_wp2_with fail
                go_quiet (fail)
                go_wp2_with fail
                go_region
                go_wp2_with fail
                go_roundw
                case rel =>
                  refine ⟨k + 1, zs.set (zs.length - 1) ((zs.getD (zs.length - 1) (0, 0)).1, d + c), by go_num, by omega, by simp; omega, ?_, ?_, ?_, ?_⟩
                  · exact (hown.drewN (nq + 1)).store (zs.length - 1) (d + c)
                  · show _ = _
                    rw [hp'.out, if_neg (by omega), Hms.out]
                  · have h := mstep_sum zs (a, c)
                    have h5 := mstep_pos hzp.out (x := (a, c)) hc0
                    rw [Hms.out] at h h5
                    exact ⟨h5, by have := hsum'.out; omega⟩
                  · exact (below_drewN hbl (nq + 1)).setCell hB _
                case measure => simp [intOf]; omega
              · have h5 : (b == a) = false := by simpa using hba
                have hms : mstep zs (a, c) = zs ++ [(a, c)] := by
                  unfold mstep
                  rw [if_neg H3.out, if_neg (fun h => hba (by have := h.2; rw [Ez.out] at this; exact this))]
                have Hms := hid hms
                clear hms hba
                go_wp2_with fail
                go_quiet (fail)
                go_wp2_with (at_builtin; refine appendN (wr := wr.drewN nq) (b := a) (c := c) _ _ (hown.drewN nq) (by omega) (by simp; omega) rfl rfl rfl rfl rfl ?_; intro v' w3 ho3 hg3 hnn)
                go_roundw
                case rel =>
                  refine ⟨k + 1, _, by go_num, by omega, ?_, ho3, ?_, ?_, (below_drewN hbl _).trans (below_grown hg3 (by simp; omega) hown.lt)⟩
                  · simp <;> omega
                  · show _ = _
                    rw [hp'.out, if_neg (by omega), Hms.out]
                  · have h := mstep_sum zs (a, c)
                    have h5 := mstep_pos hzp.out (x := (a, c)) hc0
                    rw [Hms.out] at h h5
                    exact ⟨h5, by have := hsum'.out; omega⟩
                case measure => simp [intOf]; omega
            · obtain rfl : zs = [] := List.eq_nil_of_length_eq_zero (by omega)
              have h5 : decide ((0 : Int) < (([] : List Nd).length : Int)) = false := by simp
              have hms : mstep [] (a, c) = [] ++ [(a, c)] := by
                unfold mstep
                rw [if_neg H3.out, if_neg (by simp)]
              have Hms := hid hms
              clear hms
              obtain ⟨p2, cap2, rfl⟩ := hown.val
              go_wp2_with fail
              go_quiet (fail)
              go_wp2_with (at_builtin; refine appendN (wr := wr.drewN nq) (b := a) (c := c) _ _ (hown.drewN nq) (by omega) (by simp; omega) rfl rfl rfl rfl rfl ?_; intro v' w3 ho3 hg3 hnn)
              go_roundw
              case rel =>
                refine ⟨k + 1, _, by go_num, by omega, ?_, ho3, ?_, ?_, (below_drewN hbl _).trans (below_grown hg3 (by simp; omega) hown.lt)⟩
                · simp <;> omega
                · show _ = _
                  rw [hp'.out, if_neg (by omega), Hms.out]
                · have h := mstep_sum [] (a, c)
                  have h5 := mstep_pos (out := []) hzp.out (x := (a, c)) hc0
                  rw [Hms.out] at h h5
                  exact ⟨h5, by have := hsum'.out; omega⟩
              case measure => simp [intOf]; omega
      · go_wp2_with fail
        go_ret2
        refine .inl ⟨_, zs, ?_, rfl, hown.mono hw1, hb1.trans (hbl.mono (by omega))⟩
        rw [Hf.out, hp.out, List.drop_eq_nil_of_le (by omega)]; rfl
end Go.Proofs.Ytejoecoenehooaa
