/- The walk of PoolLoads. -/
import Derived.Test.YtipnnogafanemaaPool8
namespace Go.Proofs.Ytipnnogafanemaa
open Go.RowKit Nl

set_option maxRecDepth 100000 in
set_option maxHeartbeats 4000000 in
theorem PoolLoads_walk (kind l : Int) (v : Value) (xs : List Nd) (w : World) (hk0 : -9223372036854775808 ≤ kind) (hk1 : kind ≤ 9223372036854775807) (hl : -9223372036854775808 ≤ l) (hl1 : l ≤ 9223372036854775807) (ho : RdA w v xs) :
    Calls Try.prog 9 #[.int .i64 kind, .int .i64 l, v] w fun e w' => e = .returned (.bool true) ∧ Below w.heap.size w w' := by
  obtain ⟨hr, hn, hlen⟩ := ho
  have A := hid (p9_alive w)
  obtain ⟨p, cap, rfl⟩ := hr.val
  by_cases h1 : 100 < xs.length
  · go_enter Try.func9, Try.ntmps9
    go_wp2_with fail
    refine A.out.mono ?_
    rintro e w' ⟨rfl, hb⟩
    go_wp2_with fail
    go_ret
    exact ⟨rfl, hb⟩
  by_cases h2 : kind = 1 ∧ 10 < l ∧ 10 < xs.length
  · obtain ⟨rfl, h2, h3⟩ := h2
    go_enter Try.func9, Try.ntmps9
    go_wp2_with fail
    refine A.out.mono ?_
    rintro e w' ⟨rfl, hb⟩
    go_wp2_with fail
    go_ret
    exact ⟨rfl, hb⟩
  have hcase : ((kind == 1) = false ∧ True ∧ True) ∨ ((kind == 1) = true ∧ l ≤ 10 ∧ True) ∨ ((kind == 1) = true ∧ 10 < l ∧ xs.length ≤ 10) := by
    by_cases e : kind = 1
    · subst e
      have : l ≤ 10 ∨ (10 < l ∧ xs.length ≤ 10) := by omega
      rcases this with e | e
      · exact .inr (.inl ⟨rfl, e, trivial⟩)
      · exact .inr (.inr ⟨rfl, e⟩)
    · exact .inl ⟨by simpa using e, trivial, trivial⟩
  obtain ⟨P, eP⟩ : ∃ P, poolIs kind l = P := ⟨_, rfl⟩
  have Is := hid (fun W => r_poolIs kind l W)
  rw [eP] at Is
  obtain ⟨R, eR⟩ : ∃ R, rollB l xs = R := ⟨_, rfl⟩
  have Rt := hid (fun W q => r_rightN (v := .slice p xs.length cap) l W q hn (by omega) ⟨hl, hl1⟩)
  rw [eR] at Rt
  cases P
  · have N := hid (pl_load_no kind l w (.inl eP) hr hn hlen ⟨hl, hl1⟩)
    rw [if_pos eP] at N
    clear h2 eP eR
    rcases hcase with ⟨e1, e2, e3⟩ | ⟨e1, e2, e3⟩ | ⟨e1, e2, e3⟩
    all_goals
      go_enter Try.func9, Try.ntmps9
      go_wp2_with fail
      refine N.out.mono ?_
      rintro e w1 ⟨rfl, hb1⟩
      go_wp2_with fail
      refine (Is.out w1).mono ?_
      rintro e w2 ⟨rfl, rfl⟩
      go_wp2_with fail
      refine (p9_alive w1).mono ?_
      rintro e w' ⟨rfl, hb⟩
      go_wp2_with fail
      go_ret
      exact ⟨rfl, hb1.trans (hb.mono hb1.size)⟩
  cases R
  · have N := hid (pl_load_no kind l w (.inr eR) hr hn hlen ⟨hl, hl1⟩)
    rw [if_neg (by rw [eP]; decide)] at N
    clear h2 eP eR
    rcases hcase with ⟨e1, e2, e3⟩ | ⟨e1, e2, e3⟩ | ⟨e1, e2, e3⟩
    all_goals
      go_enter Try.func9, Try.ntmps9
      go_wp2_with fail
      refine N.out.mono ?_
      rintro e w1 ⟨rfl, hb1⟩
      go_wp2_with fail
      refine (Is.out w1).mono ?_
      rintro e w2 ⟨rfl, rfl⟩
      go_wp2_with fail
      refine (Rt.out w1 (hr.below hb1 (Nat.le_refl _))).mono ?_
      rintro e w2 ⟨rfl, hb2⟩
      have hs1 := hb1.size
      have hs2 := hb2.size
      go_wp2_with fail
      refine (p9_alive w2).mono ?_
      rintro e w' ⟨rfl, hb⟩
      go_wp2_with fail
      go_ret
      exact ⟨rfl, (hb1.trans (hb2.mono hs1)).trans (hb.mono (by omega))⟩
  have N := hid (pl_load kind l w eP eR hr hn (by omega))
  clear h2 eP eR
  rcases hcase with ⟨e1, e2, e3⟩ | ⟨e1, e2, e3⟩ | ⟨e1, e2, e3⟩
  all_goals
    go_enter Try.func9, Try.ntmps9
    go_wp2_with fail
    refine N.out.mono ?_
    rintro e w1 ⟨q, g, h, rfl, d, hq, hg, hh, hb1⟩
    have hr1 := hr.below hb1 (Nat.le_refl _)
    go_wp2_with fail
    refine (Is.out w1).mono ?_
    rintro e w2 ⟨rfl, rfl⟩
    go_wp2_with fail
    refine (Rt.out w1 hr1).mono ?_
    rintro e w2 ⟨rfl, hb2⟩
    have hs1 := hb1.size
    have hs2 := hb2.size
    have d2 := d.below hb2 (Nat.le_refl _)
    have hr2 := hr1.below hb2 (Nat.le_refl _)
    go_wp2_with fail
    refine (p9_like d2 (by omega) hr2).mono ?_
    rintro e w3 ⟨rfl, hb3⟩
    have hs3 := hb3.size
    go_wp2_with fail
    refine (p9_alive w3).mono ?_
    rintro e w' ⟨rfl, hb⟩
    go_wp2_with fail
    go_ret
    exact ⟨rfl, ((hb1.trans (hb2.mono hs1)).trans (hb3.mono (by omega))).trans (hb.mono (by omega))⟩
end Go.Proofs.Ytipnnogafanemaa
