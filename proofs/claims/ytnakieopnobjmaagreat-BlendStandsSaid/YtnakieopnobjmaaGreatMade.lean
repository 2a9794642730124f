/- The walk of the reference's Above over nodes. -/
import Derived.Test.YtnakieopnobjmaaGreatEnds
namespace Go.Proofs.YtnakieopnobjmaaGreat
open Go.RowKit Nl

theorem Nl.above_le_sum {id : Int} {zs : List (Int × Int)} (hp : Pos zs) : 0 ≤ aboveV id zs ∧ aboveV id zs ≤ sumL zs := by
  rw [← gsum_sum]
  exact ⟨gsum_zero (fun x hx => by have := hp x hx; unfold aboveF; split <;> omega), gsum_le (fun x hx => by have := hp x hx; unfold aboveF; split <;> omega)⟩
def AbvRel (id : Int) (zs : List Nd) (n i : Value) : Prop := ∃ (k : Nat) (m : Int), i = .int .i64 k ∧ n = .int .i64 m ∧ k ≤ zs.length ∧ Hid (m + aboveV id (zs.drop k) = aboveV id zs)

set_option maxRecDepth 100000 in
set_option maxHeartbeats 1000000 in
theorem r_aboveV {w : World} {l : Int} {zs : List Nd} {v : Value} (id : Int) (hr : RdN w v zs) (hl : zs.length ≤ 90000) (hroll : Roll l zs) (bi : In64 id) :
    Calls Tryz.prog 34 #[v, .int .i64 id] w fun e w' => e = .returned (.int .i64 (aboveV id zs)) ∧ w = w' := by
  obtain ⟨p, cap, rfl⟩ := hr.val
  have hp := hid hroll.strict.pos
  have hsum := hroll.sum
  have hids : Hid (∀ x ∈ zs, In64 x.1) := fun x hx => by
    have h1 := hroll.ids x hx
    have l1 := hroll.l1
    have l2 := hroll.l2
    simp only [rightB, decide_eq_true_eq] at h1
    obtain ⟨n, rfl⟩ := Int.eq_ofNat_of_zero_le (show 0 ≤ l by omega)
    have := (pow48 (n := n) (by omega)).2
    simp only [Int.toNat_natCast] at h1
    exact ⟨by omega, by omega⟩
  have Ab := hid (fun (x : Int) (hx : In64 x) (W : World) => r_above x id W hx bi)
  obtain ⟨N, eN⟩ : ∃ N, zs.length = N := ⟨_, rfl⟩
  rw [eN] at hr ⊢
  have EN := hid eN
  have hN : N ≤ 90000 := by omega
  clear eN hl hroll
  go_enter Tryz.func34, Tryz.ntmps34
  go_wp2_with fail
  go_loop [5, 6] (fun n i => AbvRel id zs n i) (fun _ i => N - (intOf i).toNat)
  case atStart => exact ⟨0, 0, rfl, rfl, Nat.zero_le _, by show _ = _; simp⟩
  case round =>
    obtain ⟨k, m, rfl, rfl, hk, hm⟩ := hrel
    rw [EN.out] at hk
    have hd := above_le_sum (id := id) (drop_pos hp.out k)
    have hds := drop_sum hp.out k
    have hz := above_le_sum (id := id) hp.out
    have hmm := hm.out
    have hm0 : -72057594037927936 ≤ m ∧ m ≤ 72057594037927935 := by omega
    obtain ⟨m0, m1⟩ := hm0
    clear hd hds hz hmm
    by_cases h1 : k < N
    · have hkx : k < zs.length := by rw [EN.out]; exact h1
      obtain ⟨g, off, a, c, rfl, ex, hg, c1, c2⟩ := hr.at hkx
      have hxm := getD_mem (d := ((0, 0) : Nd)) zs k hkx
      rw [ex] at hxm
      have hcp := hp.out _ hxm
      have hle := Pos.le_sum hp.out _ hxm
      simp only at hcp hle
      have A1 := hid (Ab.out a (hids.out _ hxm) w)
      have hs : Hid (m + (aboveF id a c + aboveV id (zs.drop (k + 1))) = aboveV id zs) := by
        have := hm.out; rw [drop_at (d := ((0, 0) : Nd)) zs k hkx, ex] at this; exact this
      clear hxm hm ex hr
      by_cases hq : a = id
      · have hqb : (a != id) = false := by simp [hq]
        have hs2 : Hid (m + aboveV id (zs.drop (k + 1)) = aboveV id zs) := by
          show _ = _; have := hs.out; unfold aboveF at this; rw [if_neg (fun h => h.1 hq)] at this; omega
        clear hq hs
        go_wp2_with fail
        go_round
        case rel => exact ⟨k + 1, m, by go_num, rfl, by rw [EN.out]; omega, hs2⟩
        case measure => simp [intOf]; omega
      · have hqb : (a != id) = true := by simp [hq]
        obtain ⟨ab, eab⟩ : ∃ ab, aboveB a id = ab := ⟨_, rfl⟩
        rw [eab] at A1
        have EA := hid eab
        have HQ := hid hq
        clear eab hq
        cases ab
        · have hs2 : Hid (m + aboveV id (zs.drop (k + 1)) = aboveV id zs) := by
            show _ = _; have := hs.out; unfold aboveF at this; rw [if_neg (fun h => by have := h.2; rw [EA.out] at this; cases this)] at this; omega
          go_wp2_with fail
          refine A1.out.mono ?_
          rintro e w' ⟨rfl, rfl⟩
          go_wp2_with fail
          go_round
          case rel => exact ⟨k + 1, m, by go_num, rfl, by rw [EN.out]; omega, hs2⟩
          case measure => simp [intOf]; omega
        · have hs2 : Hid ((m + c) + aboveV id (zs.drop (k + 1)) = aboveV id zs) := by
            show _ = _; have := hs.out; unfold aboveF at this; rw [if_pos ⟨HQ.out, EA.out⟩] at this; omega
          go_wp2_with fail
          refine A1.out.mono ?_
          rintro e w' ⟨rfl, rfl⟩
          go_wp2_with fail
          go_round
          case rel => exact ⟨k + 1, m + c, by go_num, rfl, by rw [EN.out]; omega, hs2⟩
          case measure => simp [intOf]; omega
    · have hx : Hid (m = aboveV id zs) := by
        show _ = _; have := hm.out; rw [List.drop_eq_nil_of_le (by rw [EN.out]; omega)] at this; simpa [aboveV, gsum] using this
      go_wp2_with fail
      go_ret
      exact ⟨ret_int hx.out, rfl⟩
end Go.Proofs.YtnakieopnobjmaaGreat
