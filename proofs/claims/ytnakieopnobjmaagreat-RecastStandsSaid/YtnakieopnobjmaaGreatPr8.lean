/- Above and Below. -/
import Derived.Test.YtnakieopnobjmaaGreatPressMath3
import Derived.Test.YtnakieopnobjmaaGreatFold8
namespace Go.Proofs.YtnakieopnobjmaaGreat
open Go.RowKit Nl

namespace Nl
/-- Halved as long as it is greater than a. -/
def hop (a b : Int) : Int := if _h : 1 ≤ a ∧ a < b then hop a (b / 2) else b
termination_by b.toNat
decreasing_by omega
theorem hop_big {a b : Int} (h1 : 1 ≤ a) (h2 : a < b) : hop a b = hop a (b / 2) := by rw [hop]; rw [dif_pos ⟨h1, h2⟩]
theorem hop_low {a b : Int} (h2 : ¬ a < b) : hop a b = b := by rw [hop]; rw [dif_neg (fun h => h2 h.2)]
def aboveB (a b : Int) : Bool := decide (1 ≤ a) && a == hop a b
def belowF (id i c : Int) : Int := if aboveB id i then c else 0
def belowV (id : Int) (zs : List (Int × Int)) : Int := gsum (belowF id) zs
theorem above_kid {a p q : Int} (h : aboveB a p = true) (hq : q / 2 = p) (hp : 1 ≤ p) : aboveB a q = true := by
  simp only [aboveB, Bool.and_eq_true, decide_eq_true_eq, beq_iff_eq] at h ⊢
  obtain ⟨h1, h2⟩ := h
  have hle : a ≤ p := by
    by_cases hc : a < p
    · omega
    · rw [hop_low hc] at h2; omega
  refine ⟨h1, ?_⟩
  rw [hop_big h1 (by omega), hq]; exact h2
theorem above_root (n : Nat) : ∀ b : Int, 1 ≤ b → b.toNat ≤ n → aboveB 1 b = true := by
  induction n with
  | zero => intro b h1 h2; omega
  | succ n ih =>
    intro b h1 h2
    by_cases h : 1 < b
    · exact above_kid (ih (b / 2) (by omega) (by omega)) rfl (by omega)
    · have : b = 1 := by omega
      subst this
      simp [aboveB, hop_low]
theorem belowF_nn {id i c : Int} (h : 0 ≤ c) : 0 ≤ belowF id i c := by unfold belowF; split <;> omega
theorem below_run {l most id : Int} {zs : List (Int × Int)} (r : Roll l zs) : belowV id (runR l most zs).1 ≤ belowV id zs :=
  run_le (belowF id) (fun i => by unfold belowF; split <;> rfl) (fun ys p r' hk => by
    have f0 := r'.find p
    have f1 := r'.find (2 * p)
    have f2 := r'.find (2 * p + 1)
    obtain ⟨k1, _⟩ := kids_bound hk
    have e : allV l ys p = findL (2 * p) ys + findL (2 * p + 1) ys + findL p ys := by unfold allV; rw [hk]; rfl
    rw [e]
    cases hp : aboveB id p
    · have n1 := belowF_nn (id := id) (i := 2 * p) (c := findL (2 * p) ys) (by omega)
      have n2 := belowF_nn (id := id) (i := 2 * p + 1) (c := findL (2 * p + 1) ys) (by omega)
      have z1 : belowF id p (findL (2 * p) ys + findL (2 * p + 1) ys + findL p ys) = 0 := by unfold belowF; rw [hp]; rfl
      have z2 : belowF id p (findL p ys) = 0 := by unfold belowF; rw [hp]; rfl
      omega
    · have a1 := above_kid hp (q := 2 * p) (by omega) k1
      have a2 := above_kid hp (q := 2 * p + 1) (by omega) k1
      unfold belowF
      rw [hp, a1, a2]
      simp only [if_true]; omega) r
theorem below_root {l : Int} {zs : List (Int × Int)} (r : Roll l zs) : belowV 1 zs = sumL zs := by
  rw [← gsum_sum]
  unfold belowV
  have h1 : gsum (belowF 1) zs ≤ gsum (fun _ c => c) zs := gsum_le (fun x hx => by
    have := (r.strict.2 x hx); unfold belowF; split <;> omega)
  have h2 : gsum (fun _ c => c) zs ≤ gsum (belowF 1) zs := gsum_le (fun x hx => by
    have := (r.strict.2 x hx); unfold belowF; rw [above_root _ x.1 this.1 (Nat.le_refl _)]; simp)
  omega
theorem below_le {id : Int} {zs : List (Int × Int)} (hp : Pos zs) : 0 ≤ belowV id zs ∧ belowV id zs ≤ sumL zs := by
  rw [← gsum_sum]
  exact ⟨gsum_zero (fun x hx => belowF_nn (hp x hx)), gsum_le (fun x hx => by have := hp x hx; unfold belowF; split <;> omega)⟩
end Nl

set_option maxRecDepth 100000 in
set_option maxHeartbeats 400000 in
theorem r_above (a b : Int) (w : World) (ba : In64 a) (bb : In64 b) :
    Calls Tryz.prog 75 #[.int .i64 a, .int .i64 b] w fun e w' => e = .returned (.bool (aboveB a b)) ∧ w = w' := by
  obtain ⟨a1, a2⟩ := ba
  obtain ⟨b1, b2⟩ := bb
  by_cases h : 1 ≤ a
  · have HV : Hid (aboveB a b = (a == hop a b)) := by show _ = _; simp [aboveB, h]
    generalize aboveB a b = V at *
    go_enter Tryz.func75, Tryz.ntmps75
    go_wp2_with fail
    go_loop [1] (fun m => ∃ c : Int, m = .int .i64 c ∧ -9223372036854775808 ≤ c ∧ c ≤ 9223372036854775807 ∧ Hid (hop a b = hop a c)) (fun m => (intOf m).toNat)
    case atStart => exact ⟨b, rfl, b1, b2, rfl⟩
    case round =>
      obtain ⟨c, rfl, c1, c2, hc⟩ := hrel
      by_cases h1 : a < c
      · go_wp2_with fail
        go_round
        case rel => exact ⟨_, rfl, by omega, by omega, hc.out.trans (hop_big h h1)⟩
        case measure => simp [intOf]; omega
      · have hx : Hid (V = (a == c)) := by show V = _; rw [HV.out, hc.out, hop_low h1]
        clear hc HV
        go_wp2_with fail
        go_ret
        exact ⟨ret_bool (by rw [hx.out]), rfl⟩
  · have e : aboveB a b = false := by simp [aboveB]; omega
    rw [e]; clear e
    go_enter Tryz.func75, Tryz.ntmps75
    go_wp2
    go_ret
    exact ⟨rfl, rfl⟩

def BelRel (id : Int) (zs : List Nd) (n i : Value) : Prop := ∃ (k : Nat) (m : Int), i = .int .i64 k ∧ n = .int .i64 m ∧ k ≤ zs.length ∧ Hid (m + belowV id (zs.drop k) = belowV id zs)
theorem Nl.drop_pos {zs : List (Int × Int)} (h : Pos zs) (k : Nat) : Pos (zs.drop k) := fun x hx => h x (List.mem_of_mem_drop hx)
theorem Nl.drop_sum {zs : List (Int × Int)} (h : Pos zs) (k : Nat) : 0 ≤ sumL (zs.drop k) ∧ sumL (zs.drop k) ≤ sumL zs := by
  induction zs generalizing k with
  | nil => simp [sumL]
  | cons x r ih =>
    have h1 := h x (List.mem_cons_self ..)
    have hr : Pos r := fun y hy => h y (List.mem_cons_of_mem _ hy)
    have h2 := ih hr 0
    cases k with
    | zero => simp only [List.drop_zero, sumL] at h2 ⊢; omega
    | succ k => have := ih hr k; simp only [List.drop_succ_cons, sumL]; simp only [List.drop_zero] at h2; omega

set_option maxRecDepth 100000 in
set_option maxHeartbeats 1000000 in
theorem r_below {w : World} {l : Int} {zs : List Nd} {v : Value} (id : Int) (hr : RdN w v zs) (hl : zs.length ≤ 90000) (hroll : Roll l zs) (bi : In64 id) :
    Calls Tryz.prog 33 #[.agg #[.int .i64 l, v], .int .i64 id] w fun e w' => e = .returned (.int .i64 (belowV id zs)) ∧ Below w.heap.size w w' := by
  obtain ⟨p, cap, rfl⟩ := hr.val
  have hp := hid hroll.strict.pos
  have hsum := hroll.sum
  have hids : Hid (∀ x ∈ zs, In64 x.1) := fun x hx => by
    have h1 := hroll.ids x hx
    have l1 := hroll.l1
    have l2 := hroll.l2
    simp only [rightB, decide_eq_true_eq] at h1
    obtain ⟨n, rfl⟩ := Int.eq_ofNat_of_zero_le (show 0 ≤ l by omega)
    have := (pow48 (n := n) (by omega)).2
    simp only [Int.toNat_natCast] at h1
    exact ⟨by omega, by omega⟩
  have Ab := hid (fun (x : Int) (hx : In64 x) (W : World) => r_above id x W bi hx)
  obtain ⟨N, eN⟩ : ∃ N, zs.length = N := ⟨_, rfl⟩
  rw [eN] at hr ⊢
  have EN := hid eN
  have hN : N ≤ 90000 := by omega
  have hba : Below w.heap.size w (w.alloc (.cells #[.int .i64 l, .slice p N cap] 35)) := (Below.refl _ _).alloc (Nat.le_refl _) _
  have X := Blk.new w #[.int .i64 l, .slice p N cap] 35
  have hr1 := hr.below hba (Nat.le_refl _)
  clear eN hl hroll
  go_enter Tryz.func33, Tryz.ntmps33
  go_wp2_with fail
  generalize (w.alloc (.cells #[.int .i64 l, .slice p N cap] 35)) = w1 at *
  have x0 : w1.cell? ⟨w.heap.size, 0, none⟩ = some (.int .i64 l) := X.cell 0
  have x1 : w1.cell? ⟨w.heap.size, 1, none⟩ = some (.slice p N cap) := X.cell 1
  go_loop [5, 6] (fun n i => BelRel id zs n i) (fun _ i => N - (intOf i).toNat)
  case atStart => exact ⟨0, 0, rfl, rfl, Nat.zero_le _, by show _ = _; simp⟩
  case round =>
    obtain ⟨k, m, rfl, rfl, hk, hm⟩ := hrel
    rw [EN.out] at hk
    have hd := below_le (id := id) (drop_pos hp.out k)
    have hds := drop_sum hp.out k
    have hz := below_le (id := id) hp.out
    have hmm := hm.out
    have hm0 : -72057594037927936 ≤ m ∧ m ≤ 72057594037927935 := by omega
    obtain ⟨m0, m1⟩ := hm0
    clear hd hds hz hmm
    by_cases h1 : k < N
    · have hkx : k < zs.length := by rw [EN.out]; exact h1
      obtain ⟨g, off, a, c, rfl, ex, hg, c1, c2⟩ := hr1.at hkx
      have hc := below_le (id := id) (drop_pos hp.out (k + 1))
      have hc2 := drop_sum hp.out (k + 1)
      have hxm := getD_mem (d := ((0, 0) : Nd)) zs k hkx
      rw [ex] at hxm
      have hcp := hp.out _ hxm
      have hle := Pos.le_sum hp.out _ hxm
      simp only at hcp hle
      have A1 := hid (Ab.out a (hids.out _ hxm) w1)
      have hs : Hid (m + (belowF id a c + belowV id (zs.drop (k + 1))) = belowV id zs) := by
        have := hm.out; rw [drop_at (d := ((0, 0) : Nd)) zs k hkx, ex] at this; exact this
      clear hc hc2 hxm hm ex hr1
      obtain ⟨ab, eab⟩ : ∃ ab, aboveB id a = ab := ⟨_, rfl⟩
      rw [eab] at A1
      have EA := hid eab
      clear eab
      cases ab
      · have hs2 : Hid (m + belowV id (zs.drop (k + 1)) = belowV id zs) := by
          show _ = _; have := hs.out; unfold belowF at this; rw [EA.out] at this; simpa using this
        go_wp2_with fail
        refine A1.out.mono ?_
        rintro e w' ⟨rfl, rfl⟩
        go_wp2_with fail
        go_round
        case rel => exact ⟨k + 1, m, by go_num, rfl, by rw [EN.out]; omega, hs2⟩
        case measure => simp [intOf]; omega
      · have hs2 : Hid ((m + c) + belowV id (zs.drop (k + 1)) = belowV id zs) := by
          have := hs.out; unfold belowF at this; rw [EA.out] at this; simp only [if_true] at this; show _ = _; omega
        go_wp2_with fail
        refine A1.out.mono ?_
        rintro e w' ⟨rfl, rfl⟩
        go_wp2_with fail
        go_round
        case rel => exact ⟨k + 1, m + c, by go_num, rfl, by rw [EN.out]; omega, hs2⟩
        case measure => simp [intOf]; omega
    · have hx : Hid (m = belowV id zs) := by
        show _ = _; have := hm.out; rw [List.drop_eq_nil_of_le (by rw [EN.out]; omega)] at this; simpa [belowV, gsum] using this
      go_wp2_with fail
      go_ret
      exact ⟨ret_int hx.out, hba⟩
end Go.Proofs.YtnakieopnobjmaaGreat
