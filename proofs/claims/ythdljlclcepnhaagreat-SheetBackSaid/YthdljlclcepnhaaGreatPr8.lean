/- Above and Below. -/
import Derived.Test.YthdljlclcepnhaaGreatPRA
import Derived.Test.YthdljlclcepnhaaGreatFold8
namespace Go.Proofs.YthdljlclcepnhaaGreat
open Go.RowKit Nl

namespace Nl
/-- Halved as long as it is greater than a. -/
def hop (a b : Int) : Int := if _h : 1 ≤ a ∧ a < b then hop a (b / 2) else b
termination_by b.toNat
decreasing_by omega
theorem hop_big {a b : Int} (h1 : 1 ≤ a) (h2 : a < b) : hop a b = hop a (b / 2) := by rw [hop]; rw [dif_pos ⟨h1, h2⟩]
theorem hop_low {a b : Int} (h2 : ¬ a < b) : hop a b = b := by rw [hop]; rw [dif_neg (fun h => h2 h.2)]
def aboveB (a b : Int) : Bool := decide (1 ≤ a) && a == hop a b
def belowF (id i c : Int) : Int := if aboveB id i then c else 0
def belowV (id : Int) (zs : List (Int × Int)) : Int := gsum (belowF id) zs
theorem above_kid {a p q : Int} (h : aboveB a p = true) (hq : q / 2 = p) (hp : 1 ≤ p) : aboveB a q = true := by
  simp only [aboveB, Bool.and_eq_true, decide_eq_true_eq, beq_iff_eq] at h ⊢
  obtain ⟨h1, h2⟩ := h
  have hle : a ≤ p := by
    by_cases hc : a < p
    · omega
    · rw [hop_low hc] at h2; omega
  refine ⟨h1, ?_⟩
  rw [hop_big h1 (by omega), hq]; exact h2
theorem above_root (n : Nat) : ∀ b : Int, 1 ≤ b → b.toNat ≤ n → aboveB 1 b = true := by
  induction n with
  | zero => intro b h1 h2; omega
  | succ n ih =>
    intro b h1 h2
    by_cases h : 1 < b
    · exact above_kid (ih (b / 2) (by omega) (by omega)) rfl (by omega)
    · have : b = 1 := by omega
      subst this
      simp [aboveB, hop_low]
theorem belowF_nn {id i c : Int} (h : 0 ≤ c) : 0 ≤ belowF id i c := by unfold belowF; split <;> omega
theorem below_run {l most id : Int} {zs : List (Int × Int)} (r : Roll l zs) : belowV id (runR l most zs).1 ≤ belowV id zs :=
  run_le (belowF id) (fun i => by unfold belowF; split <;> rfl) (fun ys p r' hk => by
    have f0 := r'.find p
    have f1 := r'.find (2 * p)
    have f2 := r'.find (2 * p + 1)
    obtain ⟨k1, _⟩ := kids_bound hk
    have e : allV l ys p = findL (2 * p) ys + findL (2 * p + 1) ys + findL p ys := by unfold allV; rw [hk]; rfl
    rw [e]
    cases hp : aboveB id p
    · have n1 := belowF_nn (id := id) (i := 2 * p) (c := findL (2 * p) ys) (by omega)
      have n2 := belowF_nn (id := id) (i := 2 * p + 1) (c := findL (2 * p + 1) ys) (by omega)
      have z1 : belowF id p (findL (2 * p) ys + findL (2 * p + 1) ys + findL p ys) = 0 := by unfold belowF; rw [hp]; rfl
      have z2 : belowF id p (findL p ys) = 0 := by unfold belowF; rw [hp]; rfl
      omega
    · have a1 := above_kid hp (q := 2 * p) (by omega) k1
      have a2 := above_kid hp (q := 2 * p + 1) (by omega) k1
      unfold belowF
      rw [hp, a1, a2]
      simp only [if_true]; omega) r
theorem below_root {l : Int} {zs : List (Int × Int)} (r : Roll l zs) : belowV 1 zs = sumL zs := by
  rw [← gsum_sum]
  unfold belowV
  have h1 : gsum (belowF 1) zs ≤ gsum (fun _ c => c) zs := gsum_le (fun x hx => by
    have := (r.strict.2 x hx); unfold belowF; split <;> omega)
  have h2 : gsum (fun _ c => c) zs ≤ gsum (belowF 1) zs := gsum_le (fun x hx => by
    have := (r.strict.2 x hx); unfold belowF; rw [above_root _ x.1 this.1 (Nat.le_refl _)]; simp)
  omega
theorem below_le {id : Int} {zs : List (Int × Int)} (hp : Pos zs) : 0 ≤ belowV id zs ∧ belowV id zs ≤ sumL zs := by
  rw [← gsum_sum]
  exact ⟨gsum_zero (fun x hx => belowF_nn (hp x hx)), gsum_le (fun x hx => by have := hp x hx; unfold belowF; split <;> omega)⟩
end Nl

def BelRel (id : Int) (zs : List Nd) (n i : Value) : Prop := ∃ (k : Nat) (m : Int), i = .int .i64 k ∧ n = .int .i64 m ∧ k ≤ zs.length ∧ Hid (m + belowV id (zs.drop k) = belowV id zs)
theorem Nl.drop_pos {zs : List (Int × Int)} (h : Pos zs) (k : Nat) : Pos (zs.drop k) := fun x hx => h x (List.mem_of_mem_drop hx)
theorem Nl.drop_sum {zs : List (Int × Int)} (h : Pos zs) (k : Nat) : 0 ≤ sumL (zs.drop k) ∧ sumL (zs.drop k) ≤ sumL zs := by
  induction zs generalizing k with
  | nil => simp [sumL]
  | cons x r ih =>
    have h1 := h x (List.mem_cons_self ..)
    have hr : Pos r := fun y hy => h y (List.mem_cons_of_mem _ hy)
    have h2 := ih hr 0
    cases k with
    | zero => simp only [List.drop_zero, sumL] at h2 ⊢; omega
    | succ k => have := ih hr k; simp only [List.drop_succ_cons, sumL]; simp only [List.drop_zero] at h2; omega

end Go.Proofs.YthdljlclcepnhaaGreat
