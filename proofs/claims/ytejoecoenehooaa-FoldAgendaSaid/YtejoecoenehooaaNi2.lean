/- Slices of slices of ints. -/
import Derived.Test.YtejoecoenehooaaNi
namespace Go.Proofs.Ytejoecoenehooaa
open Go.RowKit

/-- s[k:] -/
theorem sliceLoI {w : World} {p : Option Addr} {n c k : Nat} {xs : List Int} (h : RdI w (.slice p n c) xs) (hk : k ≤ n) :
    ∃ p', (∀ W : World, (Instr.sliceAt 22 (.slice p n c) (some (.int .i64 k)) none none).run Try.prog W = .ok (.slice p' (n - k) (c - k)) W) ∧ RdI w (.slice p' (n - k) (c - k)) (xs.drop k) ∧ (∀ g, Value.ownBlock (.slice p' (n - k) (c - k)) = some g → Value.ownBlock (.slice p n c) = some g) := by
  obtain ⟨h1, h2⟩ := h.len
  have h3 : (k : Int) ≤ (n : Int) := by omega
  have h5 : (0 : Int) ≤ (k : Int) := by omega
  cases p with
  | none =>
    have hz : n = 0 ∧ c = 0 ∧ xs = [] := by
      rcases h with ⟨h, hx⟩ | ⟨_, _, h, _⟩ | ⟨_, _, _, h, _⟩
      · simp only [Value.slice.injEq] at h; exact ⟨h.2.1, h.2.2, hx⟩
      · simp at h
      · simp at h
    obtain ⟨rfl, rfl, rfl⟩ := hz
    obtain rfl : k = 0 := by omega
    exact ⟨none, fun W => by simp [go_sem], RdI.nil w, fun g hg => hg⟩
  | some a =>
    by_cases hc : c = k
    · refine ⟨some a, fun W => ?_, ?_, fun g hg => hg⟩
      · subst hc
        have : n = c := by omega
        subst this
        simp [go_sem]
      · have hr : xs.drop k = [] := List.drop_eq_nil_of_le (by omega)
        rw [hr, show n - k = 0 by omega]
        exact .inr (.inl ⟨_, _, rfl, rfl⟩)
    · refine ⟨some (a.add k), fun W => ?_, ?_, fun g hg => by
        have e : (a.add k).block = a.block := by unfold Addr.add; split <;> rfl
        simp only [Value.ownBlock, Option.some.injEq] at hg ⊢
        rw [← e]; exact hg⟩
      · simp [go_sem, h3, h5, hc]
      · rcases h with ⟨h, _⟩ | ⟨a', cap', h, rfl⟩ | ⟨g', o', c', hv, hg, hcc, hr⟩
        · simp at h
        · simp only [Value.slice.injEq] at h
          have : n - k = 0 := by omega
          rw [this]
          exact .inr (.inl ⟨_, _, rfl, by simp⟩)
        · simp only [Value.slice.injEq, Option.some.injEq] at hv
          obtain ⟨rfl, rfl, rfl⟩ := hv
          have hadd : (⟨g', o', none⟩ : Addr).add k = ⟨g', o' + k, none⟩ := by unfold Addr.add; split <;> simp_all
          rw [hadd]
          exact (RdI.drop (.inr (.inr ⟨g', o', c, rfl, hg, hcc, hr⟩)) k hk)
/-- s[:k] -/
theorem sliceHiI {w : World} {p : Option Addr} {n c k : Nat} {xs : List Int} (h : RdI w (.slice p n c) xs) (hk : k ≤ n) :
    (∀ W : World, (Instr.sliceAt 22 (.slice p n c) none (some (.int .i64 k)) none).run Try.prog W = .ok (.slice p k c) W) ∧ RdI w (.slice p k c) (xs.take k) := by
  obtain ⟨h1, h2⟩ := h.len
  have h4 : (k : Int) ≤ (c : Int) := by omega
  have h5 : (0 : Int) ≤ (k : Int) := by omega
  cases p with
  | none =>
    have hz : n = 0 ∧ c = 0 ∧ xs = [] := by
      rcases h with ⟨h, hx⟩ | ⟨_, _, h, _⟩ | ⟨_, _, _, h, _⟩
      · simp only [Value.slice.injEq] at h; exact ⟨h.2.1, h.2.2, hx⟩
      · simp at h
      · simp at h
    obtain ⟨rfl, rfl, rfl⟩ := hz
    obtain rfl : k = 0 := by omega
    exact ⟨fun W => by simp [go_sem], RdI.nil w⟩
  | some a =>
    refine ⟨fun W => ?_, ?_⟩
    · by_cases hc : c = 0
      · subst hc
        obtain rfl : k = 0 := by omega
        simp [go_sem]
      · simp [go_sem, h4, h5, hc, Addr.add]
    · rcases h with ⟨h, _⟩ | ⟨a', cap', h, rfl⟩ | ⟨g', o', c', hv, hg, hcc, hr⟩
      · simp at h
      · simp only [Value.slice.injEq] at h
        have : k = 0 := by omega
        subst this
        exact .inr (.inl ⟨_, _, rfl, by simp⟩)
      · simp only [Value.slice.injEq, Option.some.injEq] at hv
        obtain ⟨rfl, rfl, rfl⟩ := hv
        exact (RdI.take (.inr (.inr ⟨g', o', c, rfl, hg, hcc, hr⟩)) k hk)
end Go.Proofs.Ytejoecoenehooaa
