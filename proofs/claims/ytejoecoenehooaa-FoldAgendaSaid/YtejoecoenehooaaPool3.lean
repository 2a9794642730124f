/- Rolls: the walks of roll.Right, roll.Total, and the reference's Right. -/
import Derived.Test.YtejoecoenehooaaPool2
namespace Go.Proofs.Ytejoecoenehooaa
open Go.RowKit Nl

namespace Nl
/-- Do numbers rise, is each a node of the universe, and no weight below 1? -/
def risesF (l : Int) : Int → List (Int × Int) → Bool
  | _, [] => true
  | last, x :: r => if x.1 ≤ last ∨ rightB l x.1 = false ∨ x.2 < 1 then false else risesF l x.1 r
def rollB (l : Int) (zs : List (Int × Int)) : Bool := risesF l 0 zs && totOk zs && decide (1 ≤ l ∧ l ≤ 48)
theorem risesF_iff {l last : Int} {zs : List (Int × Int)} : risesF l last zs = true ↔ zs.Pairwise (fun a b => a.1 < b.1) ∧ ∀ x ∈ zs, last < x.1 ∧ rightB l x.1 = true ∧ 1 ≤ x.2 := by
  induction zs generalizing last with
  | nil => simp [risesF]
  | cons x r ih =>
    rw [risesF]
    by_cases h : x.1 ≤ last ∨ rightB l x.1 = false ∨ x.2 < 1
    · rw [if_pos h]
      simp only [Bool.false_eq_true, false_iff]
      rintro ⟨_, h2⟩
      obtain ⟨a, b, c⟩ := h2 x (by simp)
      rcases h with h | h | h
      · omega
      · rw [b] at h; cases h
      · omega
    · rw [if_neg h, ih, List.pairwise_cons]
      simp only [not_or, Bool.not_eq_false] at h
      constructor
      · rintro ⟨h1, h2⟩
        refine ⟨⟨fun y hy => (h2 y hy).1, h1⟩, fun y hy => ?_⟩
        cases hy with
        | head => exact ⟨by omega, h.2.1, by omega⟩
        | tail _ hy => obtain ⟨a, b, c⟩ := h2 y hy; exact ⟨by omega, b, c⟩
      · rintro ⟨⟨h1, h2⟩, h3⟩
        exact ⟨h2, fun y hy => ⟨h1 y hy, (h3 y (List.mem_cons_of_mem _ hy)).2⟩⟩
theorem rollB_iff {l : Int} {zs : List (Int × Int)} : rollB l zs = true ↔ Roll l zs := by
  unfold rollB
  simp only [Bool.and_eq_true, decide_eq_true_eq, risesF_iff]
  constructor
  · rintro ⟨⟨⟨h1, h2⟩, h3⟩, h4, h5⟩
    have hs : Strict zs := ⟨h1, fun x hx => by obtain ⟨a, b, c⟩ := h2 x hx; exact ⟨by omega, by omega⟩⟩
    refine ⟨h4, h5, hs, ?_, fun x hx => (h2 x hx).2.1⟩
    obtain ⟨m, hm⟩ := Option.isSome_iff_exists.1 h3
    have e1 := (totF_sum hm).1
    have e2 := (totF_bd (by omega) hm).2
    omega
  · intro r
    refine ⟨⟨⟨r.strict.1, fun x hx => ?_⟩, ?_⟩, r.l1, r.l2⟩
    · have := r.strict.2 x hx; exact ⟨by omega, r.ids x hx, by omega⟩
    · unfold totOk; rw [totF_pos r.strict.pos (by have := r.most; omega)]; rfl
end Nl
end Go.Proofs.Ytejoecoenehooaa
