/- The walk of PressRises. -/
import Derived.Test.YthdljlclcepnhaaGreatPr8
namespace Go.Proofs.YthdljlclcepnhaaGreat
open Go.RowKit Nl

theorem RdN.off {w w' : World} {v : Value} {xs : List Nd} {q g h B : Nat} (r : RdN w v xs) (hc : ChB (PB q g h) w w') (hv : ∀ j, v.ownBlock = some j → j < B ∨ q < j ∧ g < j ∧ h < j) (hq : B ≤ q) (hg : B ≤ g) (hh : B ≤ h) : RdN w' v xs :=
  r.keep (fun j hj e => hc.block j hj (fun hp => by
    have := hv j e
    rcases hp with e | e | e <;> omega)) hc.size
theorem RdN.own_lt {w : World} {v : Value} {xs : List Nd} (r : RdN w v xs) (hx : xs ≠ []) : ∀ j, v.ownBlock = some j → j < w.heap.size := by
  rcases r with ⟨_, e⟩ | ⟨_, _, _, e⟩ | ⟨g, off, cap, e, hg, _⟩
  · exact absurd e hx
  · exact absurd e hx
  · intro j hj; rw [e] at hj; cases hj; exact hg
theorem RdN.nil_any {w w' : World} {v : Value} (r : RdN w v []) (hs : w.heap.size ≤ w'.heap.size) : RdN w' v [] := by
  rcases r with ⟨h, _⟩ | ⟨a, c, h, _⟩ | ⟨g, off, cap, h, hg, hc, _⟩
  · exact .inl ⟨h, rfl⟩
  · exact .inr (.inl ⟨a, c, h, rfl⟩)
  · exact .inr (.inr ⟨g, off, cap, h, by omega, hc, fun k hk => by simp at hk⟩)
/-- Nodes that lay there before a pool did are kept when the pool is folded. -/
theorem RdN.old {w0 w w' : World} {v : Value} {xs : List Nd} {q g h : Nat} (r0 : RdN w0 v xs) (r : RdN w v xs) (hc : ChB (PB q g h) w w') (hq : w0.heap.size ≤ q) (hg : w0.heap.size ≤ g) (hh : w0.heap.size ≤ h) : RdN w' v xs := by
  cases xs with
  | nil => exact r.nil_any hc.size
  | cons x t => exact r.off hc (fun j e => .inl (r0.own_lt (by simp) j e)) hq hg hh
theorem Nl.roll_nb {l : Int} {zs : List Nd} (hroll : Roll l zs) : NB zs := fun x hx => by
  have h1 := hroll.ids x hx
  have h2 := hroll.strict.2 x hx
  have h3 := Pos.le_sum hroll.strict.pos x hx
  have h4 := hroll.most
  have l1 := hroll.l1
  have l2 := hroll.l2
  simp only [rightB, decide_eq_true_eq] at h1
  obtain ⟨n, rfl⟩ := Int.eq_ofNat_of_zero_le (show 0 ≤ l by omega)
  have := (pow48 (n := n) (by omega)).2
  simp only [Int.toNat_natCast] at h1
  exact ⟨⟨by omega, by omega⟩, ⟨by omega, by omega⟩⟩

end Go.Proofs.YthdljlclcepnhaaGreat
