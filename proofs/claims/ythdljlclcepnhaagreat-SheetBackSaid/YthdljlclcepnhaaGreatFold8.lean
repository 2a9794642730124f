/- The walk of FoldDoes. -/
import Derived.Test.YthdljlclcepnhaaGreatFold7
namespace Go.Proofs.YthdljlclcepnhaaGreat
open Go.RowKit Nl

theorem r_same_self {va vb : Value} {xs : List Nd} (w : World) (ha : RdN w va xs) (hb : RdN w vb xs) (hl : xs.length < 2097152) :
    Calls Tryz.prog 25 #[va, vb] w fun e w' => e = .returned (.bool true) ∧ ∃ n, w' = w.drewN n :=
  (r_same w ha hb hl hl).mono fun e w' ⟨h1, h2⟩ => ⟨by rw [h1]; simp, h2⟩

end Go.Proofs.YthdljlclcepnhaaGreat
