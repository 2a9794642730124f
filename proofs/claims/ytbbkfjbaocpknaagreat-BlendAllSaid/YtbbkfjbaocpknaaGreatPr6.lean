/- The walk of PressTells. -/
import Derived.Test.YtbbkfjbaocpknaaGreatPr5
namespace Go.Proofs.YtbbkfjbaocpknaaGreat
open Go.RowKit Nl

theorem p_LightB {w : World} {q g h m : Nat} {kind l : Int} {zs : List Nd} (k : Int) (d : PoolV w q g h kind l m zs) (hm : m ≤ 100000) :
    Calls Tryz.prog 102 #[.pointer (some ⟨q, 0, none⟩), .int .i64 k] w fun e w' => e = .returned (.bool (lightB l zs (capV (sumL zs) k) && isK k)) ∧ Below w.heap.size w w' := by
  cases hk : isK k
  · exact (p_Light_no q k hk w).mono fun e w' ⟨h1, h2⟩ => ⟨by rw [h1]; simp, h2⟩
  · exact (p_Light k hk d hm).mono fun e w' ⟨h1, h2⟩ => ⟨by rw [h1]; simp, h2⟩
theorem few_parts {kind l : Int} {xs : List Nd} (h : askB kind l xs = true) : xs.length ≤ 60 ∧ poolIs kind l = true ∧ (kind == 2 || decide (l ≤ 10)) = true ∧ rollB l xs = true := by
  simp only [askB, Bool.and_eq_true, decide_eq_true_eq] at h
  obtain ⟨⟨⟨e1, e2⟩, e3⟩, e4⟩ := h
  exact ⟨e1, e2, e3, e4⟩

end Go.Proofs.YtbbkfjbaocpknaaGreat
