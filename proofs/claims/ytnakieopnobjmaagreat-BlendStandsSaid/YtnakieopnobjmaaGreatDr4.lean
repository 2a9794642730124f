/- The walks of the statements' Few, and of DigestPlays. -/
import Derived.Test.YtnakieopnobjmaaGreatDr3
import Derived.Test.YtnakieopnobjmaaGreatNotD
namespace Go.Proofs.YtnakieopnobjmaaGreat
open Go.RowKit Nl

def FewPost (n : Int) (w : World) (e : Ending) (w' : World) : Prop := ∃ b, e = .returned (.bool b) ∧ (b = true → n ≤ 60) ∧ Below w.heap.size w w'
set_option maxRecDepth 100000 in
set_option maxHeartbeats 4000000 in
theorem d_few (l k kind n : Int) (w : World) (hk : isK k = true) (hp : poolIs kind l = true) (_h1 : 0 ≤ n) (hl1 : 1 ≤ l) (hl2 : l ≤ 48) :
    Calls Tryz.prog 51 #[.agg #[.int .i64 l, .int .i64 k, .int .i64 kind], .int .i64 n] w (FewPost n w) := by
  have IS0 := fun W : World => r_dis l k kind W
  rw [hk, hp] at IS0
  have IS := hid IS0
  simp only [isK, decide_eq_true_eq] at hk
  obtain ⟨k1, k2⟩ := hk
  have X := Blk.new w #[.int .i64 l, .int .i64 k, .int .i64 kind] 23
  have hba : Below w.heap.size w (w.alloc (.cells #[.int .i64 l, .int .i64 k, .int .i64 kind] 23)) := (Below.refl _ _).alloc (Nat.le_refl _) _
  have hsx : (w.alloc (.cells #[.int .i64 l, .int .i64 k, .int .i64 kind] 23)).heap.size = w.heap.size + 1 := by simp
  clear IS0 hp
  by_cases h60 : n ≤ 60
  · have P : ∀ b W, Below w.heap.size w W → FewPost n w (.returned (.bool b)) W := fun b W hb => ⟨b, rfl, fun _ => h60, hb⟩
    have P' := hid P
    have hm0 : 0 ≤ l * k := Int.mul_nonneg (by omega) (by omega)
    have hm1 : l * k ≤ 48 * 1048576 := Int.mul_le_mul hl2 k2 (by omega) (by omega)
    obtain ⟨M, eM⟩ : ∃ M, l * k = M := ⟨_, rfl⟩
    rw [eM] at hm0 hm1
    have hw1 : IntKind.i64.wrap (l * k) = M := by rw [eM]; exact IntWalk.i64_in _ ⟨by omega, by omega⟩
    have hw2 : wrap64 (l * k) = M := by rw [eM]; exact IntWalk.wrap64_in _ ⟨by omega, by omega⟩
    have HW1 := hid hw1
    have HW2 := hid hw2
    clear eM hw1 hw2 P
    by_cases h50 : k ≤ 50
    · by_cases hm : M ≤ 50
      · rcases (show (kind == 2) = true ∨ (kind == 2) = false by cases kind == 2 <;> simp) with hkd | hkd
        all_goals
          by_cases hl : l ≤ 10
          all_goals
            go_enter Tryz.func51, Tryz.ntmps51
            go_wp2_with fail
            refine (IS.out _).mono ?_
            rintro e w2 ⟨rfl, hb2⟩
            have X2 := X.below hb2 (Nat.le_refl _)
            have x0 : w2.cell? ⟨w.heap.size, 0, none⟩ = some (.int .i64 l) := X2.cell 0
            have x1 : w2.cell? ⟨w.heap.size, 1, none⟩ = some (.int .i64 k) := X2.cell 1
            have x2 : w2.cell? ⟨w.heap.size, 2, none⟩ = some (.int .i64 kind) := X2.cell 2
            have hw1 := HW1.out
            have hw2 := HW2.out
            go_wp2_with fail
            go_ret
            exact P'.out _ _ (hba.trans (hb2.mono (by omega)))
      · go_enter Tryz.func51, Tryz.ntmps51
        go_wp2_with fail
        refine (IS.out _).mono ?_
        rintro e w2 ⟨rfl, hb2⟩
        have X2 := X.below hb2 (Nat.le_refl _)
        have x0 : w2.cell? ⟨w.heap.size, 0, none⟩ = some (.int .i64 l) := X2.cell 0
        have x1 : w2.cell? ⟨w.heap.size, 1, none⟩ = some (.int .i64 k) := X2.cell 1
        have hw1 := HW1.out
        have hw2 := HW2.out
        go_wp2_with fail
        go_ret
        exact P'.out _ _ (hba.trans (hb2.mono (by omega)))
    · go_enter Tryz.func51, Tryz.ntmps51
      go_wp2_with fail
      refine (IS.out _).mono ?_
      rintro e w2 ⟨rfl, hb2⟩
      have X2 := X.below hb2 (Nat.le_refl _)
      have x1 : w2.cell? ⟨w.heap.size, 1, none⟩ = some (.int .i64 k) := X2.cell 1
      go_wp2_with fail
      go_ret
      exact P'.out _ _ (hba.trans (hb2.mono (by omega)))
  · have P : FewPost n w (.returned (.bool false)) (w.alloc (.cells #[.int .i64 l, .int .i64 k, .int .i64 kind] 23)) := ⟨false, rfl, (fun h => by cases h), hba⟩
    have P' := hid P
    clear P
    go_enter Tryz.func51, Tryz.ntmps51
    go_wp2_with fail
    go_ret
    exact P'.out

def PlyRel (dg q g h B b7 : Nat) (kind l k : Int) (N : Nat) (w : World) (gn : Nat) (i : Value) (wr : World) : Prop :=
  ∃ (j : Nat) (zs : List Nd) (h' : Nat) (v : Value), i = .int .i64 j ∧ j ≤ N ∧ N - j ≤ gn ∧ zs.length ≤ j ∧ (h' = h ∨ B ≤ h') ∧ B ≤ wr.heap.size ∧ DgV wr dg q g h' kind l k 2000 zs ∧
    Blk wr w.heap.size #[.int .i64 l, .int .i64 k, .int .i64 kind] 23 ∧ Blk wr b7 #[.int .i64 k, .int .i64 l, v] 37 ∧ RdN wr v zs ∧ NotD v zs (fun j => DB dg q g h' j ∨ j = b7) ∧ Below w.heap.size w wr

end Go.Proofs.YtnakieopnobjmaaGreat
