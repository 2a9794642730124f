/- Texts laid together: NotD, Dr3, Dr4. -/
import Derived.Test.YtbbkfjbaocpknaaGreatDg1
import Derived.Test.YtbbkfjbaocpknaaGreatDr2
import Derived.Test.YtbbkfjbaocpknaaGreatGO
import Derived.Laws.StructEq
import Derived.Deep.LoopGhost
/- A slice of nodes that lies in none of some blocks. -/
namespace Go.Proofs.YtbbkfjbaocpknaaGreat
open Go.RowKit Nl

/-- A list's slice does not lie in the blocks S. -/
def NotD (v : Value) (xs : List Nd) (S : Nat → Prop) : Prop := xs = [] ∨ ∀ j, v.ownBlock = some j → ¬ S j
theorem NotD.next {w w' : World} {v v' : Value} {xs xs' : List Nd} {S : Nat → Prop} {n : Nat} (o : NotD v xs S) (h : RdN w v xs) (h' : RdN w' v' xs') (hv : FrV v v' n) (hS : ∀ j, S j → j < n) : NotD v' xs' S := by
  rcases hv with rfl | hv
  · rcases o with rfl | o
    · obtain ⟨p, c, e⟩ := h.val
      obtain ⟨p', c', e'⟩ := h'.val
      rw [e] at e'
      simp only [List.length_nil, Value.slice.injEq] at e'
      exact .inl (List.eq_nil_of_length_eq_zero e'.2.1.symm)
    · exact .inr o
  · exact .inr fun j hj hs => by have := hv j hj; have := hS j hs; omega
theorem NotD.keep {w w' : World} {v : Value} {xs : List Nd} {S S' : Nat → Prop} (o : NotD v xs S) (r : RdN w v xs) (c : ChB S' w w') (hS : ∀ j, S' j → S j) : RdN w' v xs := by
  rcases o with rfl | o
  · exact r.any
  · exact r.keep (fun j hj e => c.block j hj (fun hp => o j e (hS j hp))) c.size
theorem NotD.more {w : World} {v : Value} {xs : List Nd} {S S' : Nat → Prop} (o : NotD v xs S) (r : RdN w v xs) (hS : ∀ j, S' j → S j ∨ w.heap.size ≤ j) : NotD v xs S' := by
  rcases o with h | o
  · exact .inl h
  · rcases r.ltE with h | h
    · exact .inl h
    · exact .inr fun j hj hs => by
        rcases hS j hs with e | e
        · exact o j hj e
        · have := h j hj; omega
end Go.Proofs.YtbbkfjbaocpknaaGreat

/- The walks of the statements' like and Few, and of DigestPlays. -/
namespace Go.Proofs.YtbbkfjbaocpknaaGreat
open Go.RowKit Nl

end Go.Proofs.YtbbkfjbaocpknaaGreat

/- The walks of the statements' Few, and of DigestPlays. -/
namespace Go.Proofs.YtbbkfjbaocpknaaGreat
open Go.RowKit Nl

def FewPost (n : Int) (w : World) (e : Ending) (w' : World) : Prop := ∃ b, e = .returned (.bool b) ∧ (b = true → n ≤ 60) ∧ Below w.heap.size w w'
set_option maxRecDepth 100000 in
set_option maxHeartbeats 4000000 in
theorem d_few (l k kind n : Int) (w : World) (hk : isK k = true) (hp : poolIs kind l = true) (_h1 : 0 ≤ n) (hl1 : 1 ≤ l) (hl2 : l ≤ 48) :
    Calls Tryz.prog 37 #[.agg #[.int .i64 l, .int .i64 k, .int .i64 kind], .int .i64 n] w (FewPost n w) := by
  have IS0 := fun W : World => r_dis l k kind W
  rw [hk, hp] at IS0
  have IS := hid IS0
  simp only [isK, decide_eq_true_eq] at hk
  obtain ⟨k1, k2⟩ := hk
  have X := Blk.new w #[.int .i64 l, .int .i64 k, .int .i64 kind] 27
  have hba : Below w.heap.size w (w.alloc (.cells #[.int .i64 l, .int .i64 k, .int .i64 kind] 27)) := (Below.refl _ _).alloc (Nat.le_refl _) _
  have hsx : (w.alloc (.cells #[.int .i64 l, .int .i64 k, .int .i64 kind] 27)).heap.size = w.heap.size + 1 := by simp
  clear IS0 hp
  by_cases h60 : n ≤ 60
  · have P : ∀ b W, Below w.heap.size w W → FewPost n w (.returned (.bool b)) W := fun b W hb => ⟨b, rfl, fun _ => h60, hb⟩
    have P' := hid P
    have hm0 : 0 ≤ l * k := Int.mul_nonneg (by omega) (by omega)
    have hm1 : l * k ≤ 48 * 1048576 := Int.mul_le_mul hl2 k2 (by omega) (by omega)
    obtain ⟨M, eM⟩ : ∃ M, l * k = M := ⟨_, rfl⟩
    rw [eM] at hm0 hm1
    have hw1 : IntKind.i64.wrap (l * k) = M := by rw [eM]; exact IntWalk.i64_in _ ⟨by omega, by omega⟩
    have hw2 : wrap64 (l * k) = M := by rw [eM]; exact IntWalk.wrap64_in _ ⟨by omega, by omega⟩
    have HW1 := hid hw1
    have HW2 := hid hw2
    clear eM hw1 hw2 P
    by_cases h50 : k ≤ 50
    · by_cases hm : M ≤ 50
      · rcases (show (kind == 2) = true ∨ (kind == 2) = false by cases kind == 2 <;> simp) with hkd | hkd
        all_goals
          by_cases hl : l ≤ 10
          all_goals
            go_enter Tryz.func37, Tryz.ntmps37
            go_wp2_with fail
            refine (IS.out _).mono ?_
            rintro e w2 ⟨rfl, hb2⟩
            have X2 := X.below hb2 (Nat.le_refl _)
            have x0 : w2.cell? ⟨w.heap.size, 0, none⟩ = some (.int .i64 l) := X2.cell 0
            have x1 : w2.cell? ⟨w.heap.size, 1, none⟩ = some (.int .i64 k) := X2.cell 1
            have x2 : w2.cell? ⟨w.heap.size, 2, none⟩ = some (.int .i64 kind) := X2.cell 2
            have hw1 := HW1.out
            have hw2 := HW2.out
            go_wp2_with fail
            go_ret
            exact P'.out _ _ (hba.trans (hb2.mono (by omega)))
      · go_enter Tryz.func37, Tryz.ntmps37
        go_wp2_with fail
        refine (IS.out _).mono ?_
        rintro e w2 ⟨rfl, hb2⟩
        have X2 := X.below hb2 (Nat.le_refl _)
        have x0 : w2.cell? ⟨w.heap.size, 0, none⟩ = some (.int .i64 l) := X2.cell 0
        have x1 : w2.cell? ⟨w.heap.size, 1, none⟩ = some (.int .i64 k) := X2.cell 1
        have hw1 := HW1.out
        have hw2 := HW2.out
        go_wp2_with fail
        go_ret
        exact P'.out _ _ (hba.trans (hb2.mono (by omega)))
    · go_enter Tryz.func37, Tryz.ntmps37
      go_wp2_with fail
      refine (IS.out _).mono ?_
      rintro e w2 ⟨rfl, hb2⟩
      have X2 := X.below hb2 (Nat.le_refl _)
      have x1 : w2.cell? ⟨w.heap.size, 1, none⟩ = some (.int .i64 k) := X2.cell 1
      go_wp2_with fail
      go_ret
      exact P'.out _ _ (hba.trans (hb2.mono (by omega)))
  · have P : FewPost n w (.returned (.bool false)) (w.alloc (.cells #[.int .i64 l, .int .i64 k, .int .i64 kind] 27)) := ⟨false, rfl, (fun h => by cases h), hba⟩
    have P' := hid P
    clear P
    go_enter Tryz.func37, Tryz.ntmps37
    go_wp2_with fail
    go_ret
    exact P'.out

def PlyRel (dg q g h B b7 : Nat) (kind l k : Int) (N : Nat) (w : World) (gn : Nat) (i : Value) (wr : World) : Prop :=
  ∃ (j : Nat) (zs : List Nd) (h' : Nat) (v : Value), i = .int .i64 j ∧ j ≤ N ∧ N - j ≤ gn ∧ zs.length ≤ j ∧ (h' = h ∨ B ≤ h') ∧ B ≤ wr.heap.size ∧ DgV wr dg q g h' kind l k 2000 zs ∧
    Blk wr w.heap.size #[.int .i64 l, .int .i64 k, .int .i64 kind] 27 ∧ Blk wr b7 #[.int .i64 k, .int .i64 l, v] 37 ∧ RdN wr v zs ∧ NotD v zs (fun j => DB dg q g h' j ∨ j = b7) ∧ Below w.heap.size w wr

end Go.Proofs.YtbbkfjbaocpknaaGreat
