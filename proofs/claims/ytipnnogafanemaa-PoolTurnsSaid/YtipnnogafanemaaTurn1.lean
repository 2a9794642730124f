/- pool.Turn: what a round that adds to a pool keeps. -/
import Derived.Test.YtipnnogafanemaaEach1
namespace Go.Proofs.Ytipnnogafanemaa
open Go.RowKit Nl

/-- Where a store keeps its cells: the slice in its block. -/
def hAt (kind : Int) : Nat := if kind = 1 then 3 else 4
theorem PoolV.hcell {w : World} {q g h m : Nat} {kind l : Int} {zs : List Nd} (d : PoolV w q g h kind l m zs) : ∃ n c, w.cell? ⟨g, hAt kind, none⟩ = some (.slice (some ⟨h, 0, none⟩) n c) := by
  rcases d with ⟨rfl, _, _, _, cs, ⟨u, t, d, v⟩, _⟩ | ⟨rfl, _, _, _, b, xs, ⟨⟨cap, rest, d1, d2, d3⟩, v⟩, _⟩
  · exact ⟨_, _, d.1.cell 3⟩
  · exact ⟨_, _, d1.cell 4⟩
/-- No block of the pool. -/
def SafeP (q g : Nat) (kind : Int) (W : World) (k : Nat) : Prop := k ≠ q ∧ k ≠ g ∧ ∃ h n c, W.cell? ⟨g, hAt kind, none⟩ = some (.slice (some ⟨h, 0, none⟩) n c) ∧ k ≠ h
theorem SafeP.steady (q g : Nat) (kind : Int) : Steady (SafeP q g kind) := fun _ _ _ hg hr _ _ ⟨h1, h2, h, n, c, h3, h4⟩ => ⟨h1, h2, h, n, c, cell_kept h3 hg hr, h4⟩
theorem PoolV.safe {w : World} {q g h m : Nat} {kind l : Int} {zs : List Nd} (d : PoolV w q g h kind l m zs) {k : Nat} (h1 : k ≠ q) (h2 : k ≠ g) (h3 : k ≠ h) : SafeP q g kind w k := by
  obtain ⟨n, c, e⟩ := d.hcell
  exact ⟨h1, h2, h, n, c, e, h3⟩
/-- A call that writes the pool alone keeps what is safe. -/
theorem PoolV.kpS {w w' : World} {q g h h' m m' : Nat} {kind l : Int} {zs zs' : List Nd} (d : PoolV w q g h kind l m zs) (t : Tch g h w w') (d' : PoolV w' q g h' kind l m' zs') (hh : h' = h ∨ w.heap.size ≤ h') : KpS (SafeP q g kind) w w' := by
  obtain ⟨n, c, e⟩ := d.hcell
  refine ⟨t.size, fun k o ho _ ⟨h1, h2, h3, n3, c3, e3, h4⟩ => ?_⟩
  rw [e] at e3
  simp only [Option.some.injEq, Value.slice.injEq, Addr.mk.injEq, and_true] at e3
  obtain ⟨rfl, _, _⟩ := e3
  have hk := (Array.getElem?_eq_some_iff.1 ho).1
  refine ⟨(t.block k hk h2 h4).trans ho, d'.safe h1 h2 ?_⟩
  rcases hh with rfl | hh
  · exact h4
  · omega
theorem PoolV.grown {w w' : World} {q g h m : Nat} {kind l : Int} {zs : List Nd} {row : Option Nat} (d : PoolV w q g h kind l m zs) (hg : w.grownBy w' row) (hr : ∀ r, row = some r → ∃ o : Obj, w.heap[r]? = some o ∧ o.isCells = false) : PoolV w' q g h kind l m zs := by
  rcases d with ⟨k, hb, h1, h2, cs, ⟨u, t, d, v⟩, e⟩ | ⟨k, hb, h1, h2, b, xs, ⟨⟨cap, rest, d1, d2, d3⟩, v⟩, r⟩
  · exact .inl ⟨k, hb.keep (grownBy_keeps_cells hg hr hb rfl), h1, h2, cs, ⟨u, t, ⟨d.1.keep (grownBy_keeps_cells hg hr d.1 rfl), d.2.1.keep (grownBy_keeps_cells hg hr d.2.1 rfl), d.2.2⟩, v⟩, e⟩
  · exact .inr ⟨k, hb.keep (grownBy_keeps_cells hg hr hb rfl), h1, h2, b, xs, ⟨⟨cap, rest, d1.keep (grownBy_keeps_cells hg hr d1 rfl), d2.keep (grownBy_keeps_cells hg hr d2 rfl), d3⟩, v⟩, r⟩
theorem PoolV.others {w w' : World} {q g h m : Nat} {kind l : Int} {zs : List Nd} (d : PoolV w q g h kind l m zs) (t : Tch g h w w') : KeepsOthers w w' := by
  have key : (∃ o : Obj, w.heap[g]? = some o ∧ o.isCells = true) ∧ (∃ o : Obj, w.heap[h]? = some o ∧ o.isCells = true) := by
    rcases d with ⟨_, _, _, _, cs, ⟨u, t, d, v⟩, _⟩ | ⟨_, _, _, _, b, xs, ⟨⟨cap, rest, d1, d2, d3⟩, v⟩, _⟩
    · exact ⟨⟨_, d.1, rfl⟩, ⟨_, d.2.1, rfl⟩⟩
    · exact ⟨⟨_, d1, rfl⟩, ⟨_, d2, rfl⟩⟩
  obtain ⟨⟨o1, h1, h2⟩, ⟨o2, h3, h4⟩⟩ := key
  refine ⟨t.size, fun k o ho hc => (t.block k (Array.getElem?_eq_some_iff.1 ho).1 (fun e => ?_) (fun e => ?_)).trans ho⟩
  · subst e; rw [h1] at ho; cases ho; rw [h2] at hc; cases hc
  · subst e; rw [h3] at ho; cases ho; rw [h4] at hc; cases hc
namespace Nl
/-- One behind the other. -/
def addAll (l : Int) (zs : List (Int × Int)) : List (Int × Int) := zs.foldl (fun a x => (stAdd l a x.1 x.2).1) []
theorem addAll_snoc (l : Int) (zs : List (Int × Int)) (x : Int × Int) : addAll l (zs ++ [x]) = (stAdd l (addAll l zs) x.1 x.2).1 := by simp [addAll]
theorem addAll_take {l : Int} {zs : List (Int × Int)} (r : Roll l zs) (k : Nat) (hk : k ≤ zs.length) : addAll l (zs.take k) = zs.take k := by
  induction k with
  | zero => rfl
  | succ k ih =>
    have hlt : k < zs.length := hk
    have e := List.take_succ_eq_append_getElem hlt
    rw [e, addAll_snoc, ih (by omega), stAdd_snoc (x := zs[k]) (by rw [← e]; exact r.take' (k + 1))]
theorem addAll_roll {l : Int} {zs : List (Int × Int)} (r : Roll l zs) : addAll l zs = zs := by
  have := addAll_take r zs.length (Nat.le_refl _)
  rwa [List.take_length] at this
theorem Roll.add_len {l : Int} {zs : List (Int × Int)} (r : Roll l zs) (id c : Int) : (stAdd l zs id c).1.length ≤ zs.length + 1 := by
  unfold stAdd
  split
  · simp
  · rename_i h1
    split
    · simp
    · rename_i h2
      rw [r.tot] at h2
      have hr : rightB l id = true := by
        cases h : rightB l id
        · exact absurd (.inl h) h1
        · rfl
      have hc : 0 ≤ c := by
        by_cases h : c < 0
        · exact absurd (.inr h) h1
        · omega
      rw [foldL_add r.strict (right_pos hr) hc (by omega)]
      unfold addS
      have h1 := mstep_length (upTo id zs) (id, c)
      have h2 := congrArg List.length (upTo_past id zs)
      simp only [Option.getD_some, List.length_append] at h2 ⊢
      omega
end Nl
end Go.Proofs.Ytipnnogafanemaa
