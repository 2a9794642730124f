/- Memory: slices of three ints each, appended to, of any type. -/
import Derived.Test.YtaihjcefgokjkaaPa5
import Derived.Laws.AppendOwnNone
import Derived.WalkSpells
import Derived.WalkLawsBesides
namespace Go.Proofs.Ytaihjcefgokjkaa
open Go.RowKit Rk

/-- Three ints. -/
abbrev T3 := Int × Int × Int
def tcells : List T3 → List Value
  | [] => []
  | x :: r => .int .i64 x.1 :: .int .i64 x.2.1 :: .int .i64 x.2.2 :: tcells r
theorem tcells_append (xs ys : List T3) : tcells (xs ++ ys) = tcells xs ++ tcells ys := by
  induction xs with
  | nil => rfl
  | cons x r ih => simp [tcells, ih]
theorem tcells_get (xs : List T3) (k : Nat) (hk : k < xs.length) : (tcells xs)[k * 3]? = some (.int .i64 (xs.getD k (0, 0, 0)).1) ∧ (tcells xs)[k * 3 + 1]? = some (.int .i64 (xs.getD k (0, 0, 0)).2.1) ∧ (tcells xs)[k * 3 + 2]? = some (.int .i64 (xs.getD k (0, 0, 0)).2.2) := by
  induction xs generalizing k with
  | nil => simp at hk
  | cons x r ih =>
    cases k with
    | zero => simp [tcells]
    | succ k =>
      have := ih k (by simpa using hk)
      simpa [tcells, show (k + 1) * 3 = k * 3 + 3 by omega, show (k + 1) * 3 + 1 = k * 3 + 1 + 3 by omega, show (k + 1) * 3 + 2 = k * 3 + 2 + 3 by omega] using this
theorem tcells_one (xs : List T3) : ∀ u ∈ tcells xs, u.oneCell' = true := by
  induction xs with
  | nil => intro u hu; simp [tcells] at hu
  | cons x r ih =>
    intro u hu
    simp only [tcells, List.mem_cons] at hu
    rcases hu with rfl | rfl | rfl | hu
    · rfl
    · rfl
    · rfl
    · exact ih u hu
/-- A slice of one's own, of three ints each. -/
def Own3 (E : TypeId) (w : World) (B : Nat) (v : Value) (xs : List T3) : Prop := w.ownsRow B E 3 v xs.length (tcells xs)
theorem Own3.nil (E : TypeId) (w : World) (B : Nat) : Own3 E w B (.slice none 0 0) [] := World.ownsRow_nil w B _ _
theorem Own3.lt {E : TypeId} {w : World} {B : Nat} {v : Value} {xs : List T3} (h : Own3 E w B v xs) : ∀ k, v.ownBlock = some k → B ≤ k := fun k hk => (World.ownsRow.lt h k hk).1
theorem Own3.lt' {E : TypeId} {w : World} {B : Nat} {v : Value} {xs : List T3} (h : Own3 E w B v xs) : ∀ k, v.ownBlock = some k → k < w.heap.size := fun k hk => (World.ownsRow.lt h k hk).2
theorem Own3.keep {E : TypeId} {w w' : World} {B : Nat} {v : Value} {xs : List T3} (h : Own3 E w B v xs) (hk : ∀ k, v.ownBlock = some k → w'.heap[k]? = w.heap[k]?) : Own3 E w' B v xs := by
  refine ⟨h.1, ?_⟩
  rcases h.2 with h2 | ⟨g, cap, cur, rfl, hg, hh, r⟩
  · exact .inl h2
  · exact .inr ⟨g, cap, cur, rfl, hg, by rw [hk g rfl]; exact hh, r⟩
theorem Own3.below {E : TypeId} {w w' : World} {B B' : Nat} {v : Value} {xs : List T3} (h : Own3 E w B v xs) (hb : Below B' w w') (hB : w.heap.size ≤ B') : Own3 E w' B v xs :=
  h.keep fun k hk => hb.block k (Nat.lt_of_lt_of_le (h.lt' k hk) hB)
theorem Own3.alloc {E : TypeId} {w : World} {B : Nat} {v : Value} {xs : List T3} (h : Own3 E w B v xs) (o : Obj) : Own3 E (w.alloc o) B v xs :=
  h.keep fun k hk => Below.heap_alloc w o k (h.lt' k hk)
theorem Own3.shape {E : TypeId} {w : World} {B : Nat} {v : Value} {xs : List T3} (h : Own3 E w B v xs) :
    (v = .slice none 0 0 ∧ xs = []) ∨ ∃ g cap, v = .slice (some ⟨g, 0, none⟩) xs.length cap ∧ B ≤ g ∧ g < w.heap.size ∧ xs.length ≤ cap ∧
      ∀ k, k < xs.length → w.cell? ⟨g, k * 3, none⟩ = some (.int .i64 (xs.getD k (0, 0, 0)).1) ∧ w.cell? ⟨g, k * 3 + 1, none⟩ = some (.int .i64 (xs.getD k (0, 0, 0)).2.1) ∧ w.cell? ⟨g, k * 3 + 2, none⟩ = some (.int .i64 (xs.getD k (0, 0, 0)).2.2) := by
  rcases h.2 with ⟨h1, h2⟩ | ⟨g, cap, cur, hv, hg, hh, h3, h4, h5, h6⟩
  · exact .inl ⟨h1, List.eq_nil_of_length_eq_zero h2⟩
  · refine .inr ⟨g, cap, hv, hg, (Array.getElem?_eq_some_iff.1 hh).1, h3, fun k hk => ?_⟩
    subst hv
    have hcell : ∀ j, j < xs.length * 3 → w.cell? ⟨g, j, none⟩ = (tcells xs)[j]? := fun j hj => World.ownsRow.cellAt h j hj
    rw [hcell (k * 3) (by omega), hcell (k * 3 + 1) (by omega), hcell (k * 3 + 2) (by omega)]
    exact tcells_get xs k hk
theorem Own3.val {E : TypeId} {w : World} {B : Nat} {v : Value} {xs : List T3} (h : Own3 E w B v xs) : ∃ p cap, v = .slice p xs.length cap := by
  rcases h.shape with ⟨rfl, rfl⟩ | ⟨g, cap, hv, _⟩
  · exact ⟨none, 0, rfl⟩
  · exact ⟨_, _, hv⟩
theorem Own3.grown {E : TypeId} {w w' : World} {B : Nat} {v : Value} {xs : List T3} {row : Option Nat} (h : Own3 E w B v xs) (hg : w.grownBy w' row) (hne : ∀ k, v.ownBlock = some k → some k ≠ row) : Own3 E w' B v xs :=
  h.keep fun k hk => hg.block k (h.lt' k hk) (hne k hk)
theorem grown_of_alloc {w w' : World} {o : Obj} {row : Option Nat} (h : (w.alloc o).grownBy w' row) : w.grownBy w' row :=
  ⟨h.os, h.tape, h.output, by have := h.size; simp at this; omega, fun k hk hr => (h.block k (by simp; omega) hr).trans (Below.heap_alloc w o k hk)⟩

section
variable {ops : Array Oper} {rest : List Oper} {o : Oper} {a : Act} {Q : Exit → Act → World → Prop} {w wr : World} {v : Value} {xs : List T3} {B T : Nat}
/-- append(s, x): three ints. -/
theorem append3 {x y z : Int} (S E : TypeId) (hS : Try.prog.underlying S = some (.slice E)) (hE : (Try.prog.info? E).map (fun i => (i.zero, i.size, i.bytes)) = some (some (.agg #[.int .i64 0, .int .i64 0, .int .i64 0]), 3, 24)) (s t : Operand)
    (hown : Own3 E wr B v xs) (hlen : xs.length < 2097152) (hBr : B ≤ wr.heap.size)
    (hw : w = wr.alloc (.cells #[.int .i64 x, .int .i64 y, .int .i64 z] T))
    (hgd : o.guard = none) (ho : o.op = .call { callee := .builtin .append, args := #[s, t], argTypes := #[S, S] })
    (hv : a.eval s = v) (hx : a.eval t = .slice (some ⟨wr.heap.size, 0, none⟩) 1 1)
    (h : ∀ v' w', Own3 E w' B v' (xs ++ [(x, y, z)]) → wr.grownBy w' v.ownBlock → wpList Try.prog ops Q rest (a.put o.dst v') w') :
    wpList Try.prog ops Q (o :: rest) a w := by
  obtain ⟨i0, hi, hz0, hz1, hz2⟩ := info_parts hE
  subst hw
  refine wpList_append_own _ hgd s t S ho B E i0 (.agg #[.int .i64 0, .int .i64 0, .int .i64 0]) 3 24 hS hi hz0 hz1 hz2 rfl (by decide) v xs.length (tcells xs) hv (hown.alloc _) ⟨wr.heap.size, 0, none⟩ 1 1 (tcells [(x, y, z)]) hx rfl ?_ (tcells_one _) ?_ ?_ ?_ ?_
  · intro j u hj
    have hadd : (⟨wr.heap.size, 0, none⟩ : Addr).add j = ⟨wr.heap.size, j, none⟩ := by unfold Addr.add; split <;> simp_all
    rw [hadd, World.cell?_alloc_at _ _ _ _ rfl]
    match j, hj with
    | 0, hj => simpa [tcells] using hj
    | 1, hj => simpa [tcells] using hj
    | 2, hj => simpa [tcells] using hj
    | j + 3, hj => simp [tcells] at hj
  · unfold maxLen; omega
  · omega
  · simp; omega
  · intro v' w' h1 h2 h3
    refine h v' w' ?_ (grown_of_alloc h2)
    unfold Own3
    rw [tcells_append]
    simpa using h1
end
end Go.Proofs.Ytaihjcefgokjkaa
