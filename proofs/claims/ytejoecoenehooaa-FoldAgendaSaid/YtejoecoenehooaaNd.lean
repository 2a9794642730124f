/- Memory: slices of nodes, read and appended to. -/
import Derived.Test.YtejoecoenehooaaRows
import Derived.WalkKit
import Derived.WalkSpells
import Derived.WalkLawsBesides
import Derived.Laws.AppendOwnNone
import Derived.Deep.QuietTactic
import Derived.BigQuiet
import Derived.Deep.DeepCutAuto
import Derived.Deep.CutBlock
namespace Go.Proofs.Ytejoecoenehooaa
open Go.RowKit

/-- A fact kept from the walk. -/
theorem hid {p : Prop} (h : p) : Hid p := h

/-- A block, known whole. -/
def Blk (w : World) (g : Nat) (arr : Array Value) (T : TypeId) : Prop := w.heap[g]? = some (.cells arr T (0, 0))
theorem Blk.new (w : World) (arr : Array Value) (T : TypeId) : Blk (w.alloc (.cells arr T)) w.heap.size arr T := heap_alloc_new w _
theorem Blk.lt {w : World} {g : Nat} {arr : Array Value} {T : TypeId} (h : Blk w g arr T) : g < w.heap.size := (Array.getElem?_eq_some_iff.1 h).1
theorem Blk.keep {w w' : World} {g : Nat} {arr : Array Value} {T : TypeId} (h : Blk w g arr T) (e : w'.heap[g]? = w.heap[g]?) : Blk w' g arr T := e.trans h
theorem Blk.alloc {w : World} {g : Nat} {arr : Array Value} {T : TypeId} (h : Blk w g arr T) (o : Obj) : Blk (w.alloc o) g arr T := h.keep (Below.heap_alloc w o g h.lt)
theorem Blk.below {w w' : World} {g B : Nat} {arr : Array Value} {T : TypeId} (h : Blk w g arr T) (hb : Below B w w') (hB : w.heap.size ≤ B) : Blk w' g arr T := h.keep (hb.block g (Nat.lt_of_lt_of_le h.lt hB))
theorem Blk.below' {w w' : World} {g B : Nat} {arr : Array Value} {T : TypeId} (h : Blk w g arr T) (hb : Below B w w') (hB : g < B) : Blk w' g arr T := h.keep (hb.block g hB)
theorem Blk.grown {w w' : World} {g B : Nat} {arr : Array Value} {T : TypeId} {row : Option Nat} (h : Blk w g arr T) (hg : w.grownBy w' row) (hr : ∀ k, row = some k → B ≤ k) (hB : g < B) : Blk w' g arr T :=
  h.keep (hg.block g h.lt fun e => by have := hr g e.symm; omega)
theorem Blk.drewN {w : World} {g : Nat} {arr : Array Value} {T : TypeId} (h : Blk w g arr T) (n : Nat) : Blk (w.drewN n) g arr T := h
theorem Blk.cell {w : World} {g : Nat} {arr : Array Value} {T : TypeId} (h : Blk w g arr T) (j : Nat) : w.cell? ⟨g, j, none⟩ = arr[j]? := cell_of_row w g j arr T (0, 0) h
theorem Blk.free {w : World} {g : Nat} {arr : Array Value} {T : TypeId} (h : Blk w g arr T) (j : Nat) : w.frozen? ⟨g, j, none⟩ = false := by
  simp only [World.frozen?]
  rw [show w.heap[g]? = some (.cells arr T (0, 0)) from h]
  simp
theorem Blk.set {w : World} {g : Nat} {arr : Array Value} {T : TypeId} (h : Blk w g arr T) (j : Nat) (v : Value) : Blk (w.setCell ⟨g, j, none⟩ v) g (arr.setIfInBounds j v) T := heap_setCell_same w g j arr T v h
theorem Blk.set_other {w : World} {g g' : Nat} {arr : Array Value} {T : TypeId} (h : Blk w g arr T) (j : Nat) (v : Value) (hne : g ≠ g') : Blk (w.setCell ⟨g', j, none⟩ v) g arr T := h.keep (Below.heap_setCell w ⟨g', j, none⟩ v g hne)

/-- A node: its number, its weight. -/
abbrev Nd := Int × Int
/-- The cells of nodes. -/
def ncells : List Nd → List Value
  | [] => []
  | x :: r => .int .i64 x.1 :: .int .i64 x.2 :: ncells r
theorem ncells_length (xs : List Nd) : (ncells xs).length = xs.length * 2 := by
  induction xs with
  | nil => rfl
  | cons x r ih => simp only [ncells, List.length_cons, ih]; omega
theorem ncells_append (xs ys : List Nd) : ncells (xs ++ ys) = ncells xs ++ ncells ys := by
  induction xs with
  | nil => rfl
  | cons x r ih => simp [ncells, ih]
theorem ncells_get (xs : List Nd) (k : Nat) (hk : k < xs.length) : (ncells xs)[k * 2]? = some (.int .i64 (xs.getD k (0, 0)).1) ∧ (ncells xs)[k * 2 + 1]? = some (.int .i64 (xs.getD k (0, 0)).2) := by
  induction xs generalizing k with
  | nil => simp at hk
  | cons x r ih =>
    cases k with
    | zero => simp [ncells]
    | succ k =>
      have := ih k (by simpa using hk)
      simpa [ncells, show (k + 1) * 2 = k * 2 + 2 by omega, show (k + 1) * 2 + 1 = k * 2 + 1 + 2 by omega] using this
theorem ncells_one (xs : List Nd) : ∀ u ∈ ncells xs, u.oneCell' = true := by
  induction xs with
  | nil => intro u hu; simp [ncells] at hu
  | cons x r ih =>
    intro u hu
    simp only [ncells, List.mem_cons] at hu
    rcases hu with rfl | rfl | hu
    · rfl
    · rfl
    · exact ih u hu
theorem ncells_at (xs : List Nd) (j : Nat) (u : Value) (h : (ncells xs)[j]? = some u) : ∃ k, k < xs.length ∧ ((j = k * 2 ∧ u = .int .i64 (xs.getD k (0, 0)).1) ∨ (j = k * 2 + 1 ∧ u = .int .i64 (xs.getD k (0, 0)).2)) := by
  have hj : j < xs.length * 2 := by
    rw [← ncells_length]
    exact (List.getElem?_eq_some_iff.1 h).1
  have hk : j / 2 < xs.length := by omega
  obtain ⟨g1, g2⟩ := ncells_get xs (j / 2) hk
  refine ⟨j / 2, hk, ?_⟩
  by_cases hp : j % 2 = 0
  · left
    have e : j = j / 2 * 2 := by omega
    refine ⟨e, ?_⟩
    rw [e] at h; rw [h] at g1; simpa using g1
  · right
    have e : j = j / 2 * 2 + 1 := by omega
    refine ⟨e, ?_⟩
    rw [e] at h; rw [h] at g2; simpa using g2

/-- A slice that reads as nodes. -/
def RdN (w : World) (v : Value) (xs : List Nd) : Prop :=
  (v = .slice none 0 0 ∧ xs = []) ∨ (∃ a cap, v = .slice (some a) 0 cap ∧ xs = []) ∨
  ∃ g off cap, v = .slice (some ⟨g, off, none⟩) xs.length cap ∧ g < w.heap.size ∧ xs.length ≤ cap ∧
    ∀ k, k < xs.length → w.cell? ⟨g, off + k * 2, none⟩ = some (.int .i64 (xs.getD k (0, 0)).1) ∧ w.cell? ⟨g, off + k * 2 + 1, none⟩ = some (.int .i64 (xs.getD k (0, 0)).2)
theorem RdN.nil (w : World) : RdN w (.slice none 0 0) [] := .inl ⟨rfl, rfl⟩
theorem RdN.val {w : World} {v : Value} {xs : List Nd} (h : RdN w v xs) : ∃ p cap, v = .slice p xs.length cap := by
  rcases h with ⟨h1, h2⟩ | ⟨a, cap, h1, h2⟩ | ⟨g, off, cap, h1, _⟩
  · exact ⟨none, 0, by rw [h2]; exact h1⟩
  · exact ⟨some a, cap, by rw [h2]; exact h1⟩
  · exact ⟨_, cap, h1⟩
theorem RdN.keep {w w' : World} {v : Value} {xs : List Nd} (h : RdN w v xs) (hk : ∀ g, g < w.heap.size → v.ownBlock = some g → w'.heap[g]? = w.heap[g]?) (hs : w.heap.size ≤ w'.heap.size) : RdN w' v xs := by
  rcases h with h | h | ⟨g, off, cap, rfl, hg, hc, hr⟩
  · exact .inl h
  · exact .inr (.inl h)
  · refine .inr (.inr ⟨g, off, cap, rfl, Nat.lt_of_lt_of_le hg hs, hc, fun k hk' => ?_⟩)
    have e := hk g hg rfl
    rw [World.cell?_of_block (w := w) (a := ⟨g, off + k * 2, none⟩) e, World.cell?_of_block (w := w) (a := ⟨g, off + k * 2 + 1, none⟩) e]
    exact hr k hk'
theorem RdN.below {w w' : World} {v : Value} {xs : List Nd} {B : Nat} (h : RdN w v xs) (hb : Below B w w') (hB : w.heap.size ≤ B) : RdN w' v xs :=
  h.keep (fun g hg _ => hb.block g (Nat.lt_of_lt_of_le hg hB)) hb.size
theorem RdN.alloc {w : World} {v : Value} {xs : List Nd} (h : RdN w v xs) (o : Obj) : RdN (w.alloc o) v xs :=
  h.keep (fun g hg _ => Below.heap_alloc w o g hg) (by simp)
theorem RdN.drewN {w : World} {v : Value} {xs : List Nd} (h : RdN w v xs) (n : Nat) : RdN (w.drewN n) v xs := h.keep (fun _ _ _ => rfl) (Nat.le_refl _)
theorem below_drewN {B : Nat} {a w : World} (h : Below B a w) (n : Nat) : Below B a (w.drewN n) := ⟨h.os, h.tape, h.output, h.size, h.block⟩
theorem RdN.any {w w' : World} {v : Value} (h : RdN w v []) : RdN w' v [] := by
  rcases h with h | h | ⟨g, off, cap, rfl, _⟩
  · exact .inl h
  · exact .inr (.inl h)
  · exact .inr (.inl ⟨_, _, rfl, rfl⟩)
theorem RdN.ltE {w : World} {v : Value} {xs : List Nd} (h : RdN w v xs) : xs = [] ∨ ∀ g, v.ownBlock = some g → g < w.heap.size := by
  rcases h with h | ⟨_, _, _, h⟩ | ⟨g, off, cap, rfl, hg, _⟩
  · exact .inl h.2
  · exact .inl h
  · right; intro k hk; simp [Value.ownBlock] at hk; omega
/-- An element. -/
theorem RdN.at {w : World} {p : Option Addr} {n cap : Nat} {xs : List Nd} (h : RdN w (.slice p n cap) xs) {k : Nat} (hk : k < xs.length) :
    ∃ g off a c, p = some ⟨g, off, none⟩ ∧ xs.getD k (0, 0) = (a, c) ∧ g < w.heap.size ∧ w.cell? ⟨g, off + k * 2, none⟩ = some (.int .i64 a) ∧ w.cell? ⟨g, off + k * 2 + 1, none⟩ = some (.int .i64 c) := by
  rcases h with ⟨_, rfl⟩ | ⟨_, _, _, rfl⟩ | ⟨g, off, cap', hv, hg, _, hr⟩
  · simp at hk
  · simp at hk
  · simp only [Value.slice.injEq] at hv
    exact ⟨g, off, _, _, hv.1, rfl, hg, (hr k hk).1, (hr k hk).2⟩
theorem drop_at {α : Type} {d : α} (xs : List α) (k : Nat) (hk : k < xs.length) : xs.drop k = xs.getD k d :: xs.drop (k + 1) := by
  rw [List.drop_eq_getElem_cons hk]; simp [List.getD, List.getElem?_eq_getElem hk]
theorem take_at {α : Type} {d : α} (xs : List α) (k : Nat) (hk : k < xs.length) : xs.take (k + 1) = xs.take k ++ [xs.getD k d] := by
  rw [List.take_add_one, List.getElem?_eq_getElem hk]; simp [List.getD, List.getElem?_eq_getElem hk]
theorem getD_mem {α : Type} {d : α} (xs : List α) (k : Nat) (hk : k < xs.length) : xs.getD k d ∈ xs := by
  simp [List.getD, List.getElem?_eq_getElem hk]

theorem RdN.take {w : World} {g off n cap : Nat} {xs : List Nd} (h : RdN w (.slice (some ⟨g, off, none⟩) n cap) xs) (k : Nat) (hk : k ≤ n) : RdN w (.slice (some ⟨g, off, none⟩) k cap) (xs.take k) := by
  rcases h with ⟨h, _⟩ | ⟨a', cap', h, rfl⟩ | ⟨g', off', cap', hv, hg, hc, hr⟩
  · simp at h
  · simp only [Value.slice.injEq] at h
    obtain rfl : k = 0 := by omega
    exact .inr (.inl ⟨_, _, rfl, by simp⟩)
  · simp only [Value.slice.injEq, Option.some.injEq, Addr.mk.injEq] at hv
    obtain ⟨⟨rfl, rfl, _⟩, rfl, rfl⟩ := hv
    have e : (xs.take k).length = k := by simp; omega
    refine .inr (.inr ⟨g, off, cap, by rw [e], hg, by omega, fun j hj => ?_⟩)
    have e2 : (xs.take k).getD j (0, 0) = xs.getD j (0, 0) := by simp [List.getD, show j < k by omega]
    rw [e2]; exact hr j (by omega)
theorem RdN.drop {w : World} {g off n cap : Nat} {xs : List Nd} (h : RdN w (.slice (some ⟨g, off, none⟩) n cap) xs) (k : Nat) (hk : k ≤ n) : RdN w (.slice (some ⟨g, off + k * 2, none⟩) (n - k) (cap - k)) (xs.drop k) := by
  rcases h with ⟨h, _⟩ | ⟨a', cap', h, rfl⟩ | ⟨g', off', cap', hv, hg, hc, hr⟩
  · simp at h
  · simp only [Value.slice.injEq] at h
    obtain rfl : k = 0 := by omega
    obtain ⟨_, rfl, _⟩ := h
    exact .inr (.inl ⟨_, _, rfl, by simp⟩)
  · simp only [Value.slice.injEq, Option.some.injEq, Addr.mk.injEq] at hv
    obtain ⟨⟨rfl, rfl, _⟩, rfl, rfl⟩ := hv
    refine .inr (.inr ⟨g, off + k * 2, cap - k, by simp, hg, by simp; omega, fun j hj => ?_⟩)
    have e2 : (xs.drop k).getD j (0, 0) = xs.getD (k + j) (0, 0) := by simp [List.getD]
    simp at hj
    have := hr (k + j) (by omega)
    rw [e2, show off + k * 2 + j * 2 = off + (k + j) * 2 by omega]
    exact this
theorem RdN.none {w : World} {g off : Nat} {c : Nat} (hg : g < w.heap.size) : RdN w (.slice (some ⟨g, off, none⟩) 0 c) [] := .inr (.inr ⟨g, off, c, rfl, hg, Nat.zero_le _, fun k hk => by simp at hk⟩)
theorem RdN.len {w : World} {p : Option Addr} {n cap : Nat} {xs : List Nd} (h : RdN w (.slice p n cap) xs) : xs.length = n ∧ n ≤ cap := by
  rcases h with ⟨h, rfl⟩ | ⟨a', cap', h, rfl⟩ | ⟨g', off', cap', hv, hg, hc, hr⟩
  · simp only [Value.slice.injEq] at h; simp; omega
  · simp only [Value.slice.injEq] at h; simp; omega
  · simp only [Value.slice.injEq] at hv; omega

/-! What the call itself owns. -/
theorem ownsRow_mono {w : World} {B B' : Nat} {e : TypeId} {sz n : Nat} {v : Value} {cs : List Value} (h : w.ownsRow B e sz v n cs) (hB : B' ≤ B) : w.ownsRow B' e sz v n cs := by
  refine ⟨h.1, ?_⟩
  rcases h.2 with h2 | ⟨g, cap, cur, hv, hg, r⟩
  · exact .inl h2
  · exact .inr ⟨g, cap, cur, hv, Nat.le_trans hB hg, r⟩
theorem ownsRow_keep {w w' : World} {B : Nat} {e : TypeId} {sz n : Nat} {v : Value} {cs : List Value} (h : w.ownsRow B e sz v n cs) (hk : ∀ k, v.ownBlock = some k → w'.heap[k]? = w.heap[k]?) : w'.ownsRow B e sz v n cs := by
  refine ⟨h.1, ?_⟩
  rcases h.2 with h2 | ⟨g, cap, cur, rfl, hg, hh, r⟩
  · exact .inl h2
  · exact .inr ⟨g, cap, cur, rfl, hg, by rw [hk g rfl]; exact hh, r⟩
theorem grownBy_of_alloc {w w' : World} {o : Obj} {row : Option Nat} (h : (w.alloc o).grownBy w' row) : w.grownBy w' row :=
  ⟨h.os, h.tape, h.output, by have := h.size; simp at this; omega, fun k hk hr => (h.block k (by simp; omega) hr).trans (Below.heap_alloc w o k hk)⟩

theorem RdN.grown {w w' : World} {v : Value} {xs : List Nd} {row : Option Nat} (h : RdN w v xs) (hg : w.grownBy w' row) (hne : ∀ g, v.ownBlock = some g → some g ≠ row) : RdN w' v xs :=
  h.keep (fun g hlt hg' => hg.block g hlt (hne g hg')) hg.size
theorem ne_row {row : Option Nat} {B g : Nat} (h : ∀ k, row = some k → B ≤ k) (hg : g < B) : some g ≠ row := fun e => by have := h g e.symm; omega
theorem cell_grown {w w' : World} {row : Option Nat} {B g j : Nat} {u : Value} (hc : w.cell? ⟨g, j, none⟩ = some u) (hg : w.grownBy w' row) (h : ∀ k, row = some k → B ≤ k) (hlt : g < B) : w'.cell? ⟨g, j, none⟩ = some u :=
  hg.cell hc (ne_row h hlt)
theorem below_grown {w w' : World} {row : Option Nat} {B : Nat} (hg : w.grownBy w' row) (hB : B ≤ w.heap.size) (h : ∀ k, row = some k → B ≤ k) : Below B w w' := (Below.refl _ _).grown hg hB h

/-- Nodes of the call's own. -/
def OwnN (w : World) (B : Nat) (v : Value) (xs : List Nd) : Prop := w.ownsRow B 100 2 v xs.length (ncells xs)
theorem OwnN.nil (w : World) (B : Nat) : OwnN w B (.slice none 0 0) [] := World.ownsRow_nil w B _ _
theorem OwnN.lt {w : World} {B : Nat} {v : Value} {xs : List Nd} (h : OwnN w B v xs) : ∀ k, v.ownBlock = some k → B ≤ k := fun k hk => (World.ownsRow.lt h k hk).1
theorem OwnN.lt' {w : World} {B : Nat} {v : Value} {xs : List Nd} (h : OwnN w B v xs) : ∀ k, v.ownBlock = some k → k < w.heap.size := fun k hk => (World.ownsRow.lt h k hk).2
theorem OwnN.mono {w : World} {B B' : Nat} {v : Value} {xs : List Nd} (h : OwnN w B v xs) (hB : B' ≤ B) : OwnN w B' v xs := ownsRow_mono h hB
theorem OwnN.keep {w w' : World} {B : Nat} {v : Value} {xs : List Nd} (h : OwnN w B v xs) (hk : ∀ k, v.ownBlock = some k → w'.heap[k]? = w.heap[k]?) : OwnN w' B v xs := ownsRow_keep h hk
theorem OwnN.below {w w' : World} {B B' : Nat} {v : Value} {xs : List Nd} (h : OwnN w B v xs) (hb : Below B' w w') (hB : w.heap.size ≤ B') : OwnN w' B v xs :=
  h.keep fun k hk => hb.block k (Nat.lt_of_lt_of_le (h.lt' k hk) hB)
theorem OwnN.alloc {w : World} {B : Nat} {v : Value} {xs : List Nd} (h : OwnN w B v xs) (o : Obj) : OwnN (w.alloc o) B v xs :=
  h.keep fun k hk => Below.heap_alloc w o k (h.lt' k hk)
theorem OwnN.drewN {w : World} {B : Nat} {v : Value} {xs : List Nd} (h : OwnN w B v xs) (n : Nat) : OwnN (w.drewN n) B v xs := h.keep fun _ _ => rfl
/-- Its form, and its cells. -/
theorem OwnN.shape {w : World} {B : Nat} {v : Value} {xs : List Nd} (h : OwnN w B v xs) :
    (v = .slice none 0 0 ∧ xs = []) ∨ ∃ g cap, v = .slice (some ⟨g, 0, none⟩) xs.length cap ∧ B ≤ g ∧ g < w.heap.size ∧ xs.length ≤ cap ∧
      ∀ k, k < xs.length → w.cell? ⟨g, k * 2, none⟩ = some (.int .i64 (xs.getD k (0, 0)).1) ∧ w.cell? ⟨g, k * 2 + 1, none⟩ = some (.int .i64 (xs.getD k (0, 0)).2) := by
  rcases h.2 with ⟨h1, h2⟩ | ⟨g, cap, cur, hv, hg, hh, h3, h4, h5, h6⟩
  · exact .inl ⟨h1, List.eq_nil_of_length_eq_zero h2⟩
  · refine .inr ⟨g, cap, hv, hg, (Array.getElem?_eq_some_iff.1 hh).1, h3, fun k hk => ?_⟩
    subst hv
    have hcell : ∀ j, j < xs.length * 2 → w.cell? ⟨g, j, none⟩ = (ncells xs)[j]? := fun j hj => World.ownsRow.cellAt h j hj
    rw [hcell (k * 2) (by omega), hcell (k * 2 + 1) (by omega)]
    exact ncells_get xs k hk
theorem OwnN.rd {w : World} {B : Nat} {v : Value} {xs : List Nd} (h : OwnN w B v xs) : RdN w v xs := by
  rcases h.shape with h | ⟨g, cap, hv, _, hg, hc, hr⟩
  · exact .inl h
  · exact .inr (.inr ⟨g, 0, cap, hv, hg, hc, fun k hk => by simpa using hr k hk⟩)
theorem OwnN.val {w : World} {B : Nat} {v : Value} {xs : List Nd} (h : OwnN w B v xs) : ∃ p cap, v = .slice p xs.length cap := h.rd.val
theorem OwnN.grown {w w' : World} {B : Nat} {v : Value} {xs : List Nd} {row : Option Nat} (h : OwnN w B v xs) (hg : w.grownBy w' row) (hne : ∀ k, v.ownBlock = some k → some k ≠ row) : OwnN w' B v xs :=
  h.keep fun k hk => hg.block k (h.lt' k hk) (hne k hk)

theorem ncells_set (xs : List Nd) (k : Nat) (c : Int) : ncells (xs.set k ((xs.getD k (0, 0)).1, c)) = (ncells xs).set (k * 2 + 1) (.int .i64 c) := by
  induction xs generalizing k with
  | nil => simp [ncells]
  | cons x r ih =>
    cases k with
    | zero => simp [ncells]
    | succ k =>
      have := ih k
      simp only [List.set_cons_succ, ncells, List.getD_cons_succ, show (k + 1) * 2 + 1 = k * 2 + 1 + 1 + 1 by omega]
      rw [this]
/-- A weight is stored. -/
theorem OwnN.store {w : World} {B g n cap : Nat} {xs : List Nd} (h : OwnN w B (.slice (some ⟨g, 0, none⟩) n cap) xs) (k : Nat) (c : Int) : OwnN (w.setCell ⟨g, k * 2 + 1, none⟩ (.int .i64 c)) B (.slice (some ⟨g, 0, none⟩) n cap) (xs.set k ((xs.getD k (0, 0)).1, c)) := by
  unfold OwnN
  rw [ncells_set, List.length_set]
  have hn : xs.length = n := h.rd.len.1
  subst hn
  exact (World.ownsRow.stored h (k * 2 + 1) (.int .i64 c)).1

theorem Try.infoNode : (Try.prog.info? 100).map (fun i => (i.zero, i.size, i.bytes)) = some (some (.agg #[.int .i64 0, .int .i64 0]), 2, 16) := by kernel_rfl

section
variable {ops : Array Oper} {rest : List Oper} {o : Oper} {a : Act} {Q : Exit → Act → World → Prop} {w wr : World} {v : Value} {xs : List Nd} {B T : Nat}
/-- append(s, x): one node. -/
theorem appendN {b c : Int} (s x : Operand)
    (hown : OwnN wr B v xs) (hlen : xs.length < 2097152) (hBr : B ≤ wr.heap.size)
    (hw : w = wr.alloc (.cells #[.int .i64 b, .int .i64 c] T))
    (hgd : o.guard = none) (ho : o.op = .call { callee := .builtin .append, args := #[s, x], argTypes := #[33, 33] })
    (hv : a.eval s = v) (hx : a.eval x = .slice (some ⟨wr.heap.size, 0, none⟩) 1 1)
    (h : ∀ v' w', OwnN w' B v' (xs ++ [(b, c)]) → wr.grownBy w' v.ownBlock → v' ≠ .slice none 0 0 → wpList Try.prog ops Q rest (a.put o.dst v') w') :
    wpList Try.prog ops Q (o :: rest) a w := by
  obtain ⟨i0, hi, hz0, hz1, hz2⟩ := info_parts Try.infoNode
  subst hw
  refine wpList_append_own _ hgd s x 33 ho B 100 i0 (.agg #[.int .i64 0, .int .i64 0]) 2 16 Try.underlying33 hi hz0 hz1 hz2 rfl (by decide) v xs.length (ncells xs) hv (World.ownsRow.alloc hown _) ⟨wr.heap.size, 0, none⟩ 1 1 (ncells [(b, c)]) hx rfl ?_ (ncells_one _) ?_ ?_ ?_ ?_
  · intro j u hj
    have hadd : (⟨wr.heap.size, 0, none⟩ : Addr).add j = ⟨wr.heap.size, j, none⟩ := by unfold Addr.add; split <;> simp_all
    rw [hadd, World.cell?_alloc_at _ _ _ _ rfl]
    match j, hj with
    | 0, hj => simpa [ncells] using hj
    | 1, hj => simpa [ncells] using hj
    | j + 2, hj => simp [ncells] at hj
  · unfold maxLen; omega
  · omega
  · simp; omega
  · intro v' w' h1 h2 h3
    refine h v' w' ?_ (grownBy_of_alloc h2) (fun e => by have := h3.1 e; simp at this)
    unfold OwnN
    rw [ncells_append]
    simpa using h1
/-- append(s, y...): the nodes of another slice. -/
theorem appendsN {y : Value} {ys : List Nd} (s x : Operand)
    (hown : OwnN w B v xs) (hy : RdN w y ys) (hlen : xs.length + ys.length < 2097152) (hBr : B ≤ w.heap.size)
    (hgd : o.guard = none) (ho : o.op = .call { callee := .builtin .append, args := #[s, x], argTypes := #[33, 33] })
    (hv : a.eval s = v) (hx : a.eval x = y)
    (h : ∀ v' w', OwnN w' B v' (xs ++ ys) → w.grownBy w' v.ownBlock → wpList Try.prog ops Q rest (a.put o.dst v') w') :
    wpList Try.prog ops Q (o :: rest) a w := by
  obtain ⟨i0, hi, hz0, hz1, hz2⟩ := info_parts Try.infoNode
  rcases hy with ⟨rfl, rfl⟩ | ⟨ad, cap, rfl, rfl⟩ | ⟨g, off, cap, rfl, hg, hc, hr⟩
  · refine wpList_append_own_none hgd s x 33 ho B 100 i0 2 Try.underlying33 hi v xs.length (ncells xs) hv hown hx ?_
    exact h v w (by simpa using hown) ⟨rfl, rfl, rfl, Nat.le_refl _, fun _ _ _ => rfl⟩
  · refine wpList_append_own _ hgd s x 33 ho B 100 i0 (.agg #[.int .i64 0, .int .i64 0]) 2 16 Try.underlying33 hi hz0 hz1 hz2 rfl (by decide) v xs.length (ncells xs) hv hown ad 0 cap [] hx rfl (fun j u hj => by simp at hj) (fun u hu => by cases hu) ?_ ?_ hBr ?_
    · unfold maxLen; omega
    · omega
    · intro v' w' h1 h2 _
      refine h v' w' ?_ h2
      unfold OwnN
      simpa using h1
  · refine wpList_append_own _ hgd s x 33 ho B 100 i0 (.agg #[.int .i64 0, .int .i64 0]) 2 16 Try.underlying33 hi hz0 hz1 hz2 rfl (by decide) v xs.length (ncells xs) hv hown ⟨g, off, none⟩ ys.length cap (ncells ys) hx (ncells_length ys) ?_ (ncells_one _) ?_ ?_ hBr ?_
    · intro j u hj
      have hadd : (⟨g, off, none⟩ : Addr).add j = ⟨g, off + j, none⟩ := by unfold Addr.add; split <;> simp_all
      rw [hadd]
      obtain ⟨k, hk, ⟨rfl, rfl⟩ | ⟨rfl, rfl⟩⟩ := ncells_at ys j u hj
      · exact (hr k hk).1
      · have := (hr k hk).2; rwa [Nat.add_assoc] at this
    · unfold maxLen; omega
    · omega
    · intro v' w' h1 h2 _
      refine h v' w' ?_ h2
      unfold OwnN
      rw [ncells_append, List.length_append]
      exact h1
end
end Go.Proofs.Ytejoecoenehooaa
