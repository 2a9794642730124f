/- Texts laid together. -/
import Derived.Test.YtdnlejboijkcfaaGreatDoorRows
import Derived.WalkKit
import Derived.WalkSpells
import Derived.WalkLawsBesides
import Derived.Laws.AppendOwnNone
import Derived.Deep.QuietTactic
import Derived.BigQuiet
import Derived.Deep.DeepCutAuto
import Derived.Deep.CutBlock
import Derived.Laws.StructEq
import Derived.Laws.MathBits
import Derived.Deep.RegionHeld3
import Derived.ProofKit
import Derived.OpenShut
import Derived.Deep.Fields
import Derived.Deep.Slices
/- Texts laid together: Nd, NdMath, NdMath2, NdRef1, NdRef2, NdRef3, Twig, Store, Store2, Open, OpenRecs, OpenNodes, OpenAsked. -/
/- Memory: slices of nodes, read and appended to. -/
namespace Go.Proofs.YtdnlejboijkcfaaGreatDoor
theorem nlr {n : Nat} : n ≤ n := Nat.le_refl n
set_option maxHeartbeats 8000000
open Go.RowKit
theorem hid {p : Prop} (h : p) : Hid p := h
def Blk (w : World) (g : Nat) (arr : Array Value) (T : TypeId) : Prop := w.heap[g]? = some (.cells arr T (0, 0))
theorem Blk.new (w : World) (arr : Array Value) (T : TypeId) : Blk (w.alloc (.cells arr T)) w.heap.size arr T := heap_alloc_new w _
theorem Blk.lt {w : World} {g : Nat} {arr : Array Value} {T : TypeId} (h : Blk w g arr T) : g < w.heap.size := (Array.getElem?_eq_some_iff.1 h).1
theorem Blk.keep {w w' : World} {g : Nat} {arr : Array Value} {T : TypeId} (h : Blk w g arr T) (e : w'.heap[g]? = w.heap[g]?) : Blk w' g arr T := e.trans h
theorem Blk.alloc {w : World} {g : Nat} {arr : Array Value} {T : TypeId} (h : Blk w g arr T) (o : Obj) : Blk (w.alloc o) g arr T := h.keep (Below.heap_alloc w o g h.lt)
theorem Blk.below {w w' : World} {g B : Nat} {arr : Array Value} {T : TypeId} (h : Blk w g arr T) (hb : Below B w w') (hB : w.heap.size ≤ B) : Blk w' g arr T := h.keep (hb.block g (Nat.lt_of_lt_of_le h.lt hB))
theorem Blk.below' {w w' : World} {g B : Nat} {arr : Array Value} {T : TypeId} (h : Blk w g arr T) (hb : Below B w w') (hB : g < B) : Blk w' g arr T := h.keep (hb.block g hB)
theorem Blk.grown {w w' : World} {g B : Nat} {arr : Array Value} {T : TypeId} {row : Option Nat} (h : Blk w g arr T) (hg : w.grownBy w' row) (hr : ∀ k, row = some k → B ≤ k) (hB : g < B) : Blk w' g arr T :=
  h.keep (hg.block g h.lt fun e => by have := hr g e.symm; omega)
theorem Blk.drewN {w : World} {g : Nat} {arr : Array Value} {T : TypeId} (h : Blk w g arr T) (n : Nat) : Blk (w.drewN n) g arr T := h
theorem Blk.cell {w : World} {g : Nat} {arr : Array Value} {T : TypeId} (h : Blk w g arr T) (j : Nat) : w.cell? ⟨g, j, none⟩ = arr[j]? := cell_of_row w g j arr T (0, 0) h
theorem Blk.free {w : World} {g : Nat} {arr : Array Value} {T : TypeId} (h : Blk w g arr T) (j : Nat) : w.frozen? ⟨g, j, none⟩ = false := by
  simp only [World.frozen?]
  rw [show w.heap[g]? = some (.cells arr T (0, 0)) from h]
  simp
theorem Blk.set {w : World} {g : Nat} {arr : Array Value} {T : TypeId} (h : Blk w g arr T) (j : Nat) (v : Value) : Blk (w.setCell ⟨g, j, none⟩ v) g (arr.setIfInBounds j v) T := heap_setCell_same w g j arr T v h
theorem Blk.set_other {w : World} {g g' : Nat} {arr : Array Value} {T : TypeId} (h : Blk w g arr T) (j : Nat) (v : Value) (hne : g ≠ g') : Blk (w.setCell ⟨g', j, none⟩ v) g arr T := h.keep (Below.heap_setCell w ⟨g', j, none⟩ v g hne)
abbrev Nd := Int × Int
def ncells : List Nd → List Value
  | [] => []
  | x :: r => .int .i64 x.1 :: .int .i64 x.2 :: ncells r
theorem ncells_length (xs : List Nd) : (ncells xs).length = xs.length * 2 := by
  induction xs with
  | nil => rfl
  | cons x r ih => simp only [ncells, List.length_cons, ih]; omega
theorem ncells_append (xs ys : List Nd) : ncells (xs ++ ys) = ncells xs ++ ncells ys := by
  induction xs with
  | nil => rfl
  | cons x r ih => simp [ncells, ih]
theorem ncells_get (xs : List Nd) (k : Nat) (hk : k < xs.length) : (ncells xs)[k * 2]? = some (.int .i64 (xs.getD k (0, 0)).1) ∧ (ncells xs)[k * 2 + 1]? = some (.int .i64 (xs.getD k (0, 0)).2) := by
  induction xs generalizing k with
  | nil => simp at hk
  | cons x r ih =>
    cases k with
    | zero => simp [ncells]
    | succ k =>
      have := ih k (by simpa using hk)
      simpa [ncells, show (k + 1) * 2 = k * 2 + 2 by omega, show (k + 1) * 2 + 1 = k * 2 + 1 + 2 by omega] using this
theorem ncells_one (xs : List Nd) : ∀ u ∈ ncells xs, u.oneCell' = true := by
  induction xs with
  | nil => intro u hu; simp [ncells] at hu
  | cons x r ih =>
    intro u hu
    simp only [ncells, List.mem_cons] at hu
    rcases hu with rfl | rfl | hu
    · rfl
    · rfl
    · exact ih u hu
theorem ncells_at (xs : List Nd) (j : Nat) (u : Value) (h : (ncells xs)[j]? = some u) : ∃ k, k < xs.length ∧ ((j = k * 2 ∧ u = .int .i64 (xs.getD k (0, 0)).1) ∨ (j = k * 2 + 1 ∧ u = .int .i64 (xs.getD k (0, 0)).2)) := by
  have hj : j < xs.length * 2 := by
    rw [← ncells_length]
    exact (List.getElem?_eq_some_iff.1 h).1
  have hk : j / 2 < xs.length := by omega
  obtain ⟨g1, g2⟩ := ncells_get xs (j / 2) hk
  refine ⟨j / 2, hk, ?_⟩
  by_cases hp : j % 2 = 0
  · left
    have e : j = j / 2 * 2 := by omega
    refine ⟨e, ?_⟩
    rw [e] at h; rw [h] at g1; simpa using g1
  · right
    have e : j = j / 2 * 2 + 1 := by omega
    refine ⟨e, ?_⟩
    rw [e] at h; rw [h] at g2; simpa using g2
def RdN (w : World) (v : Value) (xs : List Nd) : Prop :=
  (v = .slice none 0 0 ∧ xs = []) ∨ (∃ a cap, v = .slice (some a) 0 cap ∧ xs = []) ∨
  ∃ g off cap, v = .slice (some ⟨g, off, none⟩) xs.length cap ∧ g < w.heap.size ∧ xs.length ≤ cap ∧
    ∀ k, k < xs.length → w.cell? ⟨g, off + k * 2, none⟩ = some (.int .i64 (xs.getD k (0, 0)).1) ∧ w.cell? ⟨g, off + k * 2 + 1, none⟩ = some (.int .i64 (xs.getD k (0, 0)).2)
theorem RdN.nil (w : World) : RdN w (.slice none 0 0) [] := .inl ⟨rfl, rfl⟩
theorem RdN.val {w : World} {v : Value} {xs : List Nd} (h : RdN w v xs) : ∃ p cap, v = .slice p xs.length cap := by
  rcases h with ⟨h1, h2⟩ | ⟨a, cap, h1, h2⟩ | ⟨g, off, cap, h1, _⟩
  · exact ⟨none, 0, by rw [h2]; exact h1⟩
  · exact ⟨some a, cap, by rw [h2]; exact h1⟩
  · exact ⟨_, cap, h1⟩
theorem RdN.keep {w w' : World} {v : Value} {xs : List Nd} (h : RdN w v xs) (hk : ∀ g, g < w.heap.size → v.ownBlock = some g → w'.heap[g]? = w.heap[g]?) (hs : w.heap.size ≤ w'.heap.size) : RdN w' v xs := by
  rcases h with h | h | ⟨g, off, cap, rfl, hg, hc, hr⟩
  · exact .inl h
  · exact .inr (.inl h)
  · refine .inr (.inr ⟨g, off, cap, rfl, Nat.lt_of_lt_of_le hg hs, hc, fun k hk' => ?_⟩)
    have e := hk g hg rfl
    rw [World.cell?_of_block (w := w) (a := ⟨g, off + k * 2, none⟩) e, World.cell?_of_block (w := w) (a := ⟨g, off + k * 2 + 1, none⟩) e]
    exact hr k hk'
theorem RdN.below {w w' : World} {v : Value} {xs : List Nd} {B : Nat} (h : RdN w v xs) (hb : Below B w w') (hB : w.heap.size ≤ B) : RdN w' v xs :=
  h.keep (fun g hg _ => hb.block g (Nat.lt_of_lt_of_le hg hB)) hb.size
theorem RdN.alloc {w : World} {v : Value} {xs : List Nd} (h : RdN w v xs) (o : Obj) : RdN (w.alloc o) v xs :=
  h.keep (fun g hg _ => Below.heap_alloc w o g hg) (by simp)
theorem below_drewN {B : Nat} {a w : World} (h : Below B a w) (n : Nat) : Below B a (w.drewN n) := ⟨h.os, h.tape, h.output, h.size, h.block⟩
theorem RdN.ltE {w : World} {v : Value} {xs : List Nd} (h : RdN w v xs) : xs = [] ∨ ∀ g, v.ownBlock = some g → g < w.heap.size := by
  rcases h with h | ⟨_, _, _, h⟩ | ⟨g, off, cap, rfl, hg, _⟩
  · exact .inl h.2
  · exact .inl h
  · right; intro k hk; simp [Value.ownBlock] at hk; omega
theorem RdN.at {w : World} {p : Option Addr} {n cap : Nat} {xs : List Nd} (h : RdN w (.slice p n cap) xs) {k : Nat} (hk : k < xs.length) :
    ∃ g off a c, p = some ⟨g, off, none⟩ ∧ xs.getD k (0, 0) = (a, c) ∧ g < w.heap.size ∧ w.cell? ⟨g, off + k * 2, none⟩ = some (.int .i64 a) ∧ w.cell? ⟨g, off + k * 2 + 1, none⟩ = some (.int .i64 c) := by
  rcases h with ⟨_, rfl⟩ | ⟨_, _, _, rfl⟩ | ⟨g, off, cap', hv, hg, _, hr⟩
  · simp at hk
  · simp at hk
  · simp only [Value.slice.injEq] at hv
    exact ⟨g, off, _, _, hv.1, rfl, hg, (hr k hk).1, (hr k hk).2⟩
theorem drop_at {α : Type} {d : α} (xs : List α) (k : Nat) (hk : k < xs.length) : xs.drop k = xs.getD k d :: xs.drop (k + 1) := by
  rw [List.drop_eq_getElem_cons hk]; simp [List.getD, List.getElem?_eq_getElem hk]
theorem take_at {α : Type} {d : α} (xs : List α) (k : Nat) (hk : k < xs.length) : xs.take (k + 1) = xs.take k ++ [xs.getD k d] := by
  rw [List.take_add_one, List.getElem?_eq_getElem hk]; simp [List.getD, List.getElem?_eq_getElem hk]
theorem getD_mem {α : Type} {d : α} (xs : List α) (k : Nat) (hk : k < xs.length) : xs.getD k d ∈ xs := by
  simp [List.getD, List.getElem?_eq_getElem hk]
theorem RdN.take {w : World} {g off n cap : Nat} {xs : List Nd} (h : RdN w (.slice (some ⟨g, off, none⟩) n cap) xs) (k : Nat) (hk : k ≤ n) : RdN w (.slice (some ⟨g, off, none⟩) k cap) (xs.take k) := by
  rcases h with ⟨h, _⟩ | ⟨a', cap', h, rfl⟩ | ⟨g', off', cap', hv, hg, hc, hr⟩
  · simp at h
  · simp only [Value.slice.injEq] at h
    obtain rfl : k = 0 := by omega
    exact .inr (.inl ⟨_, _, rfl, by simp⟩)
  · simp only [Value.slice.injEq, Option.some.injEq, Addr.mk.injEq] at hv
    obtain ⟨⟨rfl, rfl, _⟩, rfl, rfl⟩ := hv
    have e : (xs.take k).length = k := by simp; omega
    refine .inr (.inr ⟨g, off, cap, by rw [e], hg, by omega, fun j hj => ?_⟩)
    have e2 : (xs.take k).getD j (0, 0) = xs.getD j (0, 0) := by simp [List.getD, show j < k by omega]
    rw [e2]; exact hr j (by omega)
theorem RdN.drop {w : World} {g off n cap : Nat} {xs : List Nd} (h : RdN w (.slice (some ⟨g, off, none⟩) n cap) xs) (k : Nat) (hk : k ≤ n) : RdN w (.slice (some ⟨g, off + k * 2, none⟩) (n - k) (cap - k)) (xs.drop k) := by
  rcases h with ⟨h, _⟩ | ⟨a', cap', h, rfl⟩ | ⟨g', off', cap', hv, hg, hc, hr⟩
  · simp at h
  · simp only [Value.slice.injEq] at h
    obtain rfl : k = 0 := by omega
    obtain ⟨_, rfl, _⟩ := h
    exact .inr (.inl ⟨_, _, rfl, by simp⟩)
  · simp only [Value.slice.injEq, Option.some.injEq, Addr.mk.injEq] at hv
    obtain ⟨⟨rfl, rfl, _⟩, rfl, rfl⟩ := hv
    refine .inr (.inr ⟨g, off + k * 2, cap - k, by simp, hg, by simp; omega, fun j hj => ?_⟩)
    have e2 : (xs.drop k).getD j (0, 0) = xs.getD (k + j) (0, 0) := by simp [List.getD]
    simp at hj
    have := hr (k + j) (by omega)
    rw [e2, show off + k * 2 + j * 2 = off + (k + j) * 2 by omega]
    exact this
theorem RdN.none {w : World} {g off : Nat} {c : Nat} (hg : g < w.heap.size) : RdN w (.slice (some ⟨g, off, none⟩) 0 c) [] := .inr (.inr ⟨g, off, c, rfl, hg, Nat.zero_le _, fun k hk => by simp at hk⟩)
theorem RdN.len {w : World} {p : Option Addr} {n cap : Nat} {xs : List Nd} (h : RdN w (.slice p n cap) xs) : xs.length = n ∧ n ≤ cap := by
  rcases h with ⟨h, rfl⟩ | ⟨a', cap', h, rfl⟩ | ⟨g', off', cap', hv, hg, hc, hr⟩
  · simp only [Value.slice.injEq] at h; simp; omega
  · simp only [Value.slice.injEq] at h; simp; omega
  · simp only [Value.slice.injEq] at hv; omega
theorem ownsRow_mono {w : World} {B B' : Nat} {e : TypeId} {sz n : Nat} {v : Value} {cs : List Value} (h : w.ownsRow B e sz v n cs) (hB : B' ≤ B) : w.ownsRow B' e sz v n cs := by
  refine ⟨h.1, ?_⟩
  rcases h.2 with h2 | ⟨g, cap, cur, hv, hg, r⟩
  · exact .inl h2
  · exact .inr ⟨g, cap, cur, hv, Nat.le_trans hB hg, r⟩
theorem ownsRow_keep {w w' : World} {B : Nat} {e : TypeId} {sz n : Nat} {v : Value} {cs : List Value} (h : w.ownsRow B e sz v n cs) (hk : ∀ k, v.ownBlock = some k → w'.heap[k]? = w.heap[k]?) : w'.ownsRow B e sz v n cs := by
  refine ⟨h.1, ?_⟩
  rcases h.2 with h2 | ⟨g, cap, cur, rfl, hg, hh, r⟩
  · exact .inl h2
  · exact .inr ⟨g, cap, cur, rfl, hg, by rw [hk g rfl]; exact hh, r⟩
theorem grownBy_of_alloc {w w' : World} {o : Obj} {row : Option Nat} (h : (w.alloc o).grownBy w' row) : w.grownBy w' row :=
  ⟨h.os, h.tape, h.output, by have := h.size; simp at this; omega, fun k hk hr => (h.block k (by simp; omega) hr).trans (Below.heap_alloc w o k hk)⟩
theorem below_grown {w w' : World} {row : Option Nat} {B : Nat} (hg : w.grownBy w' row) (hB : B ≤ w.heap.size) (h : ∀ k, row = some k → B ≤ k) : Below B w w' := (Below.refl _ _).grown hg hB h
def OwnN (w : World) (B : Nat) (v : Value) (xs : List Nd) : Prop := w.ownsRow B 116 2 v xs.length (ncells xs)
theorem OwnN.nil (w : World) (B : Nat) : OwnN w B (.slice none 0 0) [] := World.ownsRow_nil w B _ _
theorem OwnN.lt {w : World} {B : Nat} {v : Value} {xs : List Nd} (h : OwnN w B v xs) : ∀ k, v.ownBlock = some k → B ≤ k := fun k hk => (World.ownsRow.lt h k hk).1
theorem OwnN.lt' {w : World} {B : Nat} {v : Value} {xs : List Nd} (h : OwnN w B v xs) : ∀ k, v.ownBlock = some k → k < w.heap.size := fun k hk => (World.ownsRow.lt h k hk).2
theorem OwnN.mono {w : World} {B B' : Nat} {v : Value} {xs : List Nd} (h : OwnN w B v xs) (hB : B' ≤ B) : OwnN w B' v xs := ownsRow_mono h hB
theorem OwnN.keep {w w' : World} {B : Nat} {v : Value} {xs : List Nd} (h : OwnN w B v xs) (hk : ∀ k, v.ownBlock = some k → w'.heap[k]? = w.heap[k]?) : OwnN w' B v xs := ownsRow_keep h hk
theorem OwnN.below {w w' : World} {B B' : Nat} {v : Value} {xs : List Nd} (h : OwnN w B v xs) (hb : Below B' w w') (hB : w.heap.size ≤ B') : OwnN w' B v xs :=
  h.keep fun k hk => hb.block k (Nat.lt_of_lt_of_le (h.lt' k hk) hB)
theorem OwnN.alloc {w : World} {B : Nat} {v : Value} {xs : List Nd} (h : OwnN w B v xs) (o : Obj) : OwnN (w.alloc o) B v xs :=
  h.keep fun k hk => Below.heap_alloc w o k (h.lt' k hk)
theorem OwnN.drewN {w : World} {B : Nat} {v : Value} {xs : List Nd} (h : OwnN w B v xs) (n : Nat) : OwnN (w.drewN n) B v xs := h.keep fun _ _ => rfl
theorem OwnN.shape {w : World} {B : Nat} {v : Value} {xs : List Nd} (h : OwnN w B v xs) :
    (v = .slice none 0 0 ∧ xs = []) ∨ ∃ g cap, v = .slice (some ⟨g, 0, none⟩) xs.length cap ∧ B ≤ g ∧ g < w.heap.size ∧ xs.length ≤ cap ∧
      ∀ k, k < xs.length → w.cell? ⟨g, k * 2, none⟩ = some (.int .i64 (xs.getD k (0, 0)).1) ∧ w.cell? ⟨g, k * 2 + 1, none⟩ = some (.int .i64 (xs.getD k (0, 0)).2) := by
  rcases h.2 with ⟨h1, h2⟩ | ⟨g, cap, cur, hv, hg, hh, h3, h4, h5, h6⟩
  · exact .inl ⟨h1, List.eq_nil_of_length_eq_zero h2⟩
  · refine .inr ⟨g, cap, hv, hg, (Array.getElem?_eq_some_iff.1 hh).1, h3, fun k hk => ?_⟩
    subst hv
    have hcell : ∀ j, j < xs.length * 2 → w.cell? ⟨g, j, none⟩ = (ncells xs)[j]? := fun j hj => World.ownsRow.cellAt h j hj
    rw [hcell (k * 2) (by omega), hcell (k * 2 + 1) (by omega)]
    exact ncells_get xs k hk
theorem OwnN.rd {w : World} {B : Nat} {v : Value} {xs : List Nd} (h : OwnN w B v xs) : RdN w v xs := by
  rcases h.shape with h | ⟨g, cap, hv, _, hg, hc, hr⟩
  · exact .inl h
  · exact .inr (.inr ⟨g, 0, cap, hv, hg, hc, fun k hk => by simpa using hr k hk⟩)
theorem OwnN.val {w : World} {B : Nat} {v : Value} {xs : List Nd} (h : OwnN w B v xs) : ∃ p cap, v = .slice p xs.length cap := h.rd.val
theorem ncells_set (xs : List Nd) (k : Nat) (c : Int) : ncells (xs.set k ((xs.getD k (0, 0)).1, c)) = (ncells xs).set (k * 2 + 1) (.int .i64 c) := by
  induction xs generalizing k with
  | nil => simp [ncells]
  | cons x r ih =>
    cases k with
    | zero => simp [ncells]
    | succ k =>
      have := ih k
      simp only [List.set_cons_succ, ncells, List.getD_cons_succ, show (k + 1) * 2 + 1 = k * 2 + 1 + 1 + 1 by omega]
      rw [this]
theorem OwnN.store {w : World} {B g n cap : Nat} {xs : List Nd} (h : OwnN w B (.slice (some ⟨g, 0, none⟩) n cap) xs) (k : Nat) (c : Int) : OwnN (w.setCell ⟨g, k * 2 + 1, none⟩ (.int .i64 c)) B (.slice (some ⟨g, 0, none⟩) n cap) (xs.set k ((xs.getD k (0, 0)).1, c)) := by
  unfold OwnN
  rw [ncells_set, List.length_set]
  have hn : xs.length = n := h.rd.len.1
  subst hn
  exact (World.ownsRow.stored h (k * 2 + 1) (.int .i64 c)).1
theorem Tryz.infoNode : (Tryz.prog.info? 116).map (fun i => (i.zero, i.size, i.bytes)) = some (some (.agg #[.int .i64 0, .int .i64 0]), 2, 16) := by kernel_rfl
section
variable {ops : Array Oper} {rest : List Oper} {o : Oper} {a : Act} {Q : Exit → Act → World → Prop} {w wr : World} {v : Value} {xs : List Nd} {B T : Nat}
theorem appendN {b c : Int} (s x : Operand)
    (hown : OwnN wr B v xs) (hlen : xs.length < 16777216) (hBr : B ≤ wr.heap.size)
    (hw : w = wr.alloc (.cells #[.int .i64 b, .int .i64 c] T))
    (hgd : o.guard = none) (ho : o.op = .call { callee := .builtin .append, args := #[s, x], argTypes := #[113, 113] })
    (hv : a.eval s = v) (hx : a.eval x = .slice (some ⟨wr.heap.size, 0, none⟩) 1 1)
    (h : ∀ v' w', OwnN w' B v' (xs ++ [(b, c)]) → wr.grownBy w' v.ownBlock → v' ≠ .slice none 0 0 → wpList Tryz.prog ops Q rest (a.put o.dst v') w') :
    wpList Tryz.prog ops Q (o :: rest) a w := by
  obtain ⟨i0, hi, hz0, hz1, hz2⟩ := info_parts Tryz.infoNode
  subst hw
  refine wpList_append_own _ hgd s x 113 ho B 116 i0 (.agg #[.int .i64 0, .int .i64 0]) 2 16 Tryz.underlying113 hi hz0 hz1 hz2 rfl (by decide) v xs.length (ncells xs) hv (World.ownsRow.alloc hown _) ⟨wr.heap.size, 0, none⟩ 1 1 (ncells [(b, c)]) hx rfl ?_ (ncells_one _) ?_ ?_ ?_ ?_
  · intro j u hj
    have hadd : (⟨wr.heap.size, 0, none⟩ : Addr).add j = ⟨wr.heap.size, j, none⟩ := by unfold Addr.add; split <;> simp_all
    rw [hadd, World.cell?_alloc_at _ _ _ _ rfl]
    match j, hj with
    | 0, hj => simpa [ncells] using hj
    | 1, hj => simpa [ncells] using hj
    | j + 2, hj => simp [ncells] at hj
  · unfold maxLen; omega
  · omega
  · simp; omega
  · intro v' w' h1 h2 h3
    refine h v' w' ?_ (grownBy_of_alloc h2) (fun e => by have := h3.1 e; simp at this)
    unfold OwnN
    rw [ncells_append]
    simpa using h1
theorem appendsN {y : Value} {ys : List Nd} (s x : Operand)
    (hown : OwnN w B v xs) (hy : RdN w y ys) (hlen : xs.length + ys.length < 16777216) (hBr : B ≤ w.heap.size)
    (hgd : o.guard = none) (ho : o.op = .call { callee := .builtin .append, args := #[s, x], argTypes := #[113, 113] })
    (hv : a.eval s = v) (hx : a.eval x = y)
    (h : ∀ v' w', OwnN w' B v' (xs ++ ys) → w.grownBy w' v.ownBlock → wpList Tryz.prog ops Q rest (a.put o.dst v') w') :
    wpList Tryz.prog ops Q (o :: rest) a w := by
  obtain ⟨i0, hi, hz0, hz1, hz2⟩ := info_parts Tryz.infoNode
  rcases hy with ⟨rfl, rfl⟩ | ⟨ad, cap, rfl, rfl⟩ | ⟨g, off, cap, rfl, hg, hc, hr⟩
  · refine wpList_append_own_none hgd s x 113 ho B 116 i0 2 Tryz.underlying113 hi v xs.length (ncells xs) hv hown hx ?_
    exact h v w (by simpa using hown) ⟨rfl, rfl, rfl, nlr, fun _ _ _ => rfl⟩
  · refine wpList_append_own _ hgd s x 113 ho B 116 i0 (.agg #[.int .i64 0, .int .i64 0]) 2 16 Tryz.underlying113 hi hz0 hz1 hz2 rfl (by decide) v xs.length (ncells xs) hv hown ad 0 cap [] hx rfl (fun j u hj => by simp at hj) (fun u hu => by cases hu) ?_ ?_ hBr ?_
    · unfold maxLen; omega
    · omega
    · intro v' w' h1 h2 _
      refine h v' w' ?_ h2
      unfold OwnN
      simpa using h1
  · refine wpList_append_own _ hgd s x 113 ho B 116 i0 (.agg #[.int .i64 0, .int .i64 0]) 2 16 Tryz.underlying113 hi hz0 hz1 hz2 rfl (by decide) v xs.length (ncells xs) hv hown ⟨g, off, none⟩ ys.length cap (ncells ys) hx (ncells_length ys) ?_ (ncells_one _) ?_ ?_ hBr ?_
    · intro j u hj
      have hadd : (⟨g, off, none⟩ : Addr).add j = ⟨g, off + j, none⟩ := by unfold Addr.add; split <;> simp_all
      rw [hadd]
      obtain ⟨k, hk, ⟨rfl, rfl⟩ | ⟨rfl, rfl⟩⟩ := ncells_at ys j u hj
      · exact (hr k hk).1
      · have := (hr k hk).2; rwa [Nat.add_assoc] at this
    · unfold maxLen; omega
    · omega
    · intro v' w' h1 h2 _
      refine h v' w' ?_ h2
      unfold OwnN
      rw [ncells_append, List.length_append]
      exact h1
end
end Go.Proofs.YtdnlejboijkcfaaGreatDoor
/- Lists of nodes: the plain functions that the reference's layer 6 computes (no program in sight). -/
namespace Go.Proofs.YtdnlejboijkcfaaGreatDoor
set_option maxHeartbeats 8000000
namespace Nl
def totF : Int → List (Int × Int) → Option Int
  | n, [] => some n
  | n, x :: r => if x.2 < 0 ∨ 72057594037927935 - n < x.2 then none else totF (n + x.2) r
def totOk (xs : List (Int × Int)) : Bool := (totF 0 xs).isSome
def totV (xs : List (Int × Int)) : Int := (totF 0 xs).getD 0
def findL (id : Int) : List (Int × Int) → Int
  | [] => 0
  | x :: r => if x.1 = id then x.2 else findL id r
def back (xs : List (Int × Int)) (id : Int) : Nat → Nat
  | 0 => 0
  | n + 1 => if id < (xs.getD n (0, 0)).1 then back xs id n else n + 1
def insL (xs : List (Int × Int)) (y : Int × Int) : List (Int × Int) := xs.take (back xs y.1 xs.length) ++ y :: xs.drop (back xs y.1 xs.length)
def sortL (xs : List (Int × Int)) : List (Int × Int) := xs.foldl insL []
def mstep (out : List (Int × Int)) (x : Int × Int) : List (Int × Int) :=
  if x.2 = 0 then out else if 0 < out.length ∧ (out.getD (out.length - 1) (0, 0)).1 = x.1 then out.dropLast ++ [((out.getD (out.length - 1) (0, 0)).1, (out.getD (out.length - 1) (0, 0)).2 + x.2)] else out ++ [x]
def pass : List (Int × Int) → List (Int × Int) → Option (List (Int × Int))
  | out, [] => some out
  | out, x :: r => if x.1 < 1 then none else pass (mstep out x) r
def foldL (xs : List (Int × Int)) : Option (List (Int × Int)) := if totOk xs then pass [] (sortL xs) else none
theorem totF_bd {n m : Int} {xs : List (Int × Int)} (hn : 0 ≤ n ∧ n ≤ 72057594037927935) (h : totF n xs = some m) : n ≤ m ∧ m ≤ 72057594037927935 := by
  induction xs generalizing n with
  | nil => simp [totF] at h; omega
  | cons x r ih =>
    simp only [totF] at h
    split at h
    · cases h
    · have := ih (n := n + x.2) (by omega) h; omega
theorem back_le (xs : List (Int × Int)) (id : Int) (n : Nat) : back xs id n ≤ n := by
  induction n with
  | zero => exact nlr
  | succ n ih => unfold back; split <;> omega
theorem insL_length (xs : List (Int × Int)) (y : Int × Int) : (insL xs y).length = xs.length + 1 := by
  have := back_le xs y.1 xs.length
  unfold insL; simp; omega
theorem foldl_insL_length (ys xs : List (Int × Int)) : (ys.foldl insL xs).length = xs.length + ys.length := by
  induction ys generalizing xs with
  | nil => rfl
  | cons y r ih => simp only [List.foldl_cons, ih, insL_length, List.length_cons]; omega
theorem sortL_length (xs : List (Int × Int)) : (sortL xs).length = xs.length := by
  unfold sortL; rw [foldl_insL_length]; simp
theorem sortL_snoc (xs : List (Int × Int)) (y : Int × Int) : sortL (xs ++ [y]) = insL (sortL xs) y := by
  unfold sortL; rw [List.foldl_append]; rfl
def sumL : List (Int × Int) → Int
  | [] => 0
  | x :: r => x.2 + sumL r
def Pos (xs : List (Int × Int)) : Prop := ∀ x ∈ xs, 0 ≤ x.2
theorem sumL_append (xs ys : List (Int × Int)) : sumL (xs ++ ys) = sumL xs + sumL ys := by
  induction xs with
  | nil => simp [sumL]
  | cons x r ih => simp only [List.cons_append, sumL, ih]; omega
theorem sumL_nonneg {xs : List (Int × Int)} (h : Pos xs) : 0 ≤ sumL xs := by
  induction xs with
  | nil => simp [sumL]
  | cons x r ih =>
    have h1 := h x (by simp)
    have h2 := ih (fun y hy => h y (by simp [hy]))
    simp only [sumL]; omega
theorem sumL_take_drop (xs : List (Int × Int)) (k : Nat) : sumL xs = sumL (xs.take k) + sumL (xs.drop k) := by
  rw [← sumL_append, List.take_append_drop]
theorem totF_sum {n m : Int} {xs : List (Int × Int)} (h : totF n xs = some m) : m = n + sumL xs ∧ Pos xs := by
  induction xs generalizing n with
  | nil => simp [totF] at h; simp [sumL, Pos, h]
  | cons x r ih =>
    simp only [totF] at h
    split at h
    · cases h
    · obtain ⟨h1, h2⟩ := ih h
      refine ⟨by simp only [sumL]; omega, fun y hy => ?_⟩
      cases hy with
      | head => omega
      | tail _ hy => exact h2 y hy
theorem insL_sum (xs : List (Int × Int)) (y : Int × Int) : sumL (insL xs y) = sumL xs + y.2 := by
  unfold insL
  rw [sumL_append]
  simp only [sumL]
  have := sumL_take_drop xs (back xs y.1 xs.length)
  omega
theorem insL_mem (xs : List (Int × Int)) (y z : Int × Int) : z ∈ insL xs y ↔ z = y ∨ z ∈ xs := by
  unfold insL
  rw [List.mem_append, List.mem_cons]
  constructor
  · rintro (h | h | h)
    · exact .inr (List.mem_of_mem_take h)
    · exact .inl h
    · exact .inr (List.mem_of_mem_drop h)
  · rintro (h | h)
    · exact .inr (.inl h)
    · rw [← List.take_append_drop (back xs y.1 xs.length) xs, List.mem_append] at h
      rcases h with h | h
      · exact .inl h
      · exact .inr (.inr h)
theorem foldl_insL_sum (ys xs : List (Int × Int)) : sumL (ys.foldl insL xs) = sumL xs + sumL ys := by
  induction ys generalizing xs with
  | nil => simp [sumL]
  | cons y r ih => simp only [List.foldl_cons, ih, insL_sum, sumL]; omega
theorem sortL_sum (xs : List (Int × Int)) : sumL (sortL xs) = sumL xs := by unfold sortL; rw [foldl_insL_sum]; simp [sumL]
theorem foldl_insL_mem (ys xs : List (Int × Int)) (z : Int × Int) : z ∈ ys.foldl insL xs ↔ z ∈ xs ∨ z ∈ ys := by
  induction ys generalizing xs with
  | nil => simp
  | cons y r ih =>
    simp only [List.foldl_cons, ih, insL_mem, List.mem_cons]
    constructor
    · rintro ((h | h) | h)
      · exact .inr (.inl h)
      · exact .inl h
      · exact .inr (.inr h)
    · rintro (h | h | h)
      · exact .inl (.inr h)
      · exact .inl (.inl h)
      · exact .inr h
theorem sortL_mem (xs : List (Int × Int)) (z : Int × Int) : z ∈ sortL xs ↔ z ∈ xs := by unfold sortL; rw [foldl_insL_mem]; simp
theorem Pos.tail {x : Int × Int} {r : List (Int × Int)} (h : Pos (x :: r)) : Pos r := fun y hy => h y (by simp [hy])
theorem Pos.le_sum {xs : List (Int × Int)} (h : Pos xs) : ∀ x ∈ xs, x.2 ≤ sumL xs := by
  induction xs with
  | nil => intro x hx; cases hx
  | cons y r ih =>
    intro x hx
    have h1 := h y (by simp)
    have h2 := sumL_nonneg h.tail
    simp only [sumL]
    cases hx with
    | head => omega
    | tail _ hx => have := ih h.tail x hx; omega
theorem last_split {xs : List (Int × Int)} (h : 0 < xs.length) : xs = xs.dropLast ++ [xs.getD (xs.length - 1) (0, 0)] := by
  have hne : xs ≠ [] := by intro e; subst e; simp at h
  have e := List.dropLast_concat_getLast hne
  rw [List.getLast_eq_getElem] at e
  have e2 : xs.getD (xs.length - 1) (0, 0) = xs[xs.length - 1] := by simp [List.getD, List.getElem?_eq_getElem (show xs.length - 1 < xs.length by omega)]
  rw [e2]; exact e.symm
theorem mstep_sum (out : List (Int × Int)) (x : Int × Int) : sumL (mstep out x) = sumL out + x.2 := by
  unfold mstep
  split
  · omega
  · split
    · rename_i h
      have e := last_split h.1
      generalize out.getD (out.length - 1) (0, 0) = y at *
      rw [sumL_append]
      have : sumL out = sumL out.dropLast + y.2 := by
        have e2 := congrArg sumL e
        rw [sumL_append] at e2
        simp only [sumL] at e2; omega
      simp only [sumL]; omega
    · rw [sumL_append]; simp only [sumL]; omega
theorem mstep_pos {out : List (Int × Int)} {x : Int × Int} (h : Pos out) (hx : 0 ≤ x.2) : Pos (mstep out x) := by
  unfold mstep
  split
  · exact h
  · split
    · rename_i h1
      intro y hy
      rw [List.mem_append] at hy
      rcases hy with hy | hy
      · exact h y ((List.dropLast_sublist out).subset hy)
      · simp only [List.mem_singleton] at hy
        subst hy
        have : 0 ≤ (out.getD (out.length - 1) (0, 0)).2 := by
          refine h _ ?_
          simp [List.getD, List.getElem?_eq_getElem (show out.length - 1 < out.length by omega)]
        simp only; omega
    · intro y hy
      rw [List.mem_append] at hy
      rcases hy with hy | hy
      · exact h y hy
      · simp only [List.mem_singleton] at hy; subst hy; exact hx
end Nl
end Go.Proofs.YtdnlejboijkcfaaGreatDoor
/- Lists of nodes by strictly rising numbers: what Fold makes of one node more (no program in sight). -/
namespace Go.Proofs.YtdnlejboijkcfaaGreatDoor
set_option maxHeartbeats 8000000
namespace Nl
def Strict (xs : List (Int × Int)) : Prop := xs.Pairwise (fun a b => a.1 < b.1) ∧ ∀ x ∈ xs, 1 ≤ x.1 ∧ 0 < x.2
theorem Strict.tail {x : Int × Int} {r : List (Int × Int)} (h : Strict (x :: r)) : Strict r := ⟨(List.pairwise_cons.1 h.1).2, fun y hy => h.2 y (List.mem_cons_of_mem _ hy)⟩
theorem Strict.head {x : Int × Int} {r : List (Int × Int)} (h : Strict (x :: r)) : ∀ y ∈ r, x.1 < y.1 := (List.pairwise_cons.1 h.1).1
theorem Strict.pos {xs : List (Int × Int)} (h : Strict xs) : Pos xs := fun x hx => by have := (h.2 x hx).2; omega
def upTo (id : Int) (xs : List (Int × Int)) : List (Int × Int) := xs.takeWhile (fun x => decide (x.1 ≤ id))
def past (id : Int) (xs : List (Int × Int)) : List (Int × Int) := xs.dropWhile (fun x => decide (x.1 ≤ id))
theorem upTo_past (id : Int) (xs : List (Int × Int)) : upTo id xs ++ past id xs = xs := List.takeWhile_append_dropWhile
theorem upTo_le {id : Int} {xs : List (Int × Int)} : ∀ x ∈ upTo id xs, x.1 ≤ id := by
  intro x hx
  unfold upTo at hx
  induction xs with
  | nil => simp at hx
  | cons y r ih =>
    rw [List.takeWhile_cons] at hx
    split at hx
    · rename_i h
      cases hx with
      | head => simpa using h
      | tail _ hx => exact ih hx
    · cases hx
theorem past_gt {id : Int} {xs : List (Int × Int)} (h : Strict xs) : ∀ x ∈ past id xs, id < x.1 := by
  intro x hx
  unfold past at hx
  induction xs with
  | nil => simp at hx
  | cons y r ih =>
    rw [List.dropWhile_cons] at hx
    split at hx
    · exact ih h.tail hx
    · rename_i hy
      simp only [decide_eq_true_eq] at hy
      cases hx with
      | head => omega
      | tail _ hx => have := h.head x hx; omega
theorem back_eq (A B : List (Int × Int)) (id : Int) (hA : ∀ x ∈ A, x.1 ≤ id) (hB : ∀ x ∈ B, id < x.1) (n : Nat) (hn : A.length ≤ n ∧ n ≤ A.length + B.length) : back (A ++ B) id n = A.length := by
  induction n with
  | zero => simp [back]; omega
  | succ n ih =>
    by_cases h : A.length = n + 1
    · rw [back, if_neg, h]
      have hl : n < A.length := by omega
      have : (A ++ B).getD n (0, 0) = A[n] := by simp [List.getD, List.getElem?_append_left hl, List.getElem?_eq_getElem hl]
      rw [this]
      have := hA _ (List.getElem_mem hl)
      omega
    · rw [back, if_pos, ih (by omega)]
      have hl : n - A.length < B.length := by omega
      have : (A ++ B).getD n (0, 0) = B[n - A.length] := by
        simp [List.getD, List.getElem?_append_right (show A.length ≤ n by omega), List.getElem?_eq_getElem hl]
      rw [this]
      exact hB _ (List.getElem_mem hl)
theorem insL_eq {xs : List (Int × Int)} (h : Strict xs) (y : Int × Int) : insL xs y = upTo y.1 xs ++ y :: past y.1 xs := by
  have e := upTo_past y.1 xs
  have hb := back_eq (upTo y.1 xs) (past y.1 xs) y.1 upTo_le (past_gt h) xs.length (by
    have := congrArg List.length e; simp at this; omega)
  rw [e] at hb
  unfold insL
  rw [hb]
  generalize upTo y.1 xs = A at *
  generalize past y.1 xs = B at *
  subst e
  simp
theorem insL_snoc {xs : List (Int × Int)} {y : Int × Int} (h : ∀ x ∈ xs, x.1 < y.1) : insL xs y = xs ++ [y] := by
  have hb := back_eq xs [] y.1 (fun x hx => by have := h x hx; omega) (by simp) xs.length (by simp)
  rw [List.append_nil] at hb
  unfold insL
  rw [hb]
  simp
theorem sortL_strict_aux (ys xs : List (Int × Int)) (h : (xs ++ ys).Pairwise (fun a b => a.1 < b.1)) : ys.foldl insL xs = xs ++ ys := by
  induction ys generalizing xs with
  | nil => simp
  | cons y r ih =>
    rw [List.foldl_cons, insL_snoc, ih]
    · simp
    · simpa using h
    · intro x hx
      rw [List.pairwise_append] at h
      exact h.2.2 x hx y (by simp)
theorem sortL_strict {xs : List (Int × Int)} (h : Strict xs) : sortL xs = xs := by
  have := sortL_strict_aux xs [] (by simpa using h.1)
  simpa [sortL] using this
theorem mstep_new {out : List (Int × Int)} {x : Int × Int} (hx : x.2 ≠ 0) (h : ∀ y ∈ out, y.1 < x.1) : mstep out x = out ++ [x] := by
  unfold mstep
  rw [if_neg hx, if_neg]
  rintro ⟨h1, h2⟩
  have hm : out.getD (out.length - 1) (0, 0) ∈ out := by
    simp [List.getD, List.getElem?_eq_getElem (show out.length - 1 < out.length by omega)]
  have := h _ hm
  omega
theorem pass_append (out xs ys : List (Int × Int)) : pass out (xs ++ ys) = (pass out xs).bind fun o => pass o ys := by
  induction xs generalizing out with
  | nil => rfl
  | cons x r ih =>
    simp only [List.cons_append, pass]
    split
    · rfl
    · exact ih _
theorem pass_strict {out xs : List (Int × Int)} (h : Strict xs) (hl : ∀ y ∈ out, ∀ x ∈ xs, y.1 < x.1) : pass out xs = some (out ++ xs) := by
  induction xs generalizing out with
  | nil => simp [pass]
  | cons x r ih =>
    have hx := h.2 x (by simp)
    rw [pass, if_neg (by omega), mstep_new (by omega) (fun y hy => hl y hy x (by simp)), ih h.tail]
    · simp
    · intro y hy z hz
      rw [List.mem_append] at hy
      rcases hy with hy | hy
      · exact hl y hy z (List.mem_cons_of_mem _ hz)
      · simp at hy; subst hy; exact h.head z hz
theorem Strict.left {A B : List (Int × Int)} (h : Strict (A ++ B)) : Strict A := ⟨(List.pairwise_append.1 h.1).1, fun x hx => h.2 x (by simp [hx])⟩
theorem Strict.right {A B : List (Int × Int)} (h : Strict (A ++ B)) : Strict B := ⟨(List.pairwise_append.1 h.1).2.1, fun x hx => h.2 x (by simp [hx])⟩
theorem totF_pos {n : Int} {xs : List (Int × Int)} (h : Pos xs) (hs : n + sumL xs ≤ 72057594037927935) : totF n xs = some (n + sumL xs) := by
  induction xs generalizing n with
  | nil => simp [totF, sumL]
  | cons x r ih =>
    have h1 := h x (by simp)
    have h2 := sumL_nonneg h.tail
    simp only [sumL] at hs ⊢
    rw [totF, if_neg (by omega), ih h.tail (by omega)]
    congr 1; omega
theorem totV_sum {xs : List (Int × Int)} (h : Pos xs) (hs : sumL xs ≤ 72057594037927935) : totV xs = sumL xs := by
  unfold totV; rw [totF_pos h (by omega)]; simp
def addS (xs : List (Int × Int)) (id c : Int) : List (Int × Int) := mstep (upTo id xs) (id, c) ++ past id xs
theorem foldL_add {xs : List (Int × Int)} {id c : Int} (h : Strict xs) (hid : 1 ≤ id) (hc : 0 ≤ c) (hs : sumL xs + c ≤ 72057594037927935) : foldL (xs ++ [(id, c)]) = some (addS xs id c) := by
  have hp : Pos (xs ++ [(id, c)]) := fun x hx => by
    rw [List.mem_append] at hx
    rcases hx with hx | hx
    · exact h.pos x hx
    · simp at hx; subst hx; exact hc
  have ht : totOk (xs ++ [(id, c)]) = true := by
    unfold totOk
    rw [totF_pos hp (by rw [sumL_append]; simp only [sumL]; omega)]; rfl
  have e := upTo_past id xs
  have hA : Strict (upTo id xs) := Strict.left (B := past id xs) (by rw [e]; exact h)
  have hB : Strict (past id xs) := Strict.right (A := upTo id xs) (by rw [e]; exact h)
  unfold foldL
  rw [ht, if_pos rfl, sortL_snoc, sortL_strict h, insL_eq h, pass_append, pass_strict hA (by simp)]
  simp only [List.nil_append, Option.bind_some, pass]
  rw [if_neg (by omega)]
  refine pass_strict hB ?_
  intro y hy x hx
  have h1 := past_gt h x hx
  have h2 : y.1 ≤ id := by
    unfold mstep at hy
    split at hy
    · exact upTo_le y hy
    · split at hy
      · rename_i h3
        rw [List.mem_append] at hy
        rcases hy with hy | hy
        · exact upTo_le y ((List.dropLast_sublist _).subset hy)
        · simp at hy; subst hy; simp only; have := h3.2; simp at this; omega
      · rw [List.mem_append] at hy
        rcases hy with hy | hy
        · exact upTo_le y hy
        · simp at hy; subst hy; exact Int.le_refl _
  omega
theorem addS_parts {P Q : List (Int × Int)} {id v c : Int} (hP : ∀ x ∈ P, x.1 < id) (hQ : ∀ x ∈ Q, id < x.1) (hv : 0 ≤ v) (hc : 0 ≤ c) :
    addS (P ++ ((if 0 < v then [(id, v)] else []) ++ Q)) id c = P ++ ((if 0 < v + c then [(id, v + c)] else []) ++ Q) := by
  have hu : ∀ M : List (Int × Int), (∀ x ∈ M, x.1 ≤ id) → upTo id (M ++ Q) = M ∧ past id (M ++ Q) = Q := by
    intro M hM
    induction M with
    | nil =>
      cases Q with
      | nil => simp [upTo, past]
      | cons q r =>
        have h' : decide (q.1 ≤ id) = false := by have := hQ q (by simp); simp; omega
        constructor
        · show List.takeWhile _ (q :: r) = []; rw [List.takeWhile_cons, h']; rfl
        · show List.dropWhile _ (q :: r) = q :: r; rw [List.dropWhile_cons, h']; rfl
    | cons m r ih =>
      obtain ⟨i1, i2⟩ := ih (fun x hx => hM x (List.mem_cons_of_mem _ hx))
      have := hM m (by simp)
      unfold upTo past at *
      simp [this, i1, i2]
  unfold addS
  rw [← List.append_assoc]
  by_cases h : 0 < v
  · rw [if_pos h, if_pos (by omega)]
    obtain ⟨i1, i2⟩ := hu (P ++ [(id, v)]) (by
      intro x hx
      rw [List.mem_append] at hx
      rcases hx with hx | hx
      · have := hP x hx; omega
      · simp at hx; subst hx; exact Int.le_refl _)
    rw [i1, i2]
    unfold mstep
    by_cases h0 : c = 0
    · simp [h0]
    · rw [if_neg h0, if_pos (by simp)]
      simp
  · have : v = 0 := by omega
    subst this
    rw [if_neg h]
    obtain ⟨i1, i2⟩ := hu P (fun x hx => by have := hP x hx; omega)
    simp only [List.append_nil] at *
    rw [i1, i2]
    by_cases h0 : c = 0
    · subst h0; simp [mstep]
    · rw [mstep_new h0 hP, if_pos (by omega)]; simp
end Nl
end Go.Proofs.YtdnlejboijkcfaaGreatDoor
/- The walks of the reference's layer 6: Total, Find, Same. -/
namespace Go.Proofs.YtdnlejboijkcfaaGreatDoor
set_option maxHeartbeats 8000000
open Go.RowKit Nl
theorem ret_ib {k : IntKind} {a c : Int} {b d : Bool} (h1 : a = c) (h2 : b = d) : Ending.returned (.tuple #[.int k a, .bool b]) = .returned (.tuple #[.int k c, .bool d]) := by rw [h1, h2]
theorem ret_int {k : IntKind} {a b : Int} (h : a = b) : Ending.returned (.int k a) = .returned (.int k b) := by rw [h]
theorem ret_bool {a b : Bool} (h : a = b) : Ending.returned (.bool a) = .returned (.bool b) := by rw [h]
end Go.Proofs.YtdnlejboijkcfaaGreatDoor
/- The walks of the reference's layer 6: put, Sorted, Fold. -/
namespace Go.Proofs.YtdnlejboijkcfaaGreatDoor
set_option maxHeartbeats 8000000
open Go.RowKit Nl
def IsNodes (xs : List Nd) (w : World) (e : Ending) (w' : World) : Prop := ∃ v, e = .returned v ∧ OwnN w' w.heap.size v xs ∧ Below w.heap.size w w'
theorem none_lt {B : Nat} : ∀ k, Value.ownBlock (.slice none 0 0) = some k → B ≤ k := fun k hk => by simp [Value.ownBlock] at hk
end Go.Proofs.YtdnlejboijkcfaaGreatDoor
/- The walk of the reference's layer 6: Fold. -/
namespace Go.Proofs.YtdnlejboijkcfaaGreatDoor
set_option maxHeartbeats 8000000
open Go.RowKit Nl
end Go.Proofs.YtdnlejboijkcfaaGreatDoor
/- The walks of the reference's layer 2 (Is, Depth, Right), of twig.Right and reckon.Add. -/
namespace Go.Proofs.YtdnlejboijkcfaaGreatDoor
set_option maxHeartbeats 8000000
open Go.RowKit
namespace Nl
def rightB (l id : Int) : Bool := decide (1 ≤ l ∧ l ≤ 48 ∧ 1 ≤ id ∧ id < 2 * 2 ^ l.toNat)
def depOk (id : Int) : Bool := decide (1 ≤ id)
def depV (id : Int) : Int := if depOk id then (bitLen id.toNat : Int) - 1 else 0
theorem bitLen_iff (x n : Nat) (hx : x ≠ 0) : bitLen x ≤ n + 1 ↔ x < 2 * 2 ^ n := by
  obtain ⟨h1, h2⟩ := bitLen_spec x
  have e : 2 * 2 ^ n = 2 ^ (n + 1) := by rw [Nat.pow_succ]; omega
  rw [e]
  constructor
  · intro h
    exact Nat.lt_of_lt_of_le h1 (Nat.pow_le_pow_right (by omega) h)
  · intro h
    refine Nat.le_of_not_lt fun hlt => ?_
    have h3 : 2 ^ (n + 1) ≤ 2 ^ (bitLen x - 1) := Nat.pow_le_pow_right (by omega) (by omega)
    have := h2 hx
    omega
theorem pow48 {n : Nat} (h : n ≤ 48) : (1 : Int) ≤ 2 ^ n ∧ (2 : Int) ^ n ≤ 281474976710656 := by
  have h1 : (2 : Nat) ^ n ≤ 2 ^ 48 := Nat.pow_le_pow_right (by omega) h
  have h2 : (1 : Nat) ≤ 2 ^ n := Nat.one_le_two_pow
  have e : (2 : Int) ^ n = ((2 ^ n : Nat) : Int) := by simp
  have h3 : (2 : Nat) ^ 48 = 281474976710656 := rfl
  rw [e]; omega
theorem rightB_dep {l id : Int} (hl : 1 ≤ l ∧ l ≤ 48) (hi : 1 ≤ id) : rightB l id = decide (depV id ≤ l) := by
  obtain ⟨n, rfl⟩ := Int.eq_ofNat_of_zero_le (show 0 ≤ l by omega)
  obtain ⟨x, rfl⟩ := Int.eq_ofNat_of_zero_le (show 0 ≤ id by omega)
  have h := bitLen_iff x n (by omega)
  unfold rightB depV depOk
  rw [if_pos (by simpa using hi), decide_eq_decide]
  simp only [Int.toNat_natCast]
  have e : (2 : Int) * 2 ^ n = ((2 * 2 ^ n : Nat) : Int) := by simp
  rw [e]
  constructor
  · rintro ⟨_, _, _, h4⟩
    have := h.2 (by omega)
    omega
  · intro h4
    have := h.1 (by omega)
    omega
def addOk (a b : Int) : Bool := decide (0 ≤ a ∧ 0 ≤ b ∧ a + b ≤ 9223372036854775807)
def addV (a b : Int) : Int := if addOk a b then a + b else 0
end Nl
open Nl
theorem bitLen_le63 (a : Int) (ha1 : a ≤ 9223372036854775807) : bitLen a.toNat ≤ 63 := by
  by_cases h0 : a.toNat = 0
  · rw [h0]; decide
  · rw [bitLen_iff _ 62 h0]
    have : (2 : Nat) * 2 ^ 62 = 9223372036854775808 := rfl
    omega
theorem twig_right (l id : Int) (w : World) (_hl : -9223372036854775808 ≤ l) (_hl1 : l ≤ 9223372036854775807) (_hi : -9223372036854775808 ≤ id) (_hi1 : id ≤ 9223372036854775807) :
    Calls Tryz.prog 127 #[.int .i64 l, .int .i64 id] w fun e w' => e = .returned (.bool (rightB l id)) ∧ w = w' := by
  by_cases h1 : 1 ≤ l
  · by_cases h2 : l ≤ 48
    · obtain ⟨n, rfl⟩ := Int.eq_ofNat_of_zero_le (show 0 ≤ l by omega)
      obtain ⟨b1, b2⟩ := pow48 (n := n) (by omega)
      have Hr : Hid (rightB (n : Int) id = (decide (1 ≤ id) && decide (id < 2 * 2 ^ n))) := by
        show _ = _
        unfold rightB
        simp only [Int.toNat_natCast]
        rw [Bool.eq_iff_iff]
        simp
        omega
      generalize rightB (n : Int) id = r at *
      have hn : n ≤ 48 := by omega
      by_cases h3 : 1 ≤ id <;> by_cases h4 : id < 2 * 2 ^ n
      all_goals
        have e := Hr.out
        simp [h3, h4] at e
        subst e
        clear Hr
        go_enter Tryz.func127, Tryz.ntmps127
        go_wp2_with (go_at_call 112; go_in)
        go_ret
        exact ⟨rfl, rfl⟩
    · have e : rightB l id = false := by simp [rightB, h2]
      rw [e]
      clear e
      go_enter Tryz.func127, Tryz.ntmps127
      go_wp2_with (go_at_call 112; go_in)
      go_ret
      exact ⟨rfl, rfl⟩
  · have e : rightB l id = false := by simp [rightB, h1]
    rw [e]
    clear e
    go_enter Tryz.func127, Tryz.ntmps127
    go_wp2_with (go_at_call 112; go_in)
    go_ret
    exact ⟨rfl, rfl⟩
theorem add_any (a b : Int) (w : World) (_ha : -9223372036854775808 ≤ a) (_ha1 : a ≤ 9223372036854775807) (_hb : -9223372036854775808 ≤ b) (_hb1 : b ≤ 9223372036854775807) :
    Calls Tryz.prog 161 #[.int .i64 a, .int .i64 b] w fun e w' => e = .returned (.tuple #[.int .i64 (addV a b), .bool (addOk a b)]) ∧ w = w' := by
  by_cases h1 : 0 ≤ a <;> by_cases h2 : 0 ≤ b <;> by_cases h3 : a + b ≤ 9223372036854775807
  all_goals
    go_enter Tryz.func161, Tryz.ntmps161
    go_wp2
    go_ret2
    refine ⟨ret_ib ?_ ?_, rfl⟩
    all_goals (simp [addV, addOk] <;> omega)
end Go.Proofs.YtdnlejboijkcfaaGreatDoor
/- The walks of the reference's layer 7: Get, Total, Add, Take, Do. -/
namespace Go.Proofs.YtdnlejboijkcfaaGreatDoor
set_option maxHeartbeats 8000000
open Go.RowKit Nl
def RdB (w : World) (B : Nat) (v : Value) (xs : List Nd) : Prop := RdN w v xs ∧ ∀ k, v.ownBlock = some k → B ≤ k
namespace Nl
def stAdd (l : Int) (xs : List Nd) (id c : Int) : List Nd × Int :=
  if rightB l id = false ∨ c < 0 then (xs, 2) else if 72057594037927935 - totV xs < c then (xs, 5) else ((foldL (xs ++ [(id, c)])).getD [], 0)
def stTake (xs : List Nd) (id : Int) : List Nd × Int := (xs.filter (fun x => x.1 ≠ id), findL id xs)
end Nl
end Go.Proofs.YtdnlejboijkcfaaGreatDoor
/- The walks of the reference's layer 7: Take, Do. -/
namespace Go.Proofs.YtdnlejboijkcfaaGreatDoor
set_option maxHeartbeats 8000000
open Go.RowKit Nl
end Go.Proofs.YtdnlejboijkcfaaGreatDoor
/- Arguments, opened: arrays of integers, by value. -/
namespace Go.Proofs.YtdnlejboijkcfaaGreatDoor
set_option maxHeartbeats 8000000
open Go.ChangeShapes Go.WideShapes Go.ChangeAt Go.RowKit
theorem Tryz.laidOut : laidOutB Tryz.prog = true := by kernel_rfl
theorem bd_i64 (a : Int) (h : (Lit.int .i64 a).wf = true) : -9223372036854775808 ≤ a ∧ a ≤ 9223372036854775807 := bounds_i64 h
section
variable {H : Type} {enc : TypeId × Value → H} {P : Program} {w : World} {base b0 : Nat} {spare : Nat → Bool} {held : Bool} {r : Reach} {t e : TypeId} {v : Value} {d : DataW H} {ps : List MemPlace}
end
end Go.Proofs.YtdnlejboijkcfaaGreatDoor
/- Arguments, opened: slices of structs of ints. -/
namespace Go.Proofs.YtdnlejboijkcfaaGreatDoor
set_option maxHeartbeats 8000000
open Go.ChangeShapes Go.WideShapes Go.ChangeAt Go.RowKit
section
variable {H : Type} {enc : TypeId × Value → H} {P : Program} {w : World} {base b0 : Nat} {spare : Nat → Bool} {held : Bool} {r : Reach} {t e I : TypeId} {v : Value} {d : DataW H} {ps : List MemPlace}
theorem spot_none {w : World} {a : Addr} {v : Value} (h : w.cell? a = some v) : a.spot = none := by
  unfold World.cell? at h
  split at h
  · split at h
    · cases h
    · rename_i h1; simpa using h1
  · cases h
def intAt (w : World) (a : Addr) : Int := match w.cell? a with | some (.int _ z) => z | _ => 0
end
abbrev Op3 := Int × Int × Int
def RdO (w : World) (v : Value) (os : List Op3) : Prop :=
  ∃ p cap, v = .slice p os.length cap ∧ os.length ≤ 9223372036854775807 ∧ ∀ k, k < os.length → ∃ g off, p = some ⟨g, off, none⟩ ∧ g < w.heap.size ∧
    w.cell? ⟨g, off + k * 3, none⟩ = some (.int .i64 (os.getD k (0, 0, 0)).1) ∧ w.cell? ⟨g, off + k * 3 + 1, none⟩ = some (.int .i64 (os.getD k (0, 0, 0)).2.1) ∧ w.cell? ⟨g, off + k * 3 + 2, none⟩ = some (.int .i64 (os.getD k (0, 0, 0)).2.2) ∧
    (-9223372036854775808 ≤ (os.getD k (0, 0, 0)).1 ∧ (os.getD k (0, 0, 0)).1 ≤ 9223372036854775807) ∧ (-9223372036854775808 ≤ (os.getD k (0, 0, 0)).2.1 ∧ (os.getD k (0, 0, 0)).2.1 ≤ 9223372036854775807) ∧ (-9223372036854775808 ≤ (os.getD k (0, 0, 0)).2.2 ∧ (os.getD k (0, 0, 0)).2.2 ≤ 9223372036854775807)
end Go.Proofs.YtdnlejboijkcfaaGreatDoor
/- An argument that is a slice of nodes. -/
namespace Go.Proofs.YtdnlejboijkcfaaGreatDoor
set_option maxHeartbeats 8000000
open Go.RowKit Go.ChangeShapes Go.WideShapes Go.ChangeAt
def In64 (n : Int) : Prop := -9223372036854775808 ≤ n ∧ n ≤ 9223372036854775807
def NB (xs : List Nd) : Prop := ∀ x ∈ xs, In64 x.1 ∧ In64 x.2
theorem NB.at {xs : List Nd} (h : NB xs) {k : Nat} {a c : Int} (hk : k < xs.length) (e : xs.getD k (0, 0) = (a, c)) : In64 a ∧ In64 c := by
  have := h _ (getD_mem (d := ((0, 0) : Nd)) xs k hk)
  rw [e] at this; exact this
end Go.Proofs.YtdnlejboijkcfaaGreatDoor
/- An argument that is a struct of a slice of nodes and an array of three ints. -/
namespace Go.Proofs.YtdnlejboijkcfaaGreatDoor
set_option maxHeartbeats 8000000
open Go.RowKit Go.ChangeShapes Go.WideShapes Go.ChangeAt
section
variable {H : Type} {enc : TypeId × Value → H} {P : Program} {w : World} {base b0 : Nat} {spare : Nat → Bool} {held : Bool} {r : Reach} {t e I : TypeId} {v c : Value} {d : DataW H} {ps : List MemPlace} {x : DataW H × List MemPlace} {fuel : Nat}
end
end Go.Proofs.YtdnlejboijkcfaaGreatDoor
