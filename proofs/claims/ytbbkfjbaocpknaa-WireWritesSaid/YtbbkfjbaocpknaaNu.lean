/- Memory: slices of bytes, read and appended to. -/
import Derived.Test.YtbbkfjbaocpknaaBA
import Derived.Deep.AppendLies
namespace Go.Proofs.Ytbbkfjbaocpknaa
open Go.RowKit

/-- A slice that reads as ints. -/
def RdU (w : World) (v : Value) (xs : List UInt8) : Prop :=
  (v = .slice none 0 0 ∧ xs = []) ∨ (∃ a cap, v = .slice (some a) 0 cap ∧ xs = []) ∨
  ∃ g off cap, v = .slice (some ⟨g, off, none⟩) xs.length cap ∧ g < w.heap.size ∧ xs.length ≤ cap ∧
    ∀ k, k < xs.length → w.cell? ⟨g, off + k, none⟩ = some (.int .u8 ((xs.getD k 0).toNat : Int))
theorem RdU.nil (w : World) : RdU w (.slice none 0 0) [] := .inl ⟨rfl, rfl⟩
theorem RdU.val {w : World} {v : Value} {xs : List UInt8} (h : RdU w v xs) : ∃ p cap, v = .slice p xs.length cap := by
  rcases h with ⟨h1, h2⟩ | ⟨a, cap, h1, h2⟩ | ⟨g, off, cap, h1, _⟩
  · exact ⟨none, 0, by rw [h2]; exact h1⟩
  · exact ⟨some a, cap, by rw [h2]; exact h1⟩
  · exact ⟨_, cap, h1⟩
theorem RdU.keep {w w' : World} {v : Value} {xs : List UInt8} (h : RdU w v xs) (hk : ∀ g, g < w.heap.size → v.ownBlock = some g → w'.heap[g]? = w.heap[g]?) (hs : w.heap.size ≤ w'.heap.size) : RdU w' v xs := by
  rcases h with h | h | ⟨g, off, cap, rfl, hg, hc, hr⟩
  · exact .inl h
  · exact .inr (.inl h)
  · refine .inr (.inr ⟨g, off, cap, rfl, Nat.lt_of_lt_of_le hg hs, hc, fun k hk' => ?_⟩)
    have e := hk g hg rfl
    rw [World.cell?_of_block (w := w) (a := ⟨g, off + k, none⟩) e]
    exact hr k hk'
theorem RdU.below {w w' : World} {v : Value} {xs : List UInt8} {B : Nat} (h : RdU w v xs) (hb : Below B w w') (hB : w.heap.size ≤ B) : RdU w' v xs :=
  h.keep (fun g hg _ => hb.block g (Nat.lt_of_lt_of_le hg hB)) hb.size
theorem RdU.alloc {w : World} {v : Value} {xs : List UInt8} (h : RdU w v xs) (o : Obj) : RdU (w.alloc o) v xs :=
  h.keep (fun g hg _ => Below.heap_alloc w o g hg) (by simp)
theorem RdU.drewN {w : World} {v : Value} {xs : List UInt8} (h : RdU w v xs) (n : Nat) : RdU (w.drewN n) v xs := h.keep (fun _ _ _ => rfl) (Nat.le_refl _)
theorem RdU.any {w w' : World} {v : Value} (h : RdU w v []) : RdU w' v [] := by
  rcases h with h | h | ⟨g, off, cap, rfl, _⟩
  · exact .inl h
  · exact .inr (.inl h)
  · exact .inr (.inl ⟨_, _, rfl, rfl⟩)
theorem RdU.ltE {w : World} {v : Value} {xs : List UInt8} (h : RdU w v xs) : xs = [] ∨ ∀ g, v.ownBlock = some g → g < w.heap.size := by
  rcases h with h | ⟨_, _, _, h⟩ | ⟨g, off, cap, rfl, hg, _⟩
  · exact .inl h.2
  · exact .inl h
  · right; intro k hk; simp [Value.ownBlock] at hk; omega
/-- An element. -/
theorem RdU.at {w : World} {p : Option Addr} {n cap : Nat} {xs : List UInt8} (h : RdU w (.slice p n cap) xs) {k : Nat} (hk : k < xs.length) :
    ∃ g off a, p = some ⟨g, off, none⟩ ∧ xs.getD k 0 = a ∧ g < w.heap.size ∧ w.cell? ⟨g, off + k, none⟩ = some (.int .u8 (a.toNat : Int)) := by
  rcases h with ⟨_, rfl⟩ | ⟨_, _, _, rfl⟩ | ⟨g, off, cap', hv, hg, _, hr⟩
  · simp at hk
  · simp at hk
  · simp only [Value.slice.injEq] at hv
    exact ⟨g, off, _, hv.1, rfl, hg, hr k hk⟩
theorem RdU.len {w : World} {p : Option Addr} {n cap : Nat} {xs : List UInt8} (h : RdU w (.slice p n cap) xs) : xs.length = n ∧ n ≤ cap := by
  rcases h with ⟨h, rfl⟩ | ⟨a', cap', h, rfl⟩ | ⟨g', off', cap', hv, hg, hc, hr⟩
  · simp only [Value.slice.injEq] at h; simp; omega
  · simp only [Value.slice.injEq] at h; simp; omega
  · simp only [Value.slice.injEq] at hv; omega
theorem RdU.take {w : World} {g off n cap : Nat} {xs : List UInt8} (h : RdU w (.slice (some ⟨g, off, none⟩) n cap) xs) (k : Nat) (hk : k ≤ n) : RdU w (.slice (some ⟨g, off, none⟩) k cap) (xs.take k) := by
  rcases h with ⟨h, _⟩ | ⟨a', cap', h, rfl⟩ | ⟨g', off', cap', hv, hg, hc, hr⟩
  · simp at h
  · simp only [Value.slice.injEq] at h
    obtain rfl : k = 0 := by omega
    exact .inr (.inl ⟨_, _, rfl, by simp⟩)
  · simp only [Value.slice.injEq, Option.some.injEq, Addr.mk.injEq] at hv
    obtain ⟨⟨rfl, rfl, _⟩, rfl, rfl⟩ := hv
    have e : (xs.take k).length = k := by simp; omega
    refine .inr (.inr ⟨g, off, cap, by rw [e], hg, by omega, fun j hj => ?_⟩)
    have e2 : (xs.take k).getD j 0 = xs.getD j 0 := by simp [List.getD, show j < k by omega]
    rw [e2]; exact hr j (by omega)
theorem RdU.drop {w : World} {g off n cap : Nat} {xs : List UInt8} (h : RdU w (.slice (some ⟨g, off, none⟩) n cap) xs) (k : Nat) (hk : k ≤ n) : RdU w (.slice (some ⟨g, off + k, none⟩) (n - k) (cap - k)) (xs.drop k) := by
  rcases h with ⟨h, _⟩ | ⟨a', cap', h, rfl⟩ | ⟨g', off', cap', hv, hg, hc, hr⟩
  · simp at h
  · simp only [Value.slice.injEq] at h
    obtain rfl : k = 0 := by omega
    obtain ⟨_, rfl, _⟩ := h
    exact .inr (.inl ⟨_, _, rfl, by simp⟩)
  · simp only [Value.slice.injEq, Option.some.injEq, Addr.mk.injEq] at hv
    obtain ⟨⟨rfl, rfl, _⟩, rfl, rfl⟩ := hv
    refine .inr (.inr ⟨g, off + k, cap - k, by simp, hg, by simp; omega, fun j hj => ?_⟩)
    have e2 : (xs.drop k).getD j 0 = xs.getD (k + j) 0 := by simp [List.getD]
    simp at hj
    have := hr (k + j) (by omega)
    rw [e2, show off + k + j = off + (k + j) by omega]
    exact this
theorem RdU.grown {w w' : World} {v : Value} {xs : List UInt8} {row : Option Nat} (h : RdU w v xs) (hg : w.grownBy w' row) (hne : ∀ g, v.ownBlock = some g → some g ≠ row) : RdU w' v xs :=
  h.keep (fun g hlt hg' => hg.block g hlt (hne g hg')) hg.size

theorem Try.infoU8 : (Try.prog.info? 5).map (fun i => (i.zero, i.size, i.bytes)) = some (some (.int .u8 0), 1, 1) := by kernel_rfl

/-- Ints of the call's own. -/
def ucells (xs : List UInt8) : List Value := xs.map (fun c => Value.int .u8 (c.toNat : Int))
theorem ucells_length (xs : List UInt8) : (ucells xs).length = xs.length := by simp [ucells]
theorem ucells_get (xs : List UInt8) (k : Nat) (hk : k < xs.length) : (ucells xs)[k]? = some (.int .u8 ((xs.getD k 0).toNat : Int)) := by simp [ucells, List.getElem?_eq_getElem hk, List.getD]
def OwnU (w : World) (B : Nat) (v : Value) (xs : List UInt8) : Prop := w.ownsRow B 5 1 v xs.length (ucells xs)
theorem OwnU.nil (w : World) (B : Nat) : OwnU w B (.slice none 0 0) [] := World.ownsRow_nil w B _ _
theorem OwnU.lt {w : World} {B : Nat} {v : Value} {xs : List UInt8} (h : OwnU w B v xs) : ∀ k, v.ownBlock = some k → B ≤ k := fun k hk => (World.ownsRow.lt h k hk).1
theorem OwnU.lt' {w : World} {B : Nat} {v : Value} {xs : List UInt8} (h : OwnU w B v xs) : ∀ k, v.ownBlock = some k → k < w.heap.size := fun k hk => (World.ownsRow.lt h k hk).2
theorem OwnU.mono {w : World} {B B' : Nat} {v : Value} {xs : List UInt8} (h : OwnU w B v xs) (hB : B' ≤ B) : OwnU w B' v xs := ownsRow_mono h hB
theorem OwnU.keep {w w' : World} {B : Nat} {v : Value} {xs : List UInt8} (h : OwnU w B v xs) (hk : ∀ k, v.ownBlock = some k → w'.heap[k]? = w.heap[k]?) : OwnU w' B v xs := ownsRow_keep h hk
theorem OwnU.below {w w' : World} {B B' : Nat} {v : Value} {xs : List UInt8} (h : OwnU w B v xs) (hb : Below B' w w') (hB : w.heap.size ≤ B') : OwnU w' B v xs :=
  h.keep fun k hk => hb.block k (Nat.lt_of_lt_of_le (h.lt' k hk) hB)
theorem OwnU.alloc {w : World} {B : Nat} {v : Value} {xs : List UInt8} (h : OwnU w B v xs) (o : Obj) : OwnU (w.alloc o) B v xs :=
  h.keep fun k hk => Below.heap_alloc w o k (h.lt' k hk)
theorem OwnU.drewN {w : World} {B : Nat} {v : Value} {xs : List UInt8} (h : OwnU w B v xs) (n : Nat) : OwnU (w.drewN n) B v xs := h.keep fun _ _ => rfl
theorem OwnU.grown {w w' : World} {B : Nat} {v : Value} {xs : List UInt8} {row : Option Nat} (h : OwnU w B v xs) (hg : w.grownBy w' row) (hne : ∀ k, v.ownBlock = some k → some k ≠ row) : OwnU w' B v xs :=
  h.keep fun k hk => hg.block k (h.lt' k hk) (hne k hk)
/-- Its form, and its cells. -/
theorem OwnU.shape {w : World} {B : Nat} {v : Value} {xs : List UInt8} (h : OwnU w B v xs) :
    (v = .slice none 0 0 ∧ xs = []) ∨ ∃ g cap, v = .slice (some ⟨g, 0, none⟩) xs.length cap ∧ B ≤ g ∧ g < w.heap.size ∧ xs.length ≤ cap ∧
      (∀ k, k < xs.length → w.cell? ⟨g, k, none⟩ = some (.int .u8 ((xs.getD k 0).toNat : Int))) ∧ ∀ k, w.frozen? ⟨g, k, none⟩ = false := by
  rcases h.2 with ⟨h1, h2⟩ | ⟨g, cap, cur, hv, hg, hh, h3, h4, h5, h6⟩
  · exact .inl ⟨h1, List.eq_nil_of_length_eq_zero h2⟩
  · refine .inr ⟨g, cap, hv, hg, (Array.getElem?_eq_some_iff.1 hh).1, h3, fun k hk => ?_, fun k => ?_⟩
    · subst hv
      have : w.cell? ⟨g, k, none⟩ = (ucells xs)[k]? := World.ownsRow.cellAt h k (by omega)
      rw [this]; exact ucells_get xs k hk
    · simp only [World.frozen?]
      rw [hh]
      simp
theorem OwnU.rd {w : World} {B : Nat} {v : Value} {xs : List UInt8} (h : OwnU w B v xs) : RdU w v xs := by
  rcases h.shape with h | ⟨g, cap, hv, _, hg, hc, hr, _⟩
  · exact .inl h
  · exact .inr (.inr ⟨g, 0, cap, hv, hg, hc, fun k hk => by simpa using hr k hk⟩)
theorem OwnU.val {w : World} {B : Nat} {v : Value} {xs : List UInt8} (h : OwnU w B v xs) : ∃ p cap, v = .slice p xs.length cap := h.rd.val
/-- Less of it. -/
theorem OwnU.take {w : World} {B g n cap : Nat} {xs : List UInt8} (h : OwnU w B (.slice (some ⟨g, 0, none⟩) n cap) xs) (k : Nat) (hk : k ≤ n) : OwnU w B (.slice (some ⟨g, 0, none⟩) k cap) (xs.take k) := by
  have hn : xs.length = n := h.rd.len.1
  subst hn
  have hk' : (xs.take k).length = k := by simp; omega
  rcases h.2 with ⟨h1, h2⟩ | ⟨g', cap', cur, hv, hg, hh, h3, h4, h5, h6⟩
  · simp at h1
  · simp only [Value.slice.injEq, Option.some.injEq, Addr.mk.injEq, and_true, true_and] at hv
    obtain ⟨rfl, rfl⟩ := hv
    refine ⟨by rw [ucells_length]; omega, .inr ⟨g, cap, cur, by rw [hk'], hg, hh, by omega, h4, h5, ?_⟩⟩
    rw [hk']
    have e : ucells (xs.take k) = (ucells xs).take k := by simp [ucells, List.map_take]
    rw [e, ← h6, List.take_take]
    congr 1; omega
theorem ucells_set (xs : List UInt8) (k : Nat) (c : UInt8) : ucells (xs.set k c) = (ucells xs).set k (.int .u8 (c.toNat : Int)) := by simp [ucells, List.map_set]
/-- One is stored. -/
theorem OwnU.store {w : World} {B g n cap : Nat} {xs : List UInt8} (h : OwnU w B (.slice (some ⟨g, 0, none⟩) n cap) xs) (k : Nat) (c : UInt8) : OwnU (w.setCell ⟨g, k, none⟩ (.int .u8 (c.toNat : Int))) B (.slice (some ⟨g, 0, none⟩) n cap) (xs.set k c) := by
  unfold OwnU
  rw [ucells_set, List.length_set]
  have hn : xs.length = n := h.rd.len.1
  subst hn
  exact (World.ownsRow.stored h k (.int .u8 (c.toNat : Int))).1
theorem ucells_one (xs : List UInt8) : ∀ u ∈ ucells xs, u.oneCell' = true := by
  intro u hu
  simp only [ucells, List.mem_map] at hu
  obtain ⟨a, _, rfl⟩ := hu
  rfl

section
variable {ops : Array Oper} {rest : List Oper} {o : Oper} {a : Act} {Q : Exit → Act → World → Prop} {w wr : World} {v : Value} {xs : List UInt8} {B T : Nat}
/-- append(s, c): the old row, or a new block. -/
theorem appendU {c : UInt8} {cv : Int} (hcv : (c.toNat : Int) = cv) (s x : Operand)
    (hown : OwnU wr B v xs) (hlen : xs.length < 2097152) (hBr : B ≤ wr.heap.size)
    (hw : w = wr.alloc (.cells #[.int .u8 cv] T))
    (hgd : o.guard = none) (ho : o.op = .call { callee := .builtin .append, args := #[s, x], argTypes := #[77, 77] })
    (hv : a.eval s = v) (hx : a.eval x = .slice (some ⟨wr.heap.size, 0, none⟩) 1 1)
    (h : ∀ g cap w', OwnU w' B (.slice (some ⟨g, 0, none⟩) (xs.length + 1) cap) (xs ++ [c]) → wr.grownBy w' v.ownBlock → (v.ownBlock = some g ∨ g = wr.heap.size + 1) → g < w'.heap.size → wpList Try.prog ops Q rest (a.put o.dst (.slice (some ⟨g, 0, none⟩) (xs.length + 1) cap)) w') :
    wpList Try.prog ops Q (o :: rest) a w := by
  obtain ⟨i0, hi, hz0, hz1, hz2⟩ := info_parts Try.infoU8
  subst hw
  subst hcv
  refine wpList_append_lies _ hgd s x 77 ho B 5 i0 (.int .u8 0) 1 1 Try.underlying77 hi hz0 hz1 hz2 rfl (by decide) v xs.length (ucells xs) hv (World.ownsRow.alloc hown _) ⟨wr.heap.size, 0, none⟩ 1 1 (ucells [c]) hx rfl ?_ (ucells_one _) (by decide) ?_ ?_ ?_ (wr.heap.size + 1) (by simp) ?_
  · intro j u hj
    cases j with
    | zero => simp [ucells] at hj; subst hj; simp [Addr.add]
    | succ j => simp [ucells] at hj
  · unfold maxLen; omega
  · omega
  · simp; omega
  · intro g cap w' h1 h2 h3 h4
    refine h g cap w' ?_ (grownBy_of_alloc h2) h3 h4
    unfold OwnU
    simpa [ucells] using h1
/-- append(s, y...): the ints of another slice. -/
theorem appendsU {y : Value} {ys : List UInt8} (s x : Operand)
    (hown : OwnU w B v xs) (hy : RdU w y ys) (hlen : xs.length + ys.length < 2097152) (hBr : B ≤ w.heap.size)
    (hgd : o.guard = none) (ho : o.op = .call { callee := .builtin .append, args := #[s, x], argTypes := #[77, 77] })
    (hv : a.eval s = v) (hx : a.eval x = y)
    (h : ∀ v' w', OwnU w' B v' (xs ++ ys) → w.grownBy w' v.ownBlock → wpList Try.prog ops Q rest (a.put o.dst v') w') :
    wpList Try.prog ops Q (o :: rest) a w := by
  obtain ⟨i0, hi, hz0, hz1, hz2⟩ := info_parts Try.infoU8
  rcases hy with ⟨rfl, rfl⟩ | ⟨ad, cap, rfl, rfl⟩ | ⟨g, off, cap, rfl, hg, hc, hr⟩
  · refine wpList_append_own_none hgd s x 77 ho B 5 i0 1 Try.underlying77 hi v xs.length (ucells xs) hv hown hx ?_
    exact h v w (by simpa using hown) ⟨rfl, rfl, rfl, Nat.le_refl _, fun _ _ _ => rfl⟩
  · refine wpList_append_own _ hgd s x 77 ho B 5 i0 (.int .u8 0) 1 1 Try.underlying77 hi hz0 hz1 hz2 rfl (by decide) v xs.length (ucells xs) hv hown ad 0 cap [] hx rfl (fun j u hj => by simp at hj) (fun u hu => by cases hu) ?_ ?_ hBr ?_
    · unfold maxLen; omega
    · omega
    · intro v' w' h1 h2 _
      refine h v' w' ?_ h2
      unfold OwnU
      simpa using h1
  · refine wpList_append_own _ hgd s x 77 ho B 5 i0 (.int .u8 0) 1 1 Try.underlying77 hi hz0 hz1 hz2 rfl (by decide) v xs.length (ucells xs) hv hown ⟨g, off, none⟩ ys.length cap (ucells ys) hx (by rw [ucells_length]; omega) ?_ (ucells_one _) ?_ ?_ hBr ?_
    · intro j u hj
      have hadd : (⟨g, off, none⟩ : Addr).add j = ⟨g, off + j, none⟩ := by unfold Addr.add; split <;> simp_all
      rw [hadd]
      have hj' : j < ys.length := by rw [← ucells_length]; exact (List.getElem?_eq_some_iff.1 hj).1
      rw [ucells_get ys j hj'] at hj
      simp only [Option.some.injEq] at hj
      rw [← hj]
      exact hr j hj'
    · unfold maxLen; omega
    · omega
    · intro v' w' h1 h2 _
      refine h v' w' ?_ h2
      unfold OwnU
      simpa [ucells] using h1
end
end Go.Proofs.Ytbbkfjbaocpknaa
