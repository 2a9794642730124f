/- Texts laid together: Ni, Ni2, AgMath, Ag1, Ag2, Ag3. -/
import Derived.Test.YtbbkfjbaocpknaaBA
import Derived.Deep.AppendLies
import Derived.Maps.OwnSet
import Derived.BigRegion
/- Memory: slices of ints, read and appended to. -/
namespace Go.Proofs.Ytbbkfjbaocpknaa
open Go.RowKit

/-- A slice that reads as ints. -/
def RdI (w : World) (v : Value) (xs : List Int) : Prop :=
  (v = .slice none 0 0 ∧ xs = []) ∨ (∃ a cap, v = .slice (some a) 0 cap ∧ xs = []) ∨
  ∃ g off cap, v = .slice (some ⟨g, off, none⟩) xs.length cap ∧ g < w.heap.size ∧ xs.length ≤ cap ∧
    ∀ k, k < xs.length → w.cell? ⟨g, off + k, none⟩ = some (.int .i64 (xs.getD k 0))
theorem RdI.nil (w : World) : RdI w (.slice none 0 0) [] := .inl ⟨rfl, rfl⟩
theorem RdI.val {w : World} {v : Value} {xs : List Int} (h : RdI w v xs) : ∃ p cap, v = .slice p xs.length cap := by
  rcases h with ⟨h1, h2⟩ | ⟨a, cap, h1, h2⟩ | ⟨g, off, cap, h1, _⟩
  · exact ⟨none, 0, by rw [h2]; exact h1⟩
  · exact ⟨some a, cap, by rw [h2]; exact h1⟩
  · exact ⟨_, cap, h1⟩
theorem RdI.keep {w w' : World} {v : Value} {xs : List Int} (h : RdI w v xs) (hk : ∀ g, g < w.heap.size → v.ownBlock = some g → w'.heap[g]? = w.heap[g]?) (hs : w.heap.size ≤ w'.heap.size) : RdI w' v xs := by
  rcases h with h | h | ⟨g, off, cap, rfl, hg, hc, hr⟩
  · exact .inl h
  · exact .inr (.inl h)
  · refine .inr (.inr ⟨g, off, cap, rfl, Nat.lt_of_lt_of_le hg hs, hc, fun k hk' => ?_⟩)
    have e := hk g hg rfl
    rw [World.cell?_of_block (w := w) (a := ⟨g, off + k, none⟩) e]
    exact hr k hk'
theorem RdI.below {w w' : World} {v : Value} {xs : List Int} {B : Nat} (h : RdI w v xs) (hb : Below B w w') (hB : w.heap.size ≤ B) : RdI w' v xs :=
  h.keep (fun g hg _ => hb.block g (Nat.lt_of_lt_of_le hg hB)) hb.size
theorem RdI.alloc {w : World} {v : Value} {xs : List Int} (h : RdI w v xs) (o : Obj) : RdI (w.alloc o) v xs :=
  h.keep (fun g hg _ => Below.heap_alloc w o g hg) (by simp)
theorem RdI.drewN {w : World} {v : Value} {xs : List Int} (h : RdI w v xs) (n : Nat) : RdI (w.drewN n) v xs := h.keep (fun _ _ _ => rfl) (Nat.le_refl _)
theorem RdI.any {w w' : World} {v : Value} (h : RdI w v []) : RdI w' v [] := by
  rcases h with h | h | ⟨g, off, cap, rfl, _⟩
  · exact .inl h
  · exact .inr (.inl h)
  · exact .inr (.inl ⟨_, _, rfl, rfl⟩)
theorem RdI.ltE {w : World} {v : Value} {xs : List Int} (h : RdI w v xs) : xs = [] ∨ ∀ g, v.ownBlock = some g → g < w.heap.size := by
  rcases h with h | ⟨_, _, _, h⟩ | ⟨g, off, cap, rfl, hg, _⟩
  · exact .inl h.2
  · exact .inl h
  · right; intro k hk; simp [Value.ownBlock] at hk; omega
/-- An element. -/
theorem RdI.at {w : World} {p : Option Addr} {n cap : Nat} {xs : List Int} (h : RdI w (.slice p n cap) xs) {k : Nat} (hk : k < xs.length) :
    ∃ g off a, p = some ⟨g, off, none⟩ ∧ xs.getD k 0 = a ∧ g < w.heap.size ∧ w.cell? ⟨g, off + k, none⟩ = some (.int .i64 a) := by
  rcases h with ⟨_, rfl⟩ | ⟨_, _, _, rfl⟩ | ⟨g, off, cap', hv, hg, _, hr⟩
  · simp at hk
  · simp at hk
  · simp only [Value.slice.injEq] at hv
    exact ⟨g, off, _, hv.1, rfl, hg, hr k hk⟩
theorem RdI.len {w : World} {p : Option Addr} {n cap : Nat} {xs : List Int} (h : RdI w (.slice p n cap) xs) : xs.length = n ∧ n ≤ cap := by
  rcases h with ⟨h, rfl⟩ | ⟨a', cap', h, rfl⟩ | ⟨g', off', cap', hv, hg, hc, hr⟩
  · simp only [Value.slice.injEq] at h; simp; omega
  · simp only [Value.slice.injEq] at h; simp; omega
  · simp only [Value.slice.injEq] at hv; omega
theorem RdI.take {w : World} {g off n cap : Nat} {xs : List Int} (h : RdI w (.slice (some ⟨g, off, none⟩) n cap) xs) (k : Nat) (hk : k ≤ n) : RdI w (.slice (some ⟨g, off, none⟩) k cap) (xs.take k) := by
  rcases h with ⟨h, _⟩ | ⟨a', cap', h, rfl⟩ | ⟨g', off', cap', hv, hg, hc, hr⟩
  · simp at h
  · simp only [Value.slice.injEq] at h
    obtain rfl : k = 0 := by omega
    exact .inr (.inl ⟨_, _, rfl, by simp⟩)
  · simp only [Value.slice.injEq, Option.some.injEq, Addr.mk.injEq] at hv
    obtain ⟨⟨rfl, rfl, _⟩, rfl, rfl⟩ := hv
    have e : (xs.take k).length = k := by simp; omega
    refine .inr (.inr ⟨g, off, cap, by rw [e], hg, by omega, fun j hj => ?_⟩)
    have e2 : (xs.take k).getD j 0 = xs.getD j 0 := by simp [List.getD, show j < k by omega]
    rw [e2]; exact hr j (by omega)
theorem RdI.drop {w : World} {g off n cap : Nat} {xs : List Int} (h : RdI w (.slice (some ⟨g, off, none⟩) n cap) xs) (k : Nat) (hk : k ≤ n) : RdI w (.slice (some ⟨g, off + k, none⟩) (n - k) (cap - k)) (xs.drop k) := by
  rcases h with ⟨h, _⟩ | ⟨a', cap', h, rfl⟩ | ⟨g', off', cap', hv, hg, hc, hr⟩
  · simp at h
  · simp only [Value.slice.injEq] at h
    obtain rfl : k = 0 := by omega
    obtain ⟨_, rfl, _⟩ := h
    exact .inr (.inl ⟨_, _, rfl, by simp⟩)
  · simp only [Value.slice.injEq, Option.some.injEq, Addr.mk.injEq] at hv
    obtain ⟨⟨rfl, rfl, _⟩, rfl, rfl⟩ := hv
    refine .inr (.inr ⟨g, off + k, cap - k, by simp, hg, by simp; omega, fun j hj => ?_⟩)
    have e2 : (xs.drop k).getD j 0 = xs.getD (k + j) 0 := by simp [List.getD]
    simp at hj
    have := hr (k + j) (by omega)
    rw [e2, show off + k + j = off + (k + j) by omega]
    exact this
theorem RdI.grown {w w' : World} {v : Value} {xs : List Int} {row : Option Nat} (h : RdI w v xs) (hg : w.grownBy w' row) (hne : ∀ g, v.ownBlock = some g → some g ≠ row) : RdI w' v xs :=
  h.keep (fun g hlt hg' => hg.block g hlt (hne g hg')) hg.size

theorem Try.infoI64 : (Try.prog.info? 3).map (fun i => (i.zero, i.size, i.bytes)) = some (some (.int .i64 0), 1, 8) := by kernel_rfl

/-- Ints of the call's own. -/
def jcells (xs : List Int) : List Value := xs.map (Value.int .i64)
theorem jcells_length (xs : List Int) : (jcells xs).length = xs.length := by simp [jcells]
theorem jcells_get (xs : List Int) (k : Nat) (hk : k < xs.length) : (jcells xs)[k]? = some (.int .i64 (xs.getD k 0)) := by simp [jcells, List.getElem?_eq_getElem hk, List.getD]
def OwnI (w : World) (B : Nat) (v : Value) (xs : List Int) : Prop := w.ownsRow B 3 1 v xs.length (jcells xs)
theorem OwnI.nil (w : World) (B : Nat) : OwnI w B (.slice none 0 0) [] := World.ownsRow_nil w B _ _
theorem OwnI.lt {w : World} {B : Nat} {v : Value} {xs : List Int} (h : OwnI w B v xs) : ∀ k, v.ownBlock = some k → B ≤ k := fun k hk => (World.ownsRow.lt h k hk).1
theorem OwnI.lt' {w : World} {B : Nat} {v : Value} {xs : List Int} (h : OwnI w B v xs) : ∀ k, v.ownBlock = some k → k < w.heap.size := fun k hk => (World.ownsRow.lt h k hk).2
theorem OwnI.mono {w : World} {B B' : Nat} {v : Value} {xs : List Int} (h : OwnI w B v xs) (hB : B' ≤ B) : OwnI w B' v xs := ownsRow_mono h hB
theorem OwnI.keep {w w' : World} {B : Nat} {v : Value} {xs : List Int} (h : OwnI w B v xs) (hk : ∀ k, v.ownBlock = some k → w'.heap[k]? = w.heap[k]?) : OwnI w' B v xs := ownsRow_keep h hk
theorem OwnI.below {w w' : World} {B B' : Nat} {v : Value} {xs : List Int} (h : OwnI w B v xs) (hb : Below B' w w') (hB : w.heap.size ≤ B') : OwnI w' B v xs :=
  h.keep fun k hk => hb.block k (Nat.lt_of_lt_of_le (h.lt' k hk) hB)
theorem OwnI.alloc {w : World} {B : Nat} {v : Value} {xs : List Int} (h : OwnI w B v xs) (o : Obj) : OwnI (w.alloc o) B v xs :=
  h.keep fun k hk => Below.heap_alloc w o k (h.lt' k hk)
theorem OwnI.drewN {w : World} {B : Nat} {v : Value} {xs : List Int} (h : OwnI w B v xs) (n : Nat) : OwnI (w.drewN n) B v xs := h.keep fun _ _ => rfl
theorem OwnI.grown {w w' : World} {B : Nat} {v : Value} {xs : List Int} {row : Option Nat} (h : OwnI w B v xs) (hg : w.grownBy w' row) (hne : ∀ k, v.ownBlock = some k → some k ≠ row) : OwnI w' B v xs :=
  h.keep fun k hk => hg.block k (h.lt' k hk) (hne k hk)
/-- Its form, and its cells. -/
theorem OwnI.shape {w : World} {B : Nat} {v : Value} {xs : List Int} (h : OwnI w B v xs) :
    (v = .slice none 0 0 ∧ xs = []) ∨ ∃ g cap, v = .slice (some ⟨g, 0, none⟩) xs.length cap ∧ B ≤ g ∧ g < w.heap.size ∧ xs.length ≤ cap ∧
      (∀ k, k < xs.length → w.cell? ⟨g, k, none⟩ = some (.int .i64 (xs.getD k 0))) ∧ ∀ k, w.frozen? ⟨g, k, none⟩ = false := by
  rcases h.2 with ⟨h1, h2⟩ | ⟨g, cap, cur, hv, hg, hh, h3, h4, h5, h6⟩
  · exact .inl ⟨h1, List.eq_nil_of_length_eq_zero h2⟩
  · refine .inr ⟨g, cap, hv, hg, (Array.getElem?_eq_some_iff.1 hh).1, h3, fun k hk => ?_, fun k => ?_⟩
    · subst hv
      have : w.cell? ⟨g, k, none⟩ = (jcells xs)[k]? := World.ownsRow.cellAt h k (by omega)
      rw [this]; exact jcells_get xs k hk
    · simp only [World.frozen?]
      rw [hh]
      simp
theorem OwnI.rd {w : World} {B : Nat} {v : Value} {xs : List Int} (h : OwnI w B v xs) : RdI w v xs := by
  rcases h.shape with h | ⟨g, cap, hv, _, hg, hc, hr, _⟩
  · exact .inl h
  · exact .inr (.inr ⟨g, 0, cap, hv, hg, hc, fun k hk => by simpa using hr k hk⟩)
theorem OwnI.val {w : World} {B : Nat} {v : Value} {xs : List Int} (h : OwnI w B v xs) : ∃ p cap, v = .slice p xs.length cap := h.rd.val
/-- Less of it. -/
theorem OwnI.take {w : World} {B g n cap : Nat} {xs : List Int} (h : OwnI w B (.slice (some ⟨g, 0, none⟩) n cap) xs) (k : Nat) (hk : k ≤ n) : OwnI w B (.slice (some ⟨g, 0, none⟩) k cap) (xs.take k) := by
  have hn : xs.length = n := h.rd.len.1
  subst hn
  have hk' : (xs.take k).length = k := by simp; omega
  rcases h.2 with ⟨h1, h2⟩ | ⟨g', cap', cur, hv, hg, hh, h3, h4, h5, h6⟩
  · simp at h1
  · simp only [Value.slice.injEq, Option.some.injEq, Addr.mk.injEq, and_true, true_and] at hv
    obtain ⟨rfl, rfl⟩ := hv
    refine ⟨by rw [jcells_length]; omega, .inr ⟨g, cap, cur, by rw [hk'], hg, hh, by omega, h4, h5, ?_⟩⟩
    rw [hk']
    have e : jcells (xs.take k) = (jcells xs).take k := by simp [jcells, List.map_take]
    rw [e, ← h6, List.take_take]
    congr 1; omega
theorem jcells_set (xs : List Int) (k : Nat) (c : Int) : jcells (xs.set k c) = (jcells xs).set k (.int .i64 c) := by simp [jcells, List.map_set]
/-- One is stored. -/
theorem OwnI.store {w : World} {B g n cap : Nat} {xs : List Int} (h : OwnI w B (.slice (some ⟨g, 0, none⟩) n cap) xs) (k : Nat) (c : Int) : OwnI (w.setCell ⟨g, k, none⟩ (.int .i64 c)) B (.slice (some ⟨g, 0, none⟩) n cap) (xs.set k c) := by
  unfold OwnI
  rw [jcells_set, List.length_set]
  have hn : xs.length = n := h.rd.len.1
  subst hn
  exact (World.ownsRow.stored h k (.int .i64 c)).1
theorem jcells_one (xs : List Int) : ∀ u ∈ jcells xs, u.oneCell' = true := by
  intro u hu
  simp only [jcells, List.mem_map] at hu
  obtain ⟨a, _, rfl⟩ := hu
  rfl

section
variable {ops : Array Oper} {rest : List Oper} {o : Oper} {a : Act} {Q : Exit → Act → World → Prop} {w wr : World} {v : Value} {xs : List Int} {B T : Nat}
/-- append(s, c): the old row, or a new block. -/
theorem appendI {c : Int} (s x : Operand)
    (hown : OwnI wr B v xs) (hlen : xs.length < 2097152) (hBr : B ≤ wr.heap.size)
    (hw : w = wr.alloc (.cells #[.int .i64 c] T))
    (hgd : o.guard = none) (ho : o.op = .call { callee := .builtin .append, args := #[s, x], argTypes := #[72, 72] })
    (hv : a.eval s = v) (hx : a.eval x = .slice (some ⟨wr.heap.size, 0, none⟩) 1 1)
    (h : ∀ g cap w', OwnI w' B (.slice (some ⟨g, 0, none⟩) (xs.length + 1) cap) (xs ++ [c]) → wr.grownBy w' v.ownBlock → (v.ownBlock = some g ∨ g = wr.heap.size + 1) → g < w'.heap.size → wpList Try.prog ops Q rest (a.put o.dst (.slice (some ⟨g, 0, none⟩) (xs.length + 1) cap)) w') :
    wpList Try.prog ops Q (o :: rest) a w := by
  obtain ⟨i0, hi, hz0, hz1, hz2⟩ := info_parts Try.infoI64
  subst hw
  refine wpList_append_lies _ hgd s x 72 ho B 3 i0 (.int .i64 0) 1 8 Try.underlying72 hi hz0 hz1 hz2 rfl (by decide) v xs.length (jcells xs) hv (World.ownsRow.alloc hown _) ⟨wr.heap.size, 0, none⟩ 1 1 (jcells [c]) hx rfl ?_ (jcells_one _) (by decide) ?_ ?_ ?_ (wr.heap.size + 1) (by simp) ?_
  · intro j u hj
    cases j with
    | zero => simp [jcells] at hj; subst hj; simp [Addr.add]
    | succ j => simp [jcells] at hj
  · unfold maxLen; omega
  · omega
  · simp; omega
  · intro g cap w' h1 h2 h3 h4
    refine h g cap w' ?_ (grownBy_of_alloc h2) h3 h4
    unfold OwnI
    simpa [jcells] using h1
/-- append(s, y...): the ints of another slice. -/
theorem appendsI {y : Value} {ys : List Int} (s x : Operand)
    (hown : OwnI w B v xs) (hy : RdI w y ys) (hlen : xs.length + ys.length < 2097152) (hBr : B ≤ w.heap.size)
    (hgd : o.guard = none) (ho : o.op = .call { callee := .builtin .append, args := #[s, x], argTypes := #[72, 72] })
    (hv : a.eval s = v) (hx : a.eval x = y)
    (h : ∀ v' w', OwnI w' B v' (xs ++ ys) → w.grownBy w' v.ownBlock → wpList Try.prog ops Q rest (a.put o.dst v') w') :
    wpList Try.prog ops Q (o :: rest) a w := by
  obtain ⟨i0, hi, hz0, hz1, hz2⟩ := info_parts Try.infoI64
  rcases hy with ⟨rfl, rfl⟩ | ⟨ad, cap, rfl, rfl⟩ | ⟨g, off, cap, rfl, hg, hc, hr⟩
  · refine wpList_append_own_none hgd s x 72 ho B 3 i0 1 Try.underlying72 hi v xs.length (jcells xs) hv hown hx ?_
    exact h v w (by simpa using hown) ⟨rfl, rfl, rfl, Nat.le_refl _, fun _ _ _ => rfl⟩
  · refine wpList_append_own _ hgd s x 72 ho B 3 i0 (.int .i64 0) 1 8 Try.underlying72 hi hz0 hz1 hz2 rfl (by decide) v xs.length (jcells xs) hv hown ad 0 cap [] hx rfl (fun j u hj => by simp at hj) (fun u hu => by cases hu) ?_ ?_ hBr ?_
    · unfold maxLen; omega
    · omega
    · intro v' w' h1 h2 _
      refine h v' w' ?_ h2
      unfold OwnI
      simpa using h1
  · refine wpList_append_own _ hgd s x 72 ho B 3 i0 (.int .i64 0) 1 8 Try.underlying72 hi hz0 hz1 hz2 rfl (by decide) v xs.length (jcells xs) hv hown ⟨g, off, none⟩ ys.length cap (jcells ys) hx (by rw [jcells_length]; omega) ?_ (jcells_one _) ?_ ?_ hBr ?_
    · intro j u hj
      have hadd : (⟨g, off, none⟩ : Addr).add j = ⟨g, off + j, none⟩ := by unfold Addr.add; split <;> simp_all
      rw [hadd]
      have hj' : j < ys.length := by rw [← jcells_length]; exact (List.getElem?_eq_some_iff.1 hj).1
      rw [jcells_get ys j hj'] at hj
      simp only [Option.some.injEq] at hj
      rw [← hj]
      exact hr j hj'
    · unfold maxLen; omega
    · omega
    · intro v' w' h1 h2 _
      refine h v' w' ?_ h2
      unfold OwnI
      simpa [jcells] using h1
end
end Go.Proofs.Ytbbkfjbaocpknaa

/- Slices of slices of ints. -/
namespace Go.Proofs.Ytbbkfjbaocpknaa
open Go.RowKit

/-- s[k:] -/
theorem sliceLoI {w : World} {p : Option Addr} {n c k : Nat} {xs : List Int} (h : RdI w (.slice p n c) xs) (hk : k ≤ n) :
    ∃ p', (∀ W : World, (Instr.sliceAt 72 (.slice p n c) (some (.int .i64 k)) none none).run Try.prog W = .ok (.slice p' (n - k) (c - k)) W) ∧ RdI w (.slice p' (n - k) (c - k)) (xs.drop k) ∧ (∀ g, Value.ownBlock (.slice p' (n - k) (c - k)) = some g → Value.ownBlock (.slice p n c) = some g) := by
  obtain ⟨h1, h2⟩ := h.len
  have h3 : (k : Int) ≤ (n : Int) := by omega
  have h5 : (0 : Int) ≤ (k : Int) := by omega
  cases p with
  | none =>
    have hz : n = 0 ∧ c = 0 ∧ xs = [] := by
      rcases h with ⟨h, hx⟩ | ⟨_, _, h, _⟩ | ⟨_, _, _, h, _⟩
      · simp only [Value.slice.injEq] at h; exact ⟨h.2.1, h.2.2, hx⟩
      · simp at h
      · simp at h
    obtain ⟨rfl, rfl, rfl⟩ := hz
    obtain rfl : k = 0 := by omega
    exact ⟨none, fun W => by simp [go_sem], RdI.nil w, fun g hg => hg⟩
  | some a =>
    by_cases hc : c = k
    · refine ⟨some a, fun W => ?_, ?_, fun g hg => hg⟩
      · subst hc
        have : n = c := by omega
        subst this
        simp [go_sem]
      · have hr : xs.drop k = [] := List.drop_eq_nil_of_le (by omega)
        rw [hr, show n - k = 0 by omega]
        exact .inr (.inl ⟨_, _, rfl, rfl⟩)
    · refine ⟨some (a.add k), fun W => ?_, ?_, fun g hg => by
        have e : (a.add k).block = a.block := by unfold Addr.add; split <;> rfl
        simp only [Value.ownBlock, Option.some.injEq] at hg ⊢
        rw [← e]; exact hg⟩
      · simp [go_sem, h3, h5, hc]
      · rcases h with ⟨h, _⟩ | ⟨a', cap', h, rfl⟩ | ⟨g', o', c', hv, hg, hcc, hr⟩
        · simp at h
        · simp only [Value.slice.injEq] at h
          have : n - k = 0 := by omega
          rw [this]
          exact .inr (.inl ⟨_, _, rfl, by simp⟩)
        · simp only [Value.slice.injEq, Option.some.injEq] at hv
          obtain ⟨rfl, rfl, rfl⟩ := hv
          have hadd : (⟨g', o', none⟩ : Addr).add k = ⟨g', o' + k, none⟩ := by unfold Addr.add; split <;> simp_all
          rw [hadd]
          exact (RdI.drop (.inr (.inr ⟨g', o', c, rfl, hg, hcc, hr⟩)) k hk)
/-- s[:k] -/
theorem sliceHiI {w : World} {p : Option Addr} {n c k : Nat} {xs : List Int} (h : RdI w (.slice p n c) xs) (hk : k ≤ n) :
    (∀ W : World, (Instr.sliceAt 72 (.slice p n c) none (some (.int .i64 k)) none).run Try.prog W = .ok (.slice p k c) W) ∧ RdI w (.slice p k c) (xs.take k) := by
  obtain ⟨h1, h2⟩ := h.len
  have h4 : (k : Int) ≤ (c : Int) := by omega
  have h5 : (0 : Int) ≤ (k : Int) := by omega
  cases p with
  | none =>
    have hz : n = 0 ∧ c = 0 ∧ xs = [] := by
      rcases h with ⟨h, hx⟩ | ⟨_, _, h, _⟩ | ⟨_, _, _, h, _⟩
      · simp only [Value.slice.injEq] at h; exact ⟨h.2.1, h.2.2, hx⟩
      · simp at h
      · simp at h
    obtain ⟨rfl, rfl, rfl⟩ := hz
    obtain rfl : k = 0 := by omega
    exact ⟨fun W => by simp [go_sem], RdI.nil w⟩
  | some a =>
    refine ⟨fun W => ?_, ?_⟩
    · by_cases hc : c = 0
      · subst hc
        obtain rfl : k = 0 := by omega
        simp [go_sem]
      · simp [go_sem, h4, h5, hc, Addr.add]
    · rcases h with ⟨h, _⟩ | ⟨a', cap', h, rfl⟩ | ⟨g', o', c', hv, hg, hcc, hr⟩
      · simp at h
      · simp only [Value.slice.injEq] at h
        have : k = 0 := by omega
        subst this
        exact .inr (.inl ⟨_, _, rfl, by simp⟩)
      · simp only [Value.slice.injEq, Option.some.injEq] at hv
        obtain ⟨rfl, rfl, rfl⟩ := hv
        exact (RdI.take (.inr (.inr ⟨g', o', c, rfl, hg, hcc, hr⟩)) k hk)
end Go.Proofs.Ytbbkfjbaocpknaa

/- The order of folding, lists in that order, and heaps (no program in sight). -/
namespace Go.Proofs.Ytbbkfjbaocpknaa
namespace Nl

theorem dep_nn (id : Int) : 0 ≤ depV id := by
  unfold depV depOk
  by_cases h : 1 ≤ id
  · have hb : 1 ≤ bitLen id.toNat := by
      unfold bitLen; rw [if_neg (by omega)]; omega
    rw [if_pos (by simpa using h)]; omega
  · rw [if_neg (by simpa using h)]; omega
/-- Does a node stand ahead of another one? -/
def aheadB (a b : Int) : Bool := decide (depV b < depV a ∨ (depV a = depV b ∧ a < b))
theorem ahead_irrefl (a : Int) : aheadB a a = false := by unfold aheadB; simp
theorem ahead_asymm {a b : Int} (h : aheadB a b = true) : aheadB b a = false := by
  unfold aheadB at *; simp only [decide_eq_true_eq, decide_eq_false_iff_not] at *; omega
theorem ahead_trans {a b c : Int} (h : aheadB a b = true) (k : aheadB b c = true) : aheadB a c = true := by
  unfold aheadB at *; simp only [decide_eq_true_eq] at *; omega
theorem ahead_total {a b : Int} (h : aheadB a b = false) (k : aheadB b a = false) : a = b := by
  unfold aheadB at *; simp only [decide_eq_false_iff_not] at *; omega
/-- Not ahead, one behind the other. -/
theorem nahead_trans {a b c : Int} (h : aheadB a b = false) (k : aheadB b c = false) : aheadB a c = false := by
  unfold aheadB at *; simp only [decide_eq_false_iff_not] at *; omega
theorem ahead_ne {a b : Int} (h : aheadB a b = true) : a ≠ b := fun e => by rw [e, ahead_irrefl] at h; cases h

/-- In the order of folding, each once. -/
def Ord (l : List Int) : Prop := l.Pairwise (fun a b => aheadB a b = true)
theorem Ord.nodup {l : List Int} (h : Ord l) : l.Nodup := List.Pairwise.imp (fun h => ahead_ne h) h
theorem Ord.tail {x : Int} {l : List Int} (h : Ord (x :: l)) : Ord l := (List.pairwise_cons.1 h).2
/-- One more, if it isn't there. -/
def withL (l : List Int) (id : Int) : List Int :=
  if (l.dropWhile (fun x => aheadB x id)).head? = some id then l else l.takeWhile (fun x => aheadB x id) ++ id :: l.dropWhile (fun x => aheadB x id)
theorem take_drop_while (l : List Int) (id : Int) : l.takeWhile (fun x => aheadB x id) ++ l.dropWhile (fun x => aheadB x id) = l := List.takeWhile_append_dropWhile
theorem takeWhile_ahead {l : List Int} {id x : Int} (h : x ∈ l.takeWhile (fun x => aheadB x id)) : aheadB x id = true := by
  induction l with
  | nil => simp at h
  | cons y r ih =>
    rw [List.takeWhile_cons] at h
    split at h
    · rename_i hy
      rcases List.mem_cons.1 h with rfl | h
      · exact hy
      · exact ih h
    · simp at h
theorem dropWhile_nahead {l : List Int} {id x : Int} (o : Ord l) (h : x ∈ l.dropWhile (fun x => aheadB x id)) : aheadB x id = false := by
  induction l with
  | nil => simp at h
  | cons y r ih =>
    obtain ⟨o1, o2⟩ := List.pairwise_cons.1 o
    rw [List.dropWhile_cons] at h
    split at h
    · exact ih o2 h
    · rename_i hy
      have hy' : aheadB y id = false := by simpa using hy
      rcases List.mem_cons.1 h with rfl | h
      · exact hy'
      · exact nahead_trans (ahead_asymm (o1 x h)) hy'
/-- If it is there, it is the first that isn't ahead of itself. -/
theorem dropWhile_head {l : List Int} {id : Int} (o : Ord l) (h : id ∈ l.dropWhile (fun x => aheadB x id)) : (l.dropWhile (fun x => aheadB x id)).head? = some id := by
  have hd : ∀ x ∈ l.dropWhile (fun x => aheadB x id), aheadB x id = false := fun x hx => dropWhile_nahead o hx
  have e := take_drop_while l id
  have o' := o
  rw [← e] at o'
  have o2 := (List.pairwise_append.1 o').2.1
  clear e o' o
  generalize l.dropWhile (fun x => aheadB x id) = d at *
  cases d with
  | nil => simp at h
  | cons z r =>
    rcases List.mem_cons.1 h with rfl | hr
    · rfl
    · have h2 := (List.pairwise_cons.1 o2).1 id hr
      rw [hd z (List.mem_cons_self ..)] at h2
      cases h2
theorem withL_old {l : List Int} {id : Int} (o : Ord l) (h : id ∈ l) : withL l id = l := by
  unfold withL
  rw [if_pos]
  refine dropWhile_head o ?_
  rw [← take_drop_while l id] at h
  rcases List.mem_append.1 h with h | h
  · have := takeWhile_ahead h; rw [ahead_irrefl] at this; cases this
  · exact h
theorem withL_new {l : List Int} {id : Int} (h : id ∉ l) : withL l id = l.takeWhile (fun x => aheadB x id) ++ id :: l.dropWhile (fun x => aheadB x id) := by
  unfold withL
  rw [if_neg]
  intro q
  refine h ?_
  rw [← take_drop_while l id]
  exact List.mem_append_right _ (List.mem_of_mem_head? q)
theorem withL_perm {l : List Int} {id : Int} (h : id ∉ l) : (withL l id).Perm (id :: l) := by
  rw [withL_new h]
  refine List.perm_middle.trans ?_
  rw [take_drop_while]
theorem withL_mem {l : List Int} (o : Ord l) {id x : Int} : x ∈ withL l id ↔ x = id ∨ x ∈ l := by
  by_cases h : id ∈ l
  · rw [withL_old o h]
    constructor
    · exact .inr
    · rintro (rfl | h')
      · exact h
      · exact h'
  · rw [(withL_perm h).mem_iff, List.mem_cons]
theorem withL_length {l : List Int} (o : Ord l) (id : Int) : (withL l id).length = if id ∈ l then l.length else l.length + 1 := by
  split
  · rename_i h; rw [withL_old o h]
  · rename_i h; rw [(withL_perm h).length_eq]; simp
theorem withL_ord {l : List Int} (o : Ord l) (id : Int) : Ord (withL l id) := by
  by_cases h : id ∈ l
  · rw [withL_old o h]; exact o
  · rw [withL_new h]
    have e := take_drop_while l id
    have o' := o
    rw [← e] at o'
    obtain ⟨o1, o2, o3⟩ := List.pairwise_append.1 o'
    refine List.pairwise_append.2 ⟨o1, List.pairwise_cons.2 ⟨fun y hy => ?_, o2⟩, fun a ha b hb => ?_⟩
    · have h1 := dropWhile_nahead o hy
      cases hq : aheadB id y
      · exfalso
        have hyi := ahead_total h1 hq
        subst hyi
        exact h (by rw [← e]; exact List.mem_append_right _ hy)
      · rfl
    · rcases List.mem_cons.1 hb with rfl | hb
      · exact takeWhile_ahead ha
      · exact o3 a ha b hb

/-- With one more, if it may be one. -/
def putL (l : List Int) (id : Int) : List Int := if 1 ≤ id then withL l id else l
theorem putL_ord {l : List Int} (o : Ord l) (id : Int) : Ord (putL l id) := by
  unfold putL; split
  · exact withL_ord o id
  · exact o
theorem putL_mem {l : List Int} (o : Ord l) {id x : Int} : x ∈ putL l id ↔ (x = id ∧ 1 ≤ id) ∨ x ∈ l := by
  unfold putL; split
  · rename_i h; rw [withL_mem o]; simp [h]
  · rename_i h; simp [h]
theorem putL_len {l : List Int} (o : Ord l) (id : Int) : (putL l id).length ≤ l.length + 1 := by
  unfold putL; split
  · rw [withL_length o]; split <;> omega
  · omega

/-! Heaps. -/
def HeapP (hs : List Int) : Prop := ∀ j, 0 < j → j < hs.length → aheadB (hs.getD j 0) (hs.getD ((j - 1) / 2) 0) = false
theorem HeapP.nil : HeapP [] := fun j _ h => by simp at h
theorem HeapP.first {hs : List Int} (h : HeapP hs) (j : Nat) (hj : j < hs.length) : aheadB (hs.getD j 0) (hs.getD 0 0) = false := by
  induction j using Nat.strongRecOn with
  | _ j ih =>
    by_cases h0 : j = 0
    · subst h0; exact ahead_irrefl _
    · exact nahead_trans (h j (by omega) hj) (ih ((j - 1) / 2) (by omega) (by omega))
def swapL (hs : List Int) (i j : Nat) : List Int := (hs.set i (hs.getD j 0)).set j (hs.getD i 0)
theorem swapL_length (hs : List Int) (i j : Nat) : (swapL hs i j).length = hs.length := by simp [swapL]
theorem swapL_getD {hs : List Int} {i j : Nat} (hi : i < hs.length) (hj : j < hs.length) (k : Nat) : (swapL hs i j).getD k 0 = if k = j then hs.getD i 0 else if k = i then hs.getD j 0 else hs.getD k 0 := by
  unfold swapL
  simp only [List.getD, List.getElem?_set, List.length_set]
  by_cases h1 : k = j
  · subst h1; simp [hj]
  · have h1' : ¬ j = k := fun e => h1 e.symm
    rw [if_neg h1', if_neg h1]
    by_cases h2 : k = i
    · subst h2; simp [hi]
    · have h2' : ¬ i = k := fun e => h2 e.symm
      rw [if_neg h2', if_neg h2]
theorem swapL_perm {hs : List Int} {i j : Nat} (hi : i < hs.length) (hj : j < hs.length) : (swapL hs i j).Perm hs := by
  have e : swapL hs i j = (hs.set i hs[j]).set j hs[i] := by
    unfold swapL; simp [List.getD, List.getElem?_eq_getElem hi, List.getElem?_eq_getElem hj]
  rw [e]
  exact List.set_set_perm hi hj
/-- A heap but for what stands at i, which may be ahead of its parent. -/
def HeapUp (hs : List Int) (i : Nat) : Prop :=
  (∀ j, 0 < j → j < hs.length → j ≠ i → aheadB (hs.getD j 0) (hs.getD ((j - 1) / 2) 0) = false) ∧
  ∀ j, 0 < j → j < hs.length → (j - 1) / 2 = i → 0 < i → aheadB (hs.getD j 0) (hs.getD ((i - 1) / 2) 0) = false
theorem HeapUp.start {hs : List Int} (h : HeapP hs) (x : Int) : HeapUp (hs ++ [x]) hs.length := by
  refine ⟨fun j h0 hj hne => ?_, fun j h0 hj e _ => ?_⟩
  · simp only [List.length_append, List.length_singleton] at hj
    have e1 : ∀ k, k < hs.length → (hs ++ [x]).getD k 0 = hs.getD k 0 := fun k hk => by simp [List.getD, List.getElem?_append_left hk]
    rw [e1 j (by omega), e1 _ (by omega)]
    exact h j h0 (by omega)
  · simp only [List.length_append, List.length_singleton] at hj; omega
theorem HeapUp.step {hs : List Int} {i : Nat} (h : HeapUp hs i) (h0 : 0 < i) (hi : i < hs.length) (ha : aheadB (hs.getD i 0) (hs.getD ((i - 1) / 2) 0) = true) : HeapUp (swapL hs i ((i - 1) / 2)) ((i - 1) / 2) := by
  obtain ⟨c1, c2⟩ := h
  have hp : (i - 1) / 2 < i := by omega
  generalize hpp : (i - 1) / 2 = p at *
  have hpl : p < hs.length := by omega
  refine ⟨fun j h1 hj hne => ?_, fun j h1 hj e hp0 => ?_⟩
  · rw [swapL_length] at hj
    rw [swapL_getD hi hpl, swapL_getD hi hpl, if_neg hne]
    by_cases e1 : j = i
    · subst e1
      rw [if_pos rfl, hpp, if_pos rfl]
      exact ahead_asymm ha
    · rw [if_neg e1]
      by_cases e2 : (j - 1) / 2 = i
      · rw [if_neg (by omega), if_pos e2]
        exact c2 j h1 hj e2 h0
      · by_cases e3 : (j - 1) / 2 = p
        · rw [if_pos e3]
          have := c1 j h1 hj e1
          rw [e3] at this
          exact nahead_trans this (ahead_asymm ha)
        · rw [if_neg e3, if_neg e2]
          exact c1 j h1 hj e1
  · rw [swapL_length] at hj
    rw [swapL_getD hi hpl, swapL_getD hi hpl, if_neg (show j ≠ p by omega), if_neg (show (p - 1) / 2 ≠ p by omega), if_neg (show (p - 1) / 2 ≠ i by omega)]
    have cp := c1 p hp0 hpl (by omega)
    by_cases e1 : j = i
    · rw [if_pos e1]; exact cp
    · rw [if_neg e1]
      have := c1 j h1 hj e1
      rw [e] at this
      exact nahead_trans this cp
theorem HeapUp.done {hs : List Int} {i : Nat} (h : HeapUp hs i) (ha : i = 0 ∨ aheadB (hs.getD i 0) (hs.getD ((i - 1) / 2) 0) = false) : HeapP hs := fun j h0 hj => by
  by_cases e : j = i
  · subst e
    rcases ha with ha | ha
    · omega
    · exact ha
  · exact h.1 j h0 hj e
/-- A heap but for what stands at i, which its children may be ahead of. -/
def HeapDown (hs : List Int) (i : Nat) : Prop :=
  (∀ j, 0 < j → j < hs.length → (j - 1) / 2 ≠ i → aheadB (hs.getD j 0) (hs.getD ((j - 1) / 2) 0) = false) ∧
  ∀ j, 0 < j → j < hs.length → (j - 1) / 2 = i → 0 < i → aheadB (hs.getD j 0) (hs.getD ((i - 1) / 2) 0) = false
theorem HeapDown.step {hs : List Int} {i f : Nat} (h : HeapDown hs i) (hf : f = 2 * i + 1 ∨ f = 2 * i + 2) (hfl : f < hs.length) (ha : aheadB (hs.getD f 0) (hs.getD i 0) = true)
    (hm : ∀ c, (c = 2 * i + 1 ∨ c = 2 * i + 2) → c < hs.length → aheadB (hs.getD c 0) (hs.getD f 0) = false) : HeapDown (swapL hs i f) f := by
  obtain ⟨c1, c2⟩ := h
  have hi : i < hs.length := by omega
  refine ⟨fun j h1 hj hne => ?_, fun j h1 hj e hp0 => ?_⟩
  · rw [swapL_length] at hj
    rw [swapL_getD hi hfl, swapL_getD hi hfl, if_neg hne]
    by_cases e2 : (j - 1) / 2 = i
    · rw [if_pos e2]
      by_cases e1 : j = f
      · rw [if_pos e1]; exact ahead_asymm ha
      · rw [if_neg e1, if_neg (by omega)]
        exact hm j (by omega) hj
    · rw [if_neg e2, if_neg (show j ≠ f by omega)]
      by_cases e1 : j = i
      · rw [if_pos e1]
        subst e1
        exact c2 f (by omega) hfl (by omega) h1
      · rw [if_neg e1]
        exact c1 j h1 hj e2
  · rw [swapL_length] at hj
    rw [swapL_getD hi hfl, swapL_getD hi hfl, if_neg (show j ≠ f by omega), if_neg (show j ≠ i by omega), if_neg (show (f - 1) / 2 ≠ f by omega), if_pos (show (f - 1) / 2 = i by omega)]
    have := c1 j h1 hj (by omega)
    rw [e] at this
    exact this
theorem HeapDown.done {hs : List Int} {i : Nat} (h : HeapDown hs i) (hm : ∀ c, (c = 2 * i + 1 ∨ c = 2 * i + 2) → c < hs.length → aheadB (hs.getD c 0) (hs.getD i 0) = false) : HeapP hs := fun j h0 hj => by
  by_cases e : (j - 1) / 2 = i
  · have := hm j (by omega) hj
    rw [e]; exact this
  · exact h.1 j h0 hj e
/-- What is left when the first is taken: the last stands in its place. -/
def popL (hs : List Int) : List Int := (hs.set 0 (hs.getD (hs.length - 1) 0)).take (hs.length - 1)
theorem popL_length (hs : List Int) : (popL hs).length = hs.length - 1 := by simp [popL]
theorem popL_perm {hs : List Int} (h : 0 < hs.length) : hs.Perm (hs.getD 0 0 :: popL hs) := by
  cases hs with
  | nil => simp at h
  | cons x r =>
    by_cases hr : r = []
    · subst hr; exact .refl _
    · have e := List.dropLast_concat_getLast hr
      have hl : 0 < r.length := by cases r with | nil => exact absurd rfl hr | cons => simp
      have e2 : popL (x :: r) = r.getLast hr :: r.dropLast := by
        unfold popL
        have e3 : (x :: r).length - 1 = (r.length - 1) + 1 := by simp; omega
        have e4 : (x :: r).getD ((x :: r).length - 1) 0 = r.getLast hr := by
          rw [e3, List.getD_cons_succ, List.getLast_eq_getElem, List.getD_eq_getElem?_getD, List.getElem?_eq_getElem (by omega)]; rfl
        rw [e4, e3, List.set_cons_zero, List.take_succ_cons, List.dropLast_eq_take]
      rw [e2]
      show (x :: r).Perm (x :: r.getLast hr :: r.dropLast)
      refine List.Perm.cons x ?_
      have := (List.perm_append_comm (l₁ := r.dropLast) (l₂ := [r.getLast hr]))
      rw [e] at this
      exact this
theorem HeapDown.start {hs : List Int} (h : HeapP hs) : HeapDown (popL hs) 0 := by
  refine ⟨fun j h0 hj hne => ?_, fun j _ _ _ h => by omega⟩
  rw [popL_length] at hj
  have e1 : ∀ k, 0 < k → k < hs.length - 1 → (popL hs).getD k 0 = hs.getD k 0 := fun k hk hk2 => by
    unfold popL; simp only [List.getD, List.getElem?_take, if_pos hk2, List.getElem?_set]
    rw [if_neg (by omega)]
  rw [e1 j h0 hj, e1 _ (by omega) (by omega)]
  exact h j h0 (by omega)
/-- The heap's first is the list's first. -/
theorem heap_head {hs l : List Int} {y : Int} (h : HeapP hs) (p : hs.Perm (y :: l)) (o : Ord (y :: l)) : hs.getD 0 0 = y := by
  have hl : 0 < hs.length := by rw [p.length_eq]; simp
  have h1 : hs.getD 0 0 ∈ y :: l := p.mem_iff.1 (by simp [List.getD, List.getElem?_eq_getElem hl])
  have h2 : y ∈ hs := p.mem_iff.2 (List.mem_cons_self ..)
  obtain ⟨k, hk, e⟩ := List.getElem_of_mem h2
  have h3 := h.first k hk
  rw [List.getD_eq_getElem?_getD, List.getElem?_eq_getElem hk, Option.getD_some, e] at h3
  rcases List.mem_cons.1 h1 with h1 | h1
  · exact h1
  · have := (List.pairwise_cons.1 o).1 _ h1
    rw [h3] at this; cases this
end Nl
end Go.Proofs.Ytbbkfjbaocpknaa

/- Memory: a set of ints in a map; an agenda. -/
namespace Go.Proofs.Ytbbkfjbaocpknaa
open Go.RowKit Go.Maps Nl

theorem wf64 {i : Int} (h : In64 i) : (Lit.int .i64 i).wf = true := by
  obtain ⟨h1, h2⟩ := h
  simp only [Lit.wf, Bool.and_eq_true, decide_eq_true_eq]
  exact ⟨h1, h2⟩
theorem Try.keyedInt : Keyed Try.prog 3 := int_keyed Try.underlying3
/-- A map whose keys are just these ints. -/
def SetM (w : World) (b : Nat) (hs : List Int) : Prop :=
  ∃ D : DataW Unit, w.ownsMap Try.prog 3 unitElem b hs.length D ∧ Maps.size D = hs.length ∧ ∀ i : Int, Maps.has D (.int .i64 i) = decide (i ∈ hs)
theorem SetM.made (w : World) : SetM (w.alloc (.map #[] 0)) w.heap.size [] := ⟨.map [], World.ownsMap_made _ _ _ _, rfl, fun i => by simp [Maps.has]⟩
theorem SetM.lt {w : World} {b : Nat} {hs : List Int} (h : SetM w b hs) : b < w.heap.size := by obtain ⟨D, h, _⟩ := h; exact h.lt
theorem SetM.obj {w : World} {b : Nat} {hs : List Int} (h : SetM w b hs) : ∃ es clock, w.heap[b]? = some (.map es clock) := by obtain ⟨D, ⟨es, clock, h, _⟩, _⟩ := h; exact ⟨es, clock, h⟩
theorem SetM.keep {w w' : World} {b : Nat} {hs : List Int} (h : SetM w b hs) (e : w'.heap[b]? = w.heap[b]?) : SetM w' b hs := by
  obtain ⟨D, ⟨es, clock, hb, r⟩, h2⟩ := h
  exact ⟨D, ⟨es, clock, e.trans hb, r⟩, h2⟩
theorem SetM.perm {w : World} {b : Nat} {hs hs' : List Int} (h : SetM w b hs) (p : hs.Perm hs') : SetM w b hs' := by
  obtain ⟨D, h1, h2, h3⟩ := h
  exact ⟨D, h1.mono (Nat.le_of_eq p.length_eq), h2.trans p.length_eq, fun i => by rw [h3, decide_eq_decide]; exact p.mem_iff⟩
theorem ownsMap_tight {w : World} {b n : Nat} {D : DataW Unit} (h : w.ownsMap Try.prog 3 unitElem b n D) : w.ownsMap Try.prog 3 unitElem b (Maps.size D) D := by
  obtain ⟨es, clock, hb, F, _, rfl⟩ := h
  refine ⟨es, clock, hb, F, ?_, rfl⟩
  simp [Maps.size, length_sorted]
theorem lit_ne {a b : Int} (h : a ≠ b) : Lit.int .i64 a ≠ Lit.int .i64 b := fun e => by injection e with _ e; exact h e
section
variable {ops : Array Oper} {rest : List Oper} {o : Oper} {a : Act} {Q : Exit → Act → World → Prop} {w : World} {b : Nat} {hs : List Int} {id : Int}
end

/-- What an agenda turns: its block, its map, its heap's row; and new blocks. -/
structure Tch3 (a b : Nat) (v : Value) (w w' : World) : Prop where
  os : w'.os = w.os
  tape : w'.tape = w.tape
  output : w'.output = w.output
  size : w.heap.size ≤ w'.heap.size
  block : ∀ k, k < w.heap.size → k ≠ a → k ≠ b → v.ownBlock ≠ some k → w'.heap[k]? = w.heap[k]?
/-- The same row, or a new one. -/
def Fr (w : World) (v v' : Value) : Prop := v'.ownBlock = v.ownBlock ∨ ∃ k, v'.ownBlock = some k ∧ w.heap.size ≤ k
theorem Fr.refl (w : World) (v : Value) : Fr w v v := .inl rfl
theorem Fr.trans {w w' : World} {v v' v'' : Value} (h : Fr w v v') (k : Fr w' v' v'') (hs : w.heap.size ≤ w'.heap.size) : Fr w v v'' := by
  rcases k with k | ⟨j, k1, k2⟩
  · rcases h with h | ⟨i, h1, h2⟩
    · exact .inl (k.trans h)
    · exact .inr ⟨i, k.trans h1, h2⟩
  · exact .inr ⟨j, k1, Nat.le_trans hs k2⟩
theorem Fr.ne {w : World} {v v' : Value} (h : Fr w v v') {k : Nat} (hk : k < w.heap.size) (hv : v.ownBlock ≠ some k) : v'.ownBlock ≠ some k := by
  rcases h with h | ⟨i, h1, h2⟩
  · rw [h]; exact hv
  · rw [h1]; intro e; cases e; omega
theorem Tch3.refl (a b : Nat) (v : Value) (w : World) : Tch3 a b v w w := ⟨rfl, rfl, rfl, Nat.le_refl _, fun _ _ _ _ _ => rfl⟩
theorem Tch3.trans {a b : Nat} {v v' : Value} {w w' w'' : World} (h : Tch3 a b v w w') (k : Tch3 a b v' w' w'') (f : Fr w v v') : Tch3 a b v w w'' :=
  ⟨k.os.trans h.os, k.tape.trans h.tape, k.output.trans h.output, Nat.le_trans h.size k.size, fun j hj h1 h2 h3 => (k.block j (Nat.lt_of_lt_of_le hj h.size) h1 h2 (f.ne hj h3)).trans (h.block j hj h1 h2 h3)⟩
theorem Tch3.of_below {a b : Nat} {v : Value} {w w' : World} (h : Below w.heap.size w w') : Tch3 a b v w w' := ⟨h.os, h.tape, h.output, h.size, fun k hk _ _ _ => h.block k hk⟩
theorem Tch3.of_grown {a b : Nat} {v : Value} {w w' : World} {row : Option Nat} (h : w.grownBy w' row) (hr : ∀ k, row = some k → k = a ∨ k = b ∨ v.ownBlock = some k) : Tch3 a b v w w' :=
  ⟨h.os, h.tape, h.output, h.size, fun k hk h1 h2 h3 => h.block k hk (fun e => by
    rcases hr k e.symm with e | e | e
    · exact h1 e
    · exact h2 e
    · exact h3 e)⟩
theorem Tch3.of_map {a b : Nat} {v : Value} {w w' : World} (h : w.mapTurned w' b) : Tch3 a b v w w' := Tch3.of_grown h.grown (fun k e => by cases e; exact .inr (.inl rfl))
theorem Tch3.setCell {a b : Nat} {v : Value} (w : World) (g j : Nat) (u : Value) (hg : g = a ∨ v.ownBlock = some g) : Tch3 a b v w (w.setCell ⟨g, j, none⟩ u) :=
  ⟨rfl, rfl, rfl, by simp, fun k _ h1 _ h3 => Below.heap_setCell w ⟨g, j, none⟩ u k (fun e => by
    have e' : k = g := e
    rcases hg with h | h
    · exact h1 (e'.trans h)
    · exact h3 (by rw [e']; exact h))⟩
theorem Tch3.below {a b B : Nat} {v : Value} {w w' : World} (h : Tch3 a b v w w') (ha : B ≤ a) (hb : B ≤ b) (hv : ∀ k, v.ownBlock = some k → B ≤ k) (hB : B ≤ w.heap.size) : Below B w w' :=
  ⟨h.os, h.tape, h.output, h.size, fun k hk => h.block k (by omega) (by omega) (by omega) (fun e => by have := hv k e; omega)⟩

/-- What turns a slice's own row alone. -/
structure Tch1 (v : Value) (w w' : World) : Prop where
  os : w'.os = w.os
  tape : w'.tape = w.tape
  output : w'.output = w.output
  size : w.heap.size ≤ w'.heap.size
  block : ∀ k, k < w.heap.size → v.ownBlock ≠ some k → w'.heap[k]? = w.heap[k]?
theorem Tch1.refl (v : Value) (w : World) : Tch1 v w w := ⟨rfl, rfl, rfl, Nat.le_refl _, fun _ _ _ => rfl⟩
theorem Tch1.trans {v : Value} {w w' w'' : World} (h : Tch1 v w w') (k : Tch1 v w' w'') : Tch1 v w w'' :=
  ⟨k.os.trans h.os, k.tape.trans h.tape, k.output.trans h.output, Nat.le_trans h.size k.size, fun j hj h3 => (k.block j (Nat.lt_of_lt_of_le hj h.size) h3).trans (h.block j hj h3)⟩
theorem Tch1.drewN {v : Value} {w w' : World} (h : Tch1 v w w') (n : Nat) : Tch1 v w (w'.drewN n) := ⟨h.os, h.tape, h.output, h.size, h.block⟩
theorem Tch1.drew {v : Value} {w w' : World} (h : Tch1 v w w') : Tch1 v w w'.drew := ⟨h.os, h.tape, h.output, h.size, h.block⟩
theorem Tch1.to3 {v : Value} {w w' : World} (h : Tch1 v w w') (a b : Nat) : Tch3 a b v w w' := ⟨h.os, h.tape, h.output, h.size, fun k hk _ _ h3 => h.block k hk h3⟩
theorem Tch1.setCell {v : Value} (w : World) (g j : Nat) (u : Value) (hg : v.ownBlock = some g) : Tch1 v w (w.setCell ⟨g, j, none⟩ u) :=
  ⟨rfl, rfl, rfl, by simp, fun k _ h3 => Below.heap_setCell w ⟨g, j, none⟩ u k (fun e => h3 (by
    have e' : k = g := e
    rw [e']; exact hg))⟩
theorem Tch1.of_below {v : Value} {w w' : World} (h : Below w.heap.size w w') : Tch1 v w w' := ⟨h.os, h.tape, h.output, h.size, fun k hk _ => h.block k hk⟩

theorem Tch3.drew {a b : Nat} {v : Value} {w w' : World} (h : Tch3 a b v w w') : Tch3 a b v w w'.drew := ⟨h.os, h.tape, h.output, h.size, h.block⟩
theorem Tch3.drewN {a b : Nat} {v : Value} {w w' : World} (h : Tch3 a b v w w') (n : Nat) : Tch3 a b v w (w'.drewN n) := ⟨h.os, h.tape, h.output, h.size, h.block⟩
end Go.Proofs.Ytbbkfjbaocpknaa

/- The walks of bits.Len64, reckon.Log, twig.Depth, fold.ahead, the reference's Ahead. -/
namespace Go.Proofs.Ytbbkfjbaocpknaa
open Go.RowKit Nl

theorem w64_in (n : Int) (h0 : 0 ≤ n) (h1 : n ≤ 9223372036854775807) : wrap64 n = n := IntWalk.wrap64_in n ⟨by omega, by omega⟩
theorem len_small (x : Int) (hx : 0 ≤ x) (hx1 : x < 256) : wrap64 (wrap64 ((bitLen x.toNat : Nat) : Int)) = (bitLen x.toNat : Nat) := by
  have := bitLen_le8 x.toNat (by omega)
  rw [w64_in ((bitLen x.toNat : Nat) : Int) (by omega) (by omega), w64_in _ (by omega) (by omega)]
theorem len_close (c K : Nat) (hK : 2 ^ c = K) (x y : Int) (hy : 0 < y) (hy1 : y < 256) (hx : x.toNat / K = y.toNat) (hc : c ≤ 56) :
    wrap64 ((c : Int) + wrap64 ((bitLen y.toNat : Nat) : Int)) = (bitLen x.toNat : Nat) := by
  have h8 := bitLen_le8 y.toNat (by omega)
  subst hK
  rw [w64_in ((bitLen y.toNat : Nat) : Int) (by omega) (by omega), w64_in _ (by omega) (by omega)]
  have := bitLen_shift x.toNat c (by rw [hx]; omega)
  rw [this, hx]
  omega

end Go.Proofs.Ytbbkfjbaocpknaa

/- The walks of an agenda: swap, Len, Put. -/
namespace Go.Proofs.Ytbbkfjbaocpknaa
open Go.RowKit Go.Maps Nl

theorem calls_flip {P : Program} {f : FuncId} {args : Array Value} {w : World} {v : Value} (h : Calls P f args w fun e w' => e = .returned v ∧ w = w') : Calls P f args w fun e w' => e = .returned v ∧ w' = w := h.mono fun _ _ ⟨a, b⟩ => ⟨a, b.symm⟩

end Go.Proofs.Ytbbkfjbaocpknaa
