/- Texts laid together: Ns, Sr11, SrMath3. -/
import Derived.Test.YthdljlclcepnhaaGreatBA
import Derived.Deep.AppendLies
import Derived.Test.YthdljlclcepnhaaGreatSRC
import Derived.Test.YthdljlclcepnhaaGreatBF
import Derived.Test.YthdljlclcepnhaaGreatSh2
/- Memory: slices of texts, read and appended to. -/
namespace Go.Proofs.YthdljlclcepnhaaGreat
open Go.RowKit

/-- A slice that reads as ints. -/
def RdS (w : World) (v : Value) (xs : List ByteArray) : Prop :=
  (v = .slice none 0 0 ∧ xs = []) ∨ (∃ a cap, v = .slice (some a) 0 cap ∧ xs = []) ∨
  ∃ g off cap, v = .slice (some ⟨g, off, none⟩) xs.length cap ∧ g < w.heap.size ∧ xs.length ≤ cap ∧
    ∀ k, k < xs.length → w.cell? ⟨g, off + k, none⟩ = some (.string (xs.getD k ⟨#[]⟩))
theorem RdS.nil (w : World) : RdS w (.slice none 0 0) [] := .inl ⟨rfl, rfl⟩
theorem RdS.val {w : World} {v : Value} {xs : List ByteArray} (h : RdS w v xs) : ∃ p cap, v = .slice p xs.length cap := by
  rcases h with ⟨h1, h2⟩ | ⟨a, cap, h1, h2⟩ | ⟨g, off, cap, h1, _⟩
  · exact ⟨none, 0, by rw [h2]; exact h1⟩
  · exact ⟨some a, cap, by rw [h2]; exact h1⟩
  · exact ⟨_, cap, h1⟩
theorem RdS.keep {w w' : World} {v : Value} {xs : List ByteArray} (h : RdS w v xs) (hk : ∀ g, g < w.heap.size → v.ownBlock = some g → w'.heap[g]? = w.heap[g]?) (hs : w.heap.size ≤ w'.heap.size) : RdS w' v xs := by
  rcases h with h | h | ⟨g, off, cap, rfl, hg, hc, hr⟩
  · exact .inl h
  · exact .inr (.inl h)
  · refine .inr (.inr ⟨g, off, cap, rfl, Nat.lt_of_lt_of_le hg hs, hc, fun k hk' => ?_⟩)
    have e := hk g hg rfl
    rw [World.cell?_of_block (w := w) (a := ⟨g, off + k, none⟩) e]
    exact hr k hk'
theorem RdS.below {w w' : World} {v : Value} {xs : List ByteArray} {B : Nat} (h : RdS w v xs) (hb : Below B w w') (hB : w.heap.size ≤ B) : RdS w' v xs :=
  h.keep (fun g hg _ => hb.block g (Nat.lt_of_lt_of_le hg hB)) hb.size
theorem RdS.alloc {w : World} {v : Value} {xs : List ByteArray} (h : RdS w v xs) (o : Obj) : RdS (w.alloc o) v xs :=
  h.keep (fun g hg _ => Below.heap_alloc w o g hg) (by simp)
theorem RdS.drewN {w : World} {v : Value} {xs : List ByteArray} (h : RdS w v xs) (n : Nat) : RdS (w.drewN n) v xs := h.keep (fun _ _ _ => rfl) (Nat.le_refl _)
theorem RdS.any {w w' : World} {v : Value} (h : RdS w v []) : RdS w' v [] := by
  rcases h with h | h | ⟨g, off, cap, rfl, _⟩
  · exact .inl h
  · exact .inr (.inl h)
  · exact .inr (.inl ⟨_, _, rfl, rfl⟩)
theorem RdS.ltE {w : World} {v : Value} {xs : List ByteArray} (h : RdS w v xs) : xs = [] ∨ ∀ g, v.ownBlock = some g → g < w.heap.size := by
  rcases h with h | ⟨_, _, _, h⟩ | ⟨g, off, cap, rfl, hg, _⟩
  · exact .inl h.2
  · exact .inl h
  · right; intro k hk; simp [Value.ownBlock] at hk; omega
/-- An element. -/
theorem RdS.at {w : World} {p : Option Addr} {n cap : Nat} {xs : List ByteArray} (h : RdS w (.slice p n cap) xs) {k : Nat} (hk : k < xs.length) :
    ∃ g off a, p = some ⟨g, off, none⟩ ∧ xs.getD k ⟨#[]⟩ = a ∧ g < w.heap.size ∧ w.cell? ⟨g, off + k, none⟩ = some (.string a) := by
  rcases h with ⟨_, rfl⟩ | ⟨_, _, _, rfl⟩ | ⟨g, off, cap', hv, hg, _, hr⟩
  · simp at hk
  · simp at hk
  · simp only [Value.slice.injEq] at hv
    exact ⟨g, off, _, hv.1, rfl, hg, hr k hk⟩
theorem RdS.len {w : World} {p : Option Addr} {n cap : Nat} {xs : List ByteArray} (h : RdS w (.slice p n cap) xs) : xs.length = n ∧ n ≤ cap := by
  rcases h with ⟨h, rfl⟩ | ⟨a', cap', h, rfl⟩ | ⟨g', off', cap', hv, hg, hc, hr⟩
  · simp only [Value.slice.injEq] at h; simp; omega
  · simp only [Value.slice.injEq] at h; simp; omega
  · simp only [Value.slice.injEq] at hv; omega
theorem RdS.take {w : World} {g off n cap : Nat} {xs : List ByteArray} (h : RdS w (.slice (some ⟨g, off, none⟩) n cap) xs) (k : Nat) (hk : k ≤ n) : RdS w (.slice (some ⟨g, off, none⟩) k cap) (xs.take k) := by
  rcases h with ⟨h, _⟩ | ⟨a', cap', h, rfl⟩ | ⟨g', off', cap', hv, hg, hc, hr⟩
  · simp at h
  · simp only [Value.slice.injEq] at h
    obtain rfl : k = 0 := by omega
    exact .inr (.inl ⟨_, _, rfl, by simp⟩)
  · simp only [Value.slice.injEq, Option.some.injEq, Addr.mk.injEq] at hv
    obtain ⟨⟨rfl, rfl, _⟩, rfl, rfl⟩ := hv
    have e : (xs.take k).length = k := by simp; omega
    refine .inr (.inr ⟨g, off, cap, by rw [e], hg, by omega, fun j hj => ?_⟩)
    have e2 : (xs.take k).getD j ⟨#[]⟩ = xs.getD j ⟨#[]⟩ := by simp [List.getD, show j < k by omega]
    rw [e2]; exact hr j (by omega)
theorem RdS.drop {w : World} {g off n cap : Nat} {xs : List ByteArray} (h : RdS w (.slice (some ⟨g, off, none⟩) n cap) xs) (k : Nat) (hk : k ≤ n) : RdS w (.slice (some ⟨g, off + k, none⟩) (n - k) (cap - k)) (xs.drop k) := by
  rcases h with ⟨h, _⟩ | ⟨a', cap', h, rfl⟩ | ⟨g', off', cap', hv, hg, hc, hr⟩
  · simp at h
  · simp only [Value.slice.injEq] at h
    obtain rfl : k = 0 := by omega
    obtain ⟨_, rfl, _⟩ := h
    exact .inr (.inl ⟨_, _, rfl, by simp⟩)
  · simp only [Value.slice.injEq, Option.some.injEq, Addr.mk.injEq] at hv
    obtain ⟨⟨rfl, rfl, _⟩, rfl, rfl⟩ := hv
    refine .inr (.inr ⟨g, off + k, cap - k, by simp, hg, by simp; omega, fun j hj => ?_⟩)
    have e2 : (xs.drop k).getD j ⟨#[]⟩ = xs.getD (k + j) ⟨#[]⟩ := by simp [List.getD]
    simp at hj
    have := hr (k + j) (by omega)
    rw [e2, show off + k + j = off + (k + j) by omega]
    exact this
theorem RdS.grown {w w' : World} {v : Value} {xs : List ByteArray} {row : Option Nat} (h : RdS w v xs) (hg : w.grownBy w' row) (hne : ∀ g, v.ownBlock = some g → some g ≠ row) : RdS w' v xs :=
  h.keep (fun g hlt hg' => hg.block g hlt (hne g hg')) hg.size

theorem Tryz.infoStr : (Tryz.prog.info? 9).map (fun i => (i.zero, i.size, i.bytes)) = some (some (.string ⟨#[]⟩), 1, 16) := by kernel_rfl

/-- Ints of the call's own. -/
def scells (xs : List ByteArray) : List Value := xs.map Value.string
theorem scells_length (xs : List ByteArray) : (scells xs).length = xs.length := by simp [scells]
theorem scells_get (xs : List ByteArray) (k : Nat) (hk : k < xs.length) : (scells xs)[k]? = some (.string (xs.getD k ⟨#[]⟩)) := by simp [scells, List.getElem?_eq_getElem hk, List.getD]
def OwnS (w : World) (B : Nat) (v : Value) (xs : List ByteArray) : Prop := w.ownsRow B 9 1 v xs.length (scells xs)
theorem OwnS.nil (w : World) (B : Nat) : OwnS w B (.slice none 0 0) [] := World.ownsRow_nil w B _ _
theorem OwnS.lt {w : World} {B : Nat} {v : Value} {xs : List ByteArray} (h : OwnS w B v xs) : ∀ k, v.ownBlock = some k → B ≤ k := fun k hk => (World.ownsRow.lt h k hk).1
theorem OwnS.lt' {w : World} {B : Nat} {v : Value} {xs : List ByteArray} (h : OwnS w B v xs) : ∀ k, v.ownBlock = some k → k < w.heap.size := fun k hk => (World.ownsRow.lt h k hk).2
theorem OwnS.mono {w : World} {B B' : Nat} {v : Value} {xs : List ByteArray} (h : OwnS w B v xs) (hB : B' ≤ B) : OwnS w B' v xs := ownsRow_mono h hB
theorem OwnS.keep {w w' : World} {B : Nat} {v : Value} {xs : List ByteArray} (h : OwnS w B v xs) (hk : ∀ k, v.ownBlock = some k → w'.heap[k]? = w.heap[k]?) : OwnS w' B v xs := ownsRow_keep h hk
theorem OwnS.below {w w' : World} {B B' : Nat} {v : Value} {xs : List ByteArray} (h : OwnS w B v xs) (hb : Below B' w w') (hB : w.heap.size ≤ B') : OwnS w' B v xs :=
  h.keep fun k hk => hb.block k (Nat.lt_of_lt_of_le (h.lt' k hk) hB)
theorem OwnS.alloc {w : World} {B : Nat} {v : Value} {xs : List ByteArray} (h : OwnS w B v xs) (o : Obj) : OwnS (w.alloc o) B v xs :=
  h.keep fun k hk => Below.heap_alloc w o k (h.lt' k hk)
theorem OwnS.drewN {w : World} {B : Nat} {v : Value} {xs : List ByteArray} (h : OwnS w B v xs) (n : Nat) : OwnS (w.drewN n) B v xs := h.keep fun _ _ => rfl
theorem OwnS.grown {w w' : World} {B : Nat} {v : Value} {xs : List ByteArray} {row : Option Nat} (h : OwnS w B v xs) (hg : w.grownBy w' row) (hne : ∀ k, v.ownBlock = some k → some k ≠ row) : OwnS w' B v xs :=
  h.keep fun k hk => hg.block k (h.lt' k hk) (hne k hk)
/-- Its form, and its cells. -/
theorem OwnS.shape {w : World} {B : Nat} {v : Value} {xs : List ByteArray} (h : OwnS w B v xs) :
    (v = .slice none 0 0 ∧ xs = []) ∨ ∃ g cap, v = .slice (some ⟨g, 0, none⟩) xs.length cap ∧ B ≤ g ∧ g < w.heap.size ∧ xs.length ≤ cap ∧
      (∀ k, k < xs.length → w.cell? ⟨g, k, none⟩ = some (.string (xs.getD k ⟨#[]⟩))) ∧ ∀ k, w.frozen? ⟨g, k, none⟩ = false := by
  rcases h.2 with ⟨h1, h2⟩ | ⟨g, cap, cur, hv, hg, hh, h3, h4, h5, h6⟩
  · exact .inl ⟨h1, List.eq_nil_of_length_eq_zero h2⟩
  · refine .inr ⟨g, cap, hv, hg, (Array.getElem?_eq_some_iff.1 hh).1, h3, fun k hk => ?_, fun k => ?_⟩
    · subst hv
      have : w.cell? ⟨g, k, none⟩ = (scells xs)[k]? := World.ownsRow.cellAt h k (by omega)
      rw [this]; exact scells_get xs k hk
    · simp only [World.frozen?]
      rw [hh]
      simp
theorem OwnS.rd {w : World} {B : Nat} {v : Value} {xs : List ByteArray} (h : OwnS w B v xs) : RdS w v xs := by
  rcases h.shape with h | ⟨g, cap, hv, _, hg, hc, hr, _⟩
  · exact .inl h
  · exact .inr (.inr ⟨g, 0, cap, hv, hg, hc, fun k hk => by simpa using hr k hk⟩)
theorem OwnS.val {w : World} {B : Nat} {v : Value} {xs : List ByteArray} (h : OwnS w B v xs) : ∃ p cap, v = .slice p xs.length cap := h.rd.val
/-- Less of it. -/
theorem OwnS.take {w : World} {B g n cap : Nat} {xs : List ByteArray} (h : OwnS w B (.slice (some ⟨g, 0, none⟩) n cap) xs) (k : Nat) (hk : k ≤ n) : OwnS w B (.slice (some ⟨g, 0, none⟩) k cap) (xs.take k) := by
  have hn : xs.length = n := h.rd.len.1
  subst hn
  have hk' : (xs.take k).length = k := by simp; omega
  rcases h.2 with ⟨h1, h2⟩ | ⟨g', cap', cur, hv, hg, hh, h3, h4, h5, h6⟩
  · simp at h1
  · simp only [Value.slice.injEq, Option.some.injEq, Addr.mk.injEq, and_true, true_and] at hv
    obtain ⟨rfl, rfl⟩ := hv
    refine ⟨by rw [scells_length]; omega, .inr ⟨g, cap, cur, by rw [hk'], hg, hh, by omega, h4, h5, ?_⟩⟩
    rw [hk']
    have e : scells (xs.take k) = (scells xs).take k := by simp [scells, List.map_take]
    rw [e, ← h6, List.take_take]
    congr 1; omega
theorem scells_set (xs : List ByteArray) (k : Nat) (c : ByteArray) : scells (xs.set k c) = (scells xs).set k (.string c) := by simp [scells, List.map_set]
/-- One is stored. -/
theorem OwnS.store {w : World} {B g n cap : Nat} {xs : List ByteArray} (h : OwnS w B (.slice (some ⟨g, 0, none⟩) n cap) xs) (k : Nat) (c : ByteArray) : OwnS (w.setCell ⟨g, k, none⟩ (.string c)) B (.slice (some ⟨g, 0, none⟩) n cap) (xs.set k c) := by
  unfold OwnS
  rw [scells_set, List.length_set]
  have hn : xs.length = n := h.rd.len.1
  subst hn
  exact (World.ownsRow.stored h k (.string c)).1
theorem scells_one (xs : List ByteArray) : ∀ u ∈ scells xs, u.oneCell' = true := by
  intro u hu
  simp only [scells, List.mem_map] at hu
  obtain ⟨a, _, rfl⟩ := hu
  rfl

section
variable {ops : Array Oper} {rest : List Oper} {o : Oper} {a : Act} {Q : Exit → Act → World → Prop} {w wr : World} {v : Value} {xs : List ByteArray} {B T : Nat}
/-- append(s, c): the old row, or a new block. -/
theorem appendS {c : ByteArray} (s x : Operand)
    (hown : OwnS wr B v xs) (hlen : xs.length < 2097152) (hBr : B ≤ wr.heap.size)
    (hw : w = wr.alloc (.cells #[.string c] T))
    (hgd : o.guard = none) (ho : o.op = .call { callee := .builtin .append, args := #[s, x], argTypes := #[56, 56] })
    (hv : a.eval s = v) (hx : a.eval x = .slice (some ⟨wr.heap.size, 0, none⟩) 1 1)
    (h : ∀ g cap w', OwnS w' B (.slice (some ⟨g, 0, none⟩) (xs.length + 1) cap) (xs ++ [c]) → wr.grownBy w' v.ownBlock → (v.ownBlock = some g ∨ g = wr.heap.size + 1) → g < w'.heap.size → wpList Tryz.prog ops Q rest (a.put o.dst (.slice (some ⟨g, 0, none⟩) (xs.length + 1) cap)) w') :
    wpList Tryz.prog ops Q (o :: rest) a w := by
  obtain ⟨i0, hi, hz0, hz1, hz2⟩ := info_parts Tryz.infoStr
  subst hw
  refine wpList_append_lies _ hgd s x 56 ho B 9 i0 (.string ⟨#[]⟩) 1 16 Tryz.underlying56 hi hz0 hz1 hz2 rfl (by decide) v xs.length (scells xs) hv (World.ownsRow.alloc hown _) ⟨wr.heap.size, 0, none⟩ 1 1 (scells [c]) hx rfl ?_ (scells_one _) (by decide) ?_ ?_ ?_ (wr.heap.size + 1) (by simp) ?_
  · intro j u hj
    cases j with
    | zero => simp [scells] at hj; subst hj; simp [Addr.add]
    | succ j => simp [scells] at hj
  · unfold maxLen; omega
  · omega
  · simp; omega
  · intro g cap w' h1 h2 h3 h4
    refine h g cap w' ?_ (grownBy_of_alloc h2) h3 h4
    unfold OwnS
    simpa [scells] using h1
/-- append(s, y...): the ints of another slice. -/
theorem appendsS {y : Value} {ys : List ByteArray} (s x : Operand)
    (hown : OwnS w B v xs) (hy : RdS w y ys) (hlen : xs.length + ys.length < 2097152) (hBr : B ≤ w.heap.size)
    (hgd : o.guard = none) (ho : o.op = .call { callee := .builtin .append, args := #[s, x], argTypes := #[56, 56] })
    (hv : a.eval s = v) (hx : a.eval x = y)
    (h : ∀ v' w', OwnS w' B v' (xs ++ ys) → w.grownBy w' v.ownBlock → wpList Tryz.prog ops Q rest (a.put o.dst v') w') :
    wpList Tryz.prog ops Q (o :: rest) a w := by
  obtain ⟨i0, hi, hz0, hz1, hz2⟩ := info_parts Tryz.infoStr
  rcases hy with ⟨rfl, rfl⟩ | ⟨ad, cap, rfl, rfl⟩ | ⟨g, off, cap, rfl, hg, hc, hr⟩
  · refine wpList_append_own_none hgd s x 56 ho B 9 i0 1 Tryz.underlying56 hi v xs.length (scells xs) hv hown hx ?_
    exact h v w (by simpa using hown) ⟨rfl, rfl, rfl, Nat.le_refl _, fun _ _ _ => rfl⟩
  · refine wpList_append_own _ hgd s x 56 ho B 9 i0 (.string ⟨#[]⟩) 1 16 Tryz.underlying56 hi hz0 hz1 hz2 rfl (by decide) v xs.length (scells xs) hv hown ad 0 cap [] hx rfl (fun j u hj => by simp at hj) (fun u hu => by cases hu) ?_ ?_ hBr ?_
    · unfold maxLen; omega
    · omega
    · intro v' w' h1 h2 _
      refine h v' w' ?_ h2
      unfold OwnS
      simpa using h1
  · refine wpList_append_own _ hgd s x 56 ho B 9 i0 (.string ⟨#[]⟩) 1 16 Tryz.underlying56 hi hz0 hz1 hz2 rfl (by decide) v xs.length (scells xs) hv hown ⟨g, off, none⟩ ys.length cap (scells ys) hx (by rw [scells_length]; omega) ?_ (scells_one _) ?_ ?_ hBr ?_
    · intro j u hj
      have hadd : (⟨g, off, none⟩ : Addr).add j = ⟨g, off + j, none⟩ := by unfold Addr.add; split <;> simp_all
      rw [hadd]
      have hj' : j < ys.length := by rw [← scells_length]; exact (List.getElem?_eq_some_iff.1 hj).1
      rw [scells_get ys j hj'] at hj
      simp only [Option.some.injEq] at hj
      rw [← hj]
      exact hr j hj'
    · unfold maxLen; omega
    · omega
    · intro v' w' h1 h2 _
      refine h v' w' ?_ h2
      unfold OwnS
      simpa [scells] using h1
end
end Go.Proofs.YthdljlclcepnhaaGreat

/- The walks of the reference's Lines and three. -/
namespace Go.Proofs.YthdljlclcepnhaaGreat
open Go.RowKit Nl Sh

/-- A text's lines that have an end, and what is behind the last end. -/
def Sh.linesR (s : List UInt8) : List (List UInt8) × List UInt8 :=
  match _h : brkL s with
  | none => ([], s)
  | some (a, b) => (a :: (linesR b).1, (linesR b).2)
termination_by s.length
decreasing_by all_goals (rw [brk_some _h]; simp; omega)
theorem Sh.linesR_none {s : List UInt8} (h : brkL s = none) : linesR s = ([], s) := by
  rw [linesR]
  split
  · rfl
  · rename_i h'; rw [h] at h'; cases h'
theorem Sh.linesR_some {s a b : List UInt8} (h : brkL s = some (a, b)) : linesR s = (a :: (linesR b).1, (linesR b).2) := by
  rw [linesR]
  split
  · rename_i h'; rw [h] at h'; cases h'
  · rename_i a' b' h'
    rw [h] at h'
    obtain ⟨rfl, rfl⟩ : a = a' ∧ b = b' := by simpa using h'
    rfl
theorem Sh.brk_no : ∀ {s : List UInt8}, (10 : UInt8) ∉ s → brkL s = none
  | [], _ => rfl
  | c :: r, h => by
    simp only [List.mem_cons, not_or] at h
    unfold brkL
    rw [if_neg (fun q => h.1 q.symm), brk_no h.2]
theorem Sh.ext_list (s : ByteArray) (a b : Nat) : (s.extract a b).data.toList = (s.data.toList.drop a).take (b - a) := by
  simp [List.take_drop]
/-- How far the lines are taken. -/
def LnRel (s : ByteArray) (w : World) (out fr i : Value) (wr : World) : Prop :=
  ∃ (v : Value) (xs : List ByteArray) (f j : Nat), out = v ∧ fr = .int .i64 f ∧ i = .int .i64 j ∧ f ≤ j ∧ j ≤ s.size ∧ xs.length ≤ j ∧ OwnS wr w.heap.size v xs ∧ Below w.heap.size w wr ∧
    Hid (linesR s.data.toList = (xs.map (·.data.toList) ++ (linesR (s.data.toList.drop f)).1, (linesR (s.data.toList.drop f)).2) ∧ (10 : UInt8) ∉ (s.data.toList.drop f).take (j - f))
def LnPost (s : ByteArray) (w : World) (e : Ending) (w' : World) : Prop :=
  ∃ (v : Value) (xs : List ByteArray) (r : ByteArray), e = .returned (.tuple #[v, .string r]) ∧ OwnS w' w.heap.size v xs ∧ xs.map (·.data.toList) = (linesR s.data.toList).1 ∧ r.data.toList = (linesR s.data.toList).2 ∧ Below w.heap.size w w' ∧ xs.length ≤ s.size
set_option maxRecDepth 100000 in
set_option maxHeartbeats 2000000 in
theorem r_lines (s : ByteArray) (w : World) (hs : s.size ≤ 1000000) : Calls Tryz.prog 15 #[.string s] w (LnPost s w) := by
  go_enter Tryz.func15, Tryz.ntmps15
  go_wp2_with fail
  go_loopw [4, 5, 6] (fun out fr i wr => LnRel s w out fr i wr) (fun _ _ i _ => s.size - (intOf i).toNat)
  case atStart => exact ⟨_, [], 0, 0, rfl, rfl, rfl, Nat.le_refl _, Nat.zero_le _, Nat.le_refl _, OwnS.nil _ _, Below.refl _ _, by
    show _ ∧ _
    exact ⟨by simp, by simp⟩⟩
  case round =>
    obtain ⟨v, xs, f, j, rfl, rfl, rfl, hfj, hj, hxl, own, hb, HL⟩ := hrel
    have hls : s.data.toList.length = s.size := by simp
    by_cases hlt : j < s.size
    · have hg0 : decide (j < s.size) = true := decide_eq_true hlt
      have hsn : (s.data.toList.drop f).take (j + 1 - f) = (s.data.toList.drop f).take (j - f) ++ [s[j]] := by
        rw [show j + 1 - f = (j - f) + 1 by omega, List.take_succ_eq_append_getElem (by simp; omega)]
        congr 2
        simp only [List.getElem_drop]
        show s.data.toList[f + (j - f)] = s.data[j]
        simp [show f + (j - f) = j by omega]
      by_cases hc : s[j].toNat = 10
      · have e10 : s[j] = 10 := by apply UInt8.toNat_inj.1; rw [hc]; rfl
        have z0 : ((s[j].toNat : Int) == 10) = true := by simp [hc]
        have hbk : brkL (s.data.toList.drop f) = some ((s.extract f j).data.toList, s.data.toList.drop (j + 1)) := by
          rw [ext_list]
          have e : s.data.toList.drop f = (s.data.toList.drop f).take (j - f) ++ 10 :: s.data.toList.drop (j + 1) := by
            conv => lhs; rw [← List.take_append_drop (j + 1 - f) (s.data.toList.drop f), hsn, e10, List.drop_drop, show f + (j + 1 - f) = j + 1 by omega]
            simp
          conv => lhs; rw [e]
          exact brk_app _ HL.out.2
        have NL : Hid (∀ xs' : List ByteArray, xs' = xs ++ [s.extract f j] → linesR s.data.toList = (xs'.map (·.data.toList) ++ (linesR (s.data.toList.drop (j + 1))).1, (linesR (s.data.toList.drop (j + 1))).2) ∧ (10 : UInt8) ∉ (s.data.toList.drop (j + 1)).take (j + 1 - (j + 1))) := by
          intro xs' hx
          refine ⟨?_, by simp⟩
          rw [HL.out.1, linesR_some hbk, hx]
          simp
        have hzl : xs.length < 2097152 := by omega
        have hBr := hb.size
        have i0 : (0 : Int) ≤ (f : Int) := by omega
        have i1 : (f : Int) ≤ (j : Int) := by omega
        have i2 : (j : Int) ≤ (s.size : Int) := by omega
        clear HL hbk hsn hc e10
        go_wp2_with (refine appendS _ _ own hzl hBr rfl rfl rfl rfl rfl ?_; intro g cap w4 o4 g4 _ _)
        have hb4 : Below w.heap.size w w4 := hb.trans (below_grown g4 hBr own.lt)
        go_roundw
        case rel => exact ⟨_, _, j + 1, j + 1, rfl, by go_num, by go_num, Nat.le_refl _, hlt, by simp; omega, o4, hb4, NL.out _ rfl⟩
        case measure => simp [intOf]; omega
      · have z0 : ((s[j].toNat : Int) == 10) = false := by simp; omega
        have NL : Hid (linesR s.data.toList = (xs.map (·.data.toList) ++ (linesR (s.data.toList.drop f)).1, (linesR (s.data.toList.drop f)).2) ∧ (10 : UInt8) ∉ (s.data.toList.drop f).take (j + 1 - f)) := by
          refine ⟨HL.out.1, ?_⟩
          rw [hsn, List.mem_append, List.mem_singleton, not_or]
          exact ⟨HL.out.2, fun q => hc (by rw [← q]; rfl)⟩
        clear HL hsn
        go_wp2_with fail
        go_roundw
        case rel => exact ⟨_, _, f, j + 1, rfl, rfl, by go_num, by omega, hlt, by omega, own, hb, NL⟩
        case measure => simp [intOf]; omega
    · obtain rfl : j = s.size := by omega
      have hg0 : decide (s.size < s.size) = false := by simp
      have hn : (10 : UInt8) ∉ s.data.toList.drop f := by
        have := HL.out.2
        rwa [List.take_of_length_le (by simp)] at this
      have P : Hid ((xs.map (·.data.toList)) = (linesR s.data.toList).1 ∧ (s.extract f s.size).data.toList = (linesR s.data.toList).2) := by
        show _ ∧ _
        rw [HL.out.1, linesR_none (brk_no hn), sub_list]
        simp
      have i0 : (0 : Int) ≤ (f : Int) := by omega
      have i1 : (f : Int) ≤ (s.size : Int) := by omega
      clear HL hn hlt
      go_wp2_with fail
      go_quiet (fail)
      go_wp2_with fail
      go_ret2
      exact ⟨_, xs, _, rfl, own.drewN _, P.out.1, P.out.2, below_drewN hb _, hxl⟩
/-- What three gives. -/
def ThreeP (s t0 t1 t2 : List UInt8) (w : World) (e : Ending) (w' : World) : Prop :=
  ∃ (p : Option Addr) (n c : Nat), e = .returned (.tuple #[.slice p n c, .bool (thrB s t0 t1 t2)]) ∧ Below w.heap.size w w' ∧ (thrB s t0 t1 t2 = true → n = 3 ∧ OwnI w' w.heap.size (.slice p 3 c) [(thr0 s t0 : Nat), (thr1 s t0 t1 : Nat), (thr2 s t0 t1 t2 : Nat)])
/-- One number: where it stands, and what is left. -/
theorem Sh.one_bad {s t : List UInt8} {ok : Bool} (h : begB s t = false ∨ (numV (s.drop t.length)).2.2 = false) : nextB s t ok = false := by
  unfold nextB
  rcases h with h | h
  · rw [h]; simp
  · cases hb : begB s t with
    | false => simp
    | true =>
      rw [show cutL s t = s.drop t.length by unfold cutL; rw [hb, if_pos rfl], h]; simp
theorem Sh.one_good {s t : List UInt8} {ok : Bool} (h1 : begB s t = true) (h2 : (numV (s.drop t.length)).2.2 = true) : nextB s t ok = ok ∧ nextV s t = (numV (s.drop t.length)).1 ∧ nextL s t = s.drop (t.length + (numV (s.drop t.length)).2.1) := by
  have hc : cutL s t = s.drop t.length := by unfold cutL; rw [h1, if_pos rfl]
  unfold nextB nextV nextL
  rw [hc, h1, h2, List.drop_drop]
  simp
theorem Sh.next_off {s t : List UInt8} : nextB s t false = false := by unfold nextB; simp
/-- The state of three, between two numbers. -/
def ThSt (s t0 t1 t2 : List UInt8) (w : World) (gn : Nat) (left out i : Value) (wr : World) : Prop :=
  ∃ (r : ByteArray) (v : Value) (xs : List Int) (j : Nat), left = .string r ∧ out = v ∧ i = .int .i64 j ∧ OwnI wr w.heap.size v xs ∧ Below w.heap.size w wr ∧ r.size ≤ s.length ∧ xs.length = j ∧ 3 ≤ gn + j ∧
    ((j = 0 ∧ Hid (r.data.toList = s ∧ xs = [])) ∨
     (j = 1 ∧ Hid (nextB s t0 true = true ∧ r.data.toList = nextL s t0 ∧ xs = [((thr0 s t0 : Nat) : Int)])) ∨
     (j = 2 ∧ Hid (nextB (nextL s t0) t1 (nextB s t0 true) = true ∧ r.data.toList = nextL (nextL s t0) t1 ∧ xs = [((thr0 s t0 : Nat) : Int), ((thr1 s t0 t1 : Nat) : Int)])) ∨
     (j = 3 ∧ Hid (nextB (nextL (nextL s t0) t1) t2 (nextB (nextL s t0) t1 (nextB s t0 true)) = true ∧ r.data.toList = nextL (nextL (nextL s t0) t1) t2 ∧ xs = [((thr0 s t0 : Nat) : Int), ((thr1 s t0 t1 : Nat) : Int), ((thr2 s t0 t1 t2 : Nat) : Int)])))
/-- What the three ways of a round have in common: the word ahead, t, and what becomes of the whole. -/
def ThWay (s t0 t1 t2 left t : List UInt8) : Prop := nextB left t true = false → thrB s t0 t1 t2 = false
set_option maxRecDepth 100000 in
set_option maxHeartbeats 4000000 in
theorem r_three {w : World} {ga : Nat} {s t0 t1 t2 : ByteArray} (G : Blk w ga #[.string t0, .string t1, .string t2] 9) (hs : s.size ≤ 1000000) (h0 : t0.size ≤ 100) (h1 : t1.size ≤ 100) (h2 : t2.size ≤ 100) :
    Calls Tryz.prog 16 #[.string s, .slice (some ⟨ga, 0, none⟩) 3 3] w (ThreeP s.data.toList t0.data.toList t1.data.toList t2.data.toList w) := by
  have hga := G.lt
  have hsl : s.data.toList.length = s.size := by simp
  have GG := hid (fun W (q : Below w.heap.size w W) => G.below q (Nat.le_refl _))
  have NM := hid (fun (r : ByteArray) (q : r.size ≤ 9223372036854775807) W => r_number r W q)
  clear G
  go_enter Tryz.func16, Tryz.ntmps16
  go_wp2_with fail
  go_loopg [0, 6, 7] 3 (fun gn left out i wr => ThSt s.data.toList t0.data.toList t1.data.toList t2.data.toList w gn left out i wr)
  case atStart => exact ⟨s, _, [], 0, rfl, rfl, rfl, OwnI.nil _ _, Below.refl _ _, by omega, rfl, Nat.le_refl _, .inl ⟨rfl, rfl, rfl⟩⟩
  case round =>
    obtain ⟨r, v, xs, j, rfl, rfl, rfl, own, hb, hrs, hxj, hgn, hway⟩ := hrel
    have U : (j = 3 ∧ Hid (nextB (nextL (nextL s.data.toList t0.data.toList) t1.data.toList) t2.data.toList (nextB (nextL s.data.toList t0.data.toList) t1.data.toList (nextB s.data.toList t0.data.toList true)) = true ∧ r.data.toList = nextL (nextL (nextL s.data.toList t0.data.toList) t1.data.toList) t2.data.toList ∧ xs = [((thr0 s.data.toList t0.data.toList : Nat) : Int), ((thr1 s.data.toList t0.data.toList t1.data.toList : Nat) : Int), ((thr2 s.data.toList t0.data.toList t1.data.toList t2.data.toList : Nat) : Int)])) ∨
        (j < 3 ∧ ∃ t : ByteArray, t.size ≤ 100 ∧ wr.cell? ⟨ga, j, none⟩ = some (.string t) ∧ Hid (nextB r.data.toList t.data.toList true = false → thrB s.data.toList t0.data.toList t1.data.toList t2.data.toList = false) ∧
          Hid (nextB r.data.toList t.data.toList true = true → ∀ (r' : ByteArray) (v' : Value) (W' : World), r'.data.toList = nextL r.data.toList t.data.toList → r'.size ≤ s.data.toList.length → OwnI W' w.heap.size v' (xs ++ [((nextV r.data.toList t.data.toList : Nat) : Int)]) → Below w.heap.size w W' →
            ThSt s.data.toList t0.data.toList t1.data.toList t2.data.toList w (3 - (j + 1)) (.string r') v' (.int .i64 (j + 1 : Nat)) W')) := by
      have GB := GG.out wr hb
      rcases hway with ⟨rfl, hh⟩ | ⟨rfl, hh⟩ | ⟨rfl, hh⟩ | ⟨rfl, hh⟩
      · refine .inr ⟨by decide, t0, h0, GB.cell 0, ?_, ?_⟩
        · show _ → _
          rw [hh.out.1]
          intro h; unfold thrB; rw [h, next_off, next_off]; rfl
        · show _ → _
          rw [hh.out.1, hh.out.2]
          intro h r' v' W' e1 e2 o b
          exact ⟨r', v', _, 1, rfl, rfl, rfl, o, b, e2, rfl, by omega, .inr (.inl ⟨rfl, h, e1, rfl⟩)⟩
      · refine .inr ⟨by decide, t1, h1, GB.cell 1, ?_, ?_⟩
        · show _ → _
          rw [hh.out.2.1]
          intro h; unfold thrB; rw [hh.out.1, h, next_off]; rfl
        · show _ → _
          rw [hh.out.2.1, hh.out.2.2]
          intro h r' v' W' e1 e2 o b
          exact ⟨r', v', _, 2, rfl, rfl, rfl, o, b, e2, rfl, by omega, .inr (.inr (.inl ⟨rfl, by rw [hh.out.1]; exact h, e1, rfl⟩))⟩
      · refine .inr ⟨by decide, t2, h2, GB.cell 2, ?_, ?_⟩
        · show _ → _
          rw [hh.out.2.1]
          intro h; unfold thrB; rw [hh.out.1, h]; rfl
        · show _ → _
          rw [hh.out.2.1, hh.out.2.2]
          intro h r' v' W' e1 e2 o b
          exact ⟨r', v', _, 3, rfl, rfl, rfl, o, b, e2, rfl, by omega, .inr (.inr (.inr ⟨rfl, by rw [hh.out.1]; exact h, e1, rfl⟩))⟩
      · exact .inl ⟨rfl, hh⟩
    clear hway
    rcases U with ⟨rfl, hh⟩ | ⟨hj, t, ht, c0, KF, KG⟩
    · have hB3 : Hid (thrB s.data.toList t0.data.toList t1.data.toList t2.data.toList = (r.data.toList).isEmpty) := by
        show _ = _; unfold thrB; rw [hh.out.1, ← hh.out.2.1]; rfl
      obtain ⟨p, c, rfl⟩ := own.val
      have OW := hid own
      rw [hxj] at OW
      clear own
      go_wp2_with fail
      go_ret2
      refine ⟨p, 3, c, ?_, hb, fun _ => ⟨rfl, ?_⟩⟩
      · rw [hB3.out]
        show Ending.returned (.tuple #[.slice p xs.length c, .bool r.toList.isEmpty]) = _
        rw [hxj, ByteArray.toList_eq]
      · rw [← hh.out.2.2]; exact OW.out
    · have hrl : r.data.toList.length = r.size := by simp
      have htl : t.data.toList.length = t.size := by simp
      have j0 : (0 : Int) ≤ (j : Int) := by omega
      have j3 : (j : Int) < 3 := by omega
      obtain ⟨p, c, rfl⟩ := own.val
      have HX := hid hxj
      clear hxj
      have bad : begB r.data.toList t.data.toList = false ∨ (numV (r.data.toList.drop t.data.toList.length)).2.2 = false → ThreeP s.data.toList t0.data.toList t1.data.toList t2.data.toList w (.returned (.tuple #[.slice none 0 0, .bool false])) wr := fun h =>
        ⟨none, 0, 0, by rw [KF.out (one_bad h)], hb, fun q => by rw [KF.out (one_bad h)] at q; cases q⟩
      have BAD := hid bad
      by_cases hsz : t.size ≤ r.size
      · have z1 : decide (r.size < t.size) = false := decide_eq_false (by omega)
        have z2 : decide ((r.size : Int) < (t.size : Int)) = false := decide_eq_false (by omega)
        by_cases hbg : (r.extract 0 t.size).toList = t.toList
        · have hbe : begB r.data.toList t.data.toList = true := by
            unfold begB
            rw [hrl, htl, decide_eq_true hsz, ← pre_list, ← ByteArray.toList_eq, hbg, ByteArray.toList_eq]
            simp
          have z3 : ((r.extract 0 t.size).toList == t.toList) = true := by simpa using hbg
          have hnm := NM.out (r.extract t.size r.size) (by simp; omega) wr
          unfold NumPost at hnm
          rw [sub_list, ← htl] at hnm
          have i0 : (0 : Int) ≤ (t.size : Int) := by omega
          have i1 : (t.size : Int) ≤ (r.size : Int) := by omega
          have nsz := numV_size (r.data.toList.drop t.data.toList.length)
          rw [List.length_drop, hrl, htl] at nsz
          have nbd := numV_bd (r.data.toList.drop t.data.toList.length)
          obtain ⟨nv, env⟩ : ∃ x, (numV (r.data.toList.drop t.data.toList.length)).1 = x := ⟨_, rfl⟩
          obtain ⟨ns, ens⟩ : ∃ x, (numV (r.data.toList.drop t.data.toList.length)).2.1 = x := ⟨_, rfl⟩
          obtain ⟨nb, enb⟩ : ∃ x, (numV (r.data.toList.drop t.data.toList.length)).2.2 = x := ⟨_, rfl⟩
          rw [env, ens, enb] at hnm
          rw [env] at nbd
          rw [← htl, ens] at nsz
          have HN := hid hnm
          clear hnm
          cases nb
          · have P := hid (BAD.out (.inr enb))
            clear BAD bad hbe hbg KF KG hrl htl NM GG own env ens enb
            go_wp2_with fail
            refine HN.out.mono ?_
            rintro e w' ⟨rfl, rfl⟩
            go_wp2_with fail
            go_ret2
            exact P.out
          · obtain ⟨k1, k2, k3⟩ := one_good (ok := true) hbe enb
            rw [env] at k2
            rw [ens] at k3
            have E1 : Hid (IntKind.i64.wrap ((t.size : Int) + (ns : Int)) = ((t.size + ns : Nat) : Int)) := by show _ = _; rw [IntWalk.i64_in _ ⟨by omega, by omega⟩]; omega
            have NX := KG.out k1 (r.extract (t.size + ns) r.size)
            rw [k2, k3] at NX
            have NX2 := hid (fun v' W' => NX v' W' (by rw [sub_list, htl]) (by simp; omega))
            have hzl : xs.length < 2097152 := by have := HX.out; omega
            have hBr := hb.size
            have i2 : (t.size : Int) + (ns : Int) ≤ (r.size : Int) := by omega
            clear BAD bad hbe hbg KF KG hrl NM GG env ens enb k1 k2 k3 NX
            go_wp2_with fail
            refine HN.out.mono ?_
            rintro e w' ⟨rfl, rfl⟩
            go_wp2_with (refine appendI _ _ own hzl hBr rfl rfl rfl rfl rfl ?_; intro g cap w4 o4 g4 _ _)
            have hb4 : Below w.heap.size w w4 := hb.trans (below_grown g4 hBr own.lt)
            have o4' : OwnI w4 w.heap.size (.slice (some ⟨g, 0, none⟩) (xs.length + 1) cap) (xs ++ [(nv : Int)]) := o4
            go_roundg (3 - (j + 1))
            case rel => exact NX2.out _ _ o4' hb4
            case measure => omega
        · have hbe : begB r.data.toList t.data.toList = false := by
            unfold begB
            rw [hrl, htl, decide_eq_true hsz, ← pre_list, ← ByteArray.toList_eq]
            rw [ByteArray.toList_eq] at hbg ⊢
            rw [ByteArray.toList_eq] at hbg
            simpa using hbg
          have z3 : ((r.extract 0 t.size).toList == t.toList) = false := by simpa using hbg
          have P := hid (BAD.out (.inl hbe))
          clear BAD bad hbe hbg KF KG hrl htl NM GG own
          go_wp2_with fail
          go_ret2
          exact P.out
      · have z1 : decide (r.size < t.size) = true := decide_eq_true (by omega)
        have z2 : decide ((r.size : Int) < (t.size : Int)) = true := decide_eq_true (by omega)
        have hbe : begB r.data.toList t.data.toList = false := by
          unfold begB
          rw [hrl, htl, decide_eq_false hsz]; rfl
        have P := hid (BAD.out (.inl hbe))
        clear BAD bad hbe KF KG hrl htl NM GG own
        go_wp2_with fail
        go_ret2
        exact P.out
end Go.Proofs.YthdljlclcepnhaaGreat

/- What the reference reads is what is read (no program in sight). -/
namespace Go.Proofs.YthdljlclcepnhaaGreat
open Go.RowKit Nl Sh
namespace Sh

/-- Lines by their numbers. -/
def numF (n : Nat) : List (List UInt8) → List (Nat × List UInt8)
  | [] => []
  | l :: r => (n, l) :: numF (n + 1) r
theorem numF_app : ∀ (a b : List (List UInt8)) (n : Nat), numF n (a ++ b) = numF n a ++ numF (n + a.length) b
  | [], b, n => by simp [numF]
  | x :: a, b, n => by
    simp only [List.cons_append, numF, numF_app a b (n + 1), List.length_cons]
    rw [show n + 1 + a.length = n + (a.length + 1) by omega]
def restF (n : Nat) (r : List UInt8) : List (Nat × List UInt8) := if r = [] then [] else [(n, r ++ [10])]
theorem lines_num (k : Nat) : ∀ (s : List UInt8) (n : Nat), s.length ≤ k → linesF n s = numF n (linesR s).1 ++ restF (n + (linesR s).1.length) (linesR s).2 := by
  induction k with
  | zero =>
    intro s n hs
    obtain rfl := List.eq_nil_of_length_eq_zero (Nat.le_zero.1 hs)
    rw [linesF_nil, linesR_none rfl]; rfl
  | succ k ih =>
    intro s n hs
    by_cases h0 : s = []
    · subst h0; rw [linesF_nil, linesR_none rfl]; rfl
    · cases hb : brkL s with
      | none =>
        rw [linesF_none h0 hb, linesR_none hb]
        unfold restF
        rw [if_neg h0]; rfl
      | some x =>
        obtain ⟨a, b⟩ := x
        have e := brk_some hb
        have hl : b.length ≤ k := by rw [e] at hs; simp at hs; omega
        rw [linesF_some hb, linesR_some hb, ih b (n + 1) hl]
        simp only [numF, List.cons_append, List.length_cons]
        rw [show n + 1 + (linesR b).1.length = n + ((linesR b).1.length + 1) by omega]
def lastV (zs : List (Int × Int)) : Int := if zs = [] then 0 else (zs.getD (zs.length - 1) (0, 0)).1
theorem last_snoc (zs : List (Int × Int)) (a c : Int) : lastV (zs ++ [(a, c)]) = a := by
  unfold lastV
  rw [if_neg (by simp)]
  simp [List.getD]
theorem last_eq {L lo hi : Int} (zs : List (Int × Int)) (h : nodeB L lo hi = true) : lastB zs (nodeV L lo hi) = !decide (nodeV L lo hi ≤ lastV zs) := by
  have h1 := (right_pos1 (node_right h)).1
  unfold lastB lastV
  cases zs with
  | nil =>
    rw [if_pos rfl, show decide (nodeV L lo hi ≤ 0) = false from decide_eq_false (by omega)]; rfl
  | cons x r =>
    rw [if_neg (by simp)]
    simp only [List.isEmpty_cons, Bool.false_or]
    by_cases q : ((x :: r).getD ((x :: r).length - 1) (0, 0)).1 < nodeV L lo hi
    · rw [decide_eq_true q, decide_eq_false (by omega)]; rfl
    · rw [decide_eq_false q, decide_eq_true (by omega)]; rfl
/-- So many lines were so. -/
structure RI (L K N : Int) (pre : List (List UInt8)) (S : Int) (zs : List (Int × Int)) : Prop where
  run : runR (0, 0, 0, []) (numF 1 pre) = .inr (L, K, N - S, zs)
  roll : Roll L zs
  isk : isK K = true
  sum : sumL zs = S
  bN : N ≤ 72057594037927935
  bS : S ≤ N
  len : zs.length ≤ pre.length
theorem RI.start {l : List UInt8} (h : headOk l = true) : RI (thr0 l tDig : Nat) (thr1 l tDig [32] : Nat) (thr2 l tDig [32] [32] : Nat) [l] 0 [] := by
  obtain ⟨h1, h2⟩ := head_ok h
  have h' := h
  unfold headOk at h'
  simp only [Bool.and_eq_true, decide_eq_true_eq] at h'
  refine ⟨?_, ?_, h2, rfl, by omega, by omega, Nat.zero_le _⟩
  · simp only [numF, runR]
    unfold stepR
    rw [if_pos rfl, if_pos h]
    simp
  · unfold poolIs at h1
    simp at h1
    exact ⟨by omega, by omega, ⟨List.Pairwise.nil, fun x hx => (by cases hx)⟩, by decide, fun x hx => (by cases hx)⟩
theorem RI.step {L K N S : Int} {pre : List (List UInt8)} {zs : List (Int × Int)} {l : List UInt8} (h : RI L K N pre S zs) (hp : pre ≠ []) (hok : nodeOk L (N - S) zs l = true) :
    RI L K N (pre ++ [l]) (S + ndN l) (zs ++ [(ndI L l, ndN l)]) := by
  obtain ⟨h1, h2, h3, h4, h5, h6, h7⟩ := h
  obtain ⟨-, n1, n2⟩ := node_line hok
  have hok' := hok
  unfold nodeOk at hok'
  simp only [Bool.and_eq_true, decide_eq_true_eq] at hok'
  obtain ⟨⟨⟨⟨t1, t2⟩, t3⟩, t4⟩, t5⟩ := hok'
  have hr := node_right t2
  have hr1 := (right_pos1 hr).1
  have hpl : 0 < pre.length := List.length_pos_iff.2 hp
  refine ⟨?_, ⟨h2.l1, h2.l2, ⟨?_, ?_⟩, ?_, ?_⟩, h3, ?_, h5, by omega, by simp; omega⟩
  · rw [numF_app]
    have e : runR (0, 0, 0, []) (numF 1 pre ++ [(1 + pre.length, l)]) = _ := runR_snoc _ _ _ (1 + pre.length, l) h1
    rw [show numF (1 + pre.length) [l] = [(1 + pre.length, l)] from rfl, e]
    dsimp only
    unfold stepR
    rw [if_neg (by omega)]
    dsimp only
    rw [if_pos hok]
    dsimp only
    rw [show N - S - ndN l = N - (S + ndN l) by omega]
  · rw [List.pairwise_append]
    refine ⟨h2.strict.1, by simp, fun x hx y hy => ?_⟩
    rw [List.mem_singleton] at hy
    subst hy
    have hne : zs ≠ [] := List.ne_nil_of_mem hx
    unfold lastB at t3
    have he : zs.isEmpty = false := by cases zs with
      | nil => exact absurd rfl hne
      | cons _ _ => rfl
    rw [he, Bool.false_or, decide_eq_true_eq] at t3
    show x.1 < ndI L l
    have hle : x.1 ≤ (zs.getD (zs.length - 1) (0, 0)).1 := by
      obtain ⟨i, hi, rfl⟩ := List.getElem_of_mem hx
      by_cases q : i = zs.length - 1
      · rw [List.getD, List.getElem?_eq_getElem (by omega)]
        subst q; exact Int.le_refl _
      · have := List.pairwise_iff_getElem.1 h2.strict.1 i (zs.length - 1) hi (by omega) (by omega)
        rw [List.getD, List.getElem?_eq_getElem (by omega)]
        exact Int.le_of_lt this
    omega
  · intro x hx
    rcases List.mem_append.1 hx with hx | hx
    · exact h2.strict.2 x hx
    · rw [List.mem_singleton] at hx
      subst hx
      exact ⟨hr1, by show 0 < ndN l; omega⟩
  · rw [sumL_append]; simp only [sumL]; omega
  · intro x hx
    rcases List.mem_append.1 hx with hx | hx
    · exact h2.ids x hx
    · rw [List.mem_singleton] at hx
      subst hx; exact hr
  · rw [sumL_append]; simp only [sumL]; omega
theorem RI.fail {L K N S : Int} {pre : List (List UInt8)} {zs : List (Int × Int)} {l : List UInt8} (h : RI L K N pre S zs) (hp : pre ≠ []) (hok : nodeOk L (N - S) zs l = false) (r : List (List UInt8)) (q : List (Nat × List UInt8)) :
    runR (0, 0, 0, []) (numF 1 (pre ++ l :: r) ++ q) = .inl (pre.length + 1) := by
  have hpl : 0 < pre.length := List.length_pos_iff.2 hp
  rw [numF_app]
  simp only [numF]
  rw [List.append_assoc]
  have e : runR (0, 0, 0, []) (numF 1 pre ++ [(1 + pre.length, l)]) = .inl (pre.length + 1) := by
    rw [runR_snoc _ _ _ (1 + pre.length, l) h.run]
    dsimp only
    unfold stepR
    rw [if_neg (by omega)]
    dsimp only
    rw [if_neg (by rw [hok]; simp)]
    dsimp only
    rw [Nat.add_comm]
  rw [show numF 1 pre ++ ((1 + pre.length, l) :: numF (1 + pre.length + 1) r ++ q) = (numF 1 pre ++ [(1 + pre.length, l)]) ++ (numF (1 + pre.length + 1) r ++ q) by simp]
  exact runR_app _ _ _ _ e
/-- What is read, with the kind. -/
def readK (kind : Int) (s : List UInt8) : (Nat × Int) ⊕ (Int × Int × List (Int × Int)) := match readV s with
  | .inl x => .inl x
  | .inr x => if poolIs kind x.1 = true then .inr x else .inl (0, 2)
theorem readK_line {kind : Int} {s : List UInt8} {n : Nat} (h0 : s ≠ []) (h : runR (0, 0, 0, []) (linesF 1 s) = .inl n) : readK kind s = .inl (n, 10) := by
  unfold readK readV
  rw [if_neg h0, h]
theorem readK_none {kind : Int} {s : List UInt8} (h : (linesR s).1 = []) : readK kind s = .inl (1, 10) := by
  by_cases h0 : s = []
  · unfold readK readV; rw [if_pos h0]
  · have hb : brkL s = none := by
      cases hb : brkL s with
      | none => rfl
      | some x => obtain ⟨a, b⟩ := x; rw [linesR_some hb] at h; cases h
    refine readK_line h0 ?_
    rw [linesF_none h0 hb]
    simp only [runR]
    cases hs : stepR (0, 0, 0, []) 1 (s ++ [10]) with
    | none => rfl
    | some x => exact absurd (by simp) (step_no10 hs)
theorem lines_ne {s l : List UInt8} {r : List (List UInt8)} (h : (linesR s).1 = l :: r) : s ≠ [] := fun q => by
  subst q; rw [linesR_none rfl] at h; cases h
theorem readK_head {kind : Int} {s l : List UInt8} {r : List (List UInt8)} (h : (linesR s).1 = l :: r) (hh : headOk l = false) : readK kind s = .inl (1, 10) := by
  refine readK_line (lines_ne h) ?_
  rw [lines_num _ s 1 (Nat.le_refl _), h]
  simp only [numF, List.cons_append, runR]
  unfold stepR
  rw [if_pos rfl, if_neg (by rw [hh]; simp)]
theorem readK_node {kind L K N S : Int} {s l : List UInt8} {pre r : List (List UInt8)} {zs : List (Int × Int)} (h : (linesR s).1 = pre ++ l :: r) (i : RI L K N pre S zs) (hp : pre ≠ []) (hok : nodeOk L (N - S) zs l = false) : readK kind s = .inl (pre.length + 1, 10) := by
  have h0 : s ≠ [] := by
    cases pre with
    | nil => exact absurd rfl hp
    | cons x y => exact lines_ne h
  refine readK_line h0 ?_
  rw [lines_num _ s 1 (Nat.le_refl _), h]
  exact i.fail hp hok _ _
theorem readK_rest {kind L K N S : Int} {s : List UInt8} {zs : List (Int × Int)} (i : RI L K N (linesR s).1 S zs) (hp : (linesR s).1 ≠ []) (hr : (linesR s).2 ≠ []) : readK kind s = .inl ((linesR s).1.length + 1, 10) := by
  have h0 : s ≠ [] := fun q => by subst q; rw [linesR_none rfl] at hp; exact hp rfl
  refine readK_line h0 ?_
  rw [lines_num _ s 1 (Nat.le_refl _)]
  unfold restF
  rw [if_neg hr, runR_snoc _ _ _ _ i.run]
  dsimp only
  cases hs : stepR (L, K, N - S, zs) (1 + (linesR s).1.length) ((linesR s).2 ++ [10]) with
  | none => dsimp only; rw [Nat.add_comm]
  | some x => exact absurd (by simp) (step_no10 hs)
theorem readK_end {kind L K N S : Int} {s : List UInt8} {zs : List (Int × Int)} (i : RI L K N (linesR s).1 S zs) (hp : (linesR s).1 ≠ []) (hr : (linesR s).2 = []) :
    readK kind s = if S ≠ N then .inl (0, 10) else if 8 * K < (zs.length : Int) ∨ lightB L zs (capV (sumL zs) K) = false then .inl (0, 13) else if poolIs kind L = true then .inr (L, K, zs) else .inl (0, 2) := by
  have h0 : s ≠ [] := fun q => by subst q; rw [linesR_none rfl] at hp; exact hp rfl
  have hrun : runR (0, 0, 0, []) (linesF 1 s) = .inr (L, K, N - S, zs) := by
    rw [lines_num _ s 1 (Nat.le_refl _), hr]
    unfold restF
    rw [if_pos rfl, List.append_nil]
    exact i.run
  have hb := i.bS
  have hl1 := i.roll.l1
  have hl2 := i.roll.l2
  have hpl : poolIs 2 L = true := by unfold poolIs; simp; omega
  have hrB := rollB_iff.2 i.roll
  unfold readK readV
  rw [if_neg h0, hrun]
  dsimp only
  unfold endV loadE
  rw [hpl, i.isk, hrB]
  by_cases h1 : S = N
  · rw [if_neg (show ¬ 0 < N - S by omega), if_neg (show ¬ S ≠ N by omega)]
    simp only [Bool.and_self, Bool.true_eq_false, if_false]
    by_cases h2 : 8 * K < (zs.length : Int) ∨ lightB L zs (capV (sumL zs) K) = false
    · rw [if_pos h2, if_pos h2]; rfl
    · rw [if_neg h2, if_neg h2, if_pos rfl]
  · rw [if_pos (show 0 < N - S by omega), if_pos h1]; rfl
end Sh
end Go.Proofs.YthdljlclcepnhaaGreat
