/- The two slices of BlendAll: what is appended to them, and how they read. -/
import Derived.Test.YtbbkfjbaocpknaaGreatBa3
import Derived.Deep.AppendLies
namespace Go.Proofs.YtbbkfjbaocpknaaGreat
open Go.RowKit Nl

theorem Tryz.infoPtr : (Tryz.prog.info? 32).map (fun i => (i.zero, i.size, i.bytes)) = some (some (.pointer none), 1, 8) := by kernel_rfl
theorem Tryz.infoDig : (Tryz.prog.info? 37).map (fun i => (i.zero, i.size, i.bytes)) = some (some (.agg #[.int .i64 0, .int .i64 0, .slice none 0 0]), 3, 40) := by kernel_rfl
section
variable {ops : Array Oper} {rest : List Oper} {o : Oper} {a : Act} {Q : Exit → Act → World → Prop} {w wr : World} {v : Value} {n B T : Nat} {cs : List Value}
/-- append(s, p): one address. -/
theorem appendP {pa : Option Addr} (s x : Operand) (hown : wr.ownsRow B 32 1 v n cs) (hlen : n < 2097152) (hBr : B ≤ wr.heap.size) (hw : w = wr.alloc (.cells #[.pointer pa] T))
    (hgd : o.guard = none) (ho : o.op = .call { callee := .builtin .append, args := #[s, x], argTypes := #[24, 24] })
    (hv : a.eval s = v) (hx : a.eval x = .slice (some ⟨wr.heap.size, 0, none⟩) 1 1)
    (h : ∀ g cap w', w'.ownsRow B 32 1 (.slice (some ⟨g, 0, none⟩) (n + 1) cap) (n + 1) (cs ++ [.pointer pa]) → wr.grownBy w' v.ownBlock → (v.ownBlock = some g ∨ g = wr.heap.size + 1) → g < w'.heap.size → wpList Tryz.prog ops Q rest (a.put o.dst (.slice (some ⟨g, 0, none⟩) (n + 1) cap)) w') :
    wpList Tryz.prog ops Q (o :: rest) a w := by
  obtain ⟨i0, hi, hz0, hz1, hz2⟩ := info_parts Tryz.infoPtr
  subst hw
  refine wpList_append_lies _ hgd s x 24 ho B 32 i0 (.pointer none) 1 8 Tryz.underlying24 hi hz0 hz1 hz2 rfl (by decide) v n cs hv (ownsRow_keep hown (fun k hk => Below.heap_alloc _ _ k (World.ownsRow.lt hown k hk).2)) ⟨wr.heap.size, 0, none⟩ 1 1 [.pointer pa] hx rfl ?_ (fun u hu => by simp at hu; subst hu; rfl) (by decide) ?_ ?_ ?_ (wr.heap.size + 1) (by simp) ?_
  · intro j u hj
    cases j with
    | zero => simp at hj; subst hj; simp [Addr.add]
    | succ j => simp at hj
  · unfold maxLen; omega
  · omega
  · simp; omega
  · intro g cap w' h1 h2 h3 h4
    exact h g cap w' h1 (grownBy_of_alloc h2) h3 h4
/-- append(s, d): one of the document's digests. -/
theorem appendW {b c : Int} {p : Option Addr} {m q : Nat} (s x : Operand) (hown : wr.ownsRow B 37 3 v n cs) (hlen : n < 2097152) (hBr : B ≤ wr.heap.size) (hw : w = wr.alloc (.cells #[.int .i64 b, .int .i64 c, .slice p m q] T))
    (hgd : o.guard = none) (ho : o.op = .call { callee := .builtin .append, args := #[s, x], argTypes := #[25, 25] })
    (hv : a.eval s = v) (hx : a.eval x = .slice (some ⟨wr.heap.size, 0, none⟩) 1 1)
    (h : ∀ g cap w', w'.ownsRow B 37 3 (.slice (some ⟨g, 0, none⟩) (n + 1) cap) (n + 1) (cs ++ [.int .i64 b, .int .i64 c, .slice p m q]) → wr.grownBy w' v.ownBlock → (v.ownBlock = some g ∨ g = wr.heap.size + 1) → g < w'.heap.size → wpList Tryz.prog ops Q rest (a.put o.dst (.slice (some ⟨g, 0, none⟩) (n + 1) cap)) w') :
    wpList Tryz.prog ops Q (o :: rest) a w := by
  obtain ⟨i0, hi, hz0, hz1, hz2⟩ := info_parts Tryz.infoDig
  subst hw
  refine wpList_append_lies _ hgd s x 25 ho B 37 i0 (.agg #[.int .i64 0, .int .i64 0, .slice none 0 0]) 3 40 Tryz.underlying25 hi hz0 hz1 hz2 rfl (by decide) v n cs hv (ownsRow_keep hown (fun k hk => Below.heap_alloc _ _ k (World.ownsRow.lt hown k hk).2)) ⟨wr.heap.size, 0, none⟩ 1 1 [.int .i64 b, .int .i64 c, .slice p m q] hx rfl ?_ (fun u hu => by simp at hu; rcases hu with rfl | rfl | rfl <;> rfl) (by decide) ?_ ?_ ?_ (wr.heap.size + 1) (by simp) ?_
  · intro j u hj
    have hadd : (⟨wr.heap.size, 0, none⟩ : Addr).add j = ⟨wr.heap.size, j, none⟩ := by unfold Addr.add; split <;> simp_all
    rw [hadd, World.cell?_alloc_at _ _ _ _ rfl]
    match j, hj with
    | 0, hj => simpa using hj
    | 1, hj => simpa using hj
    | 2, hj => simpa using hj
    | j + 3, hj => simp at hj
  · unfold maxLen; omega
  · omega
  · simp; omega
  · intro g cap w' h1 h2 h3 h4
    exact h g cap w' h1 (grownBy_of_alloc h2) h3 h4
end
/-- A digest in memory, and the document's beside it. -/
structure DgM where
  e : DgE
  dg : Nat
  q : Nat
  g : Nat
  h : Nat
  v : Value
def pcells (Gs : List DgM) : List Value := Gs.map (fun x => .pointer (some ⟨x.dg, 0, none⟩))
def wcells (Gs : List DgM) : List Value := Gs.flatMap (fun x => [.int .i64 x.e.k, .int .i64 x.e.l, x.v])
theorem wcells_get (Gs : List DgM) : ∀ k (h : k < Gs.length), (wcells Gs)[k * 3]? = some (.int .i64 Gs[k].e.k) ∧ (wcells Gs)[k * 3 + 1]? = some (.int .i64 Gs[k].e.l) ∧ (wcells Gs)[k * 3 + 2]? = some Gs[k].v := by
  induction Gs with
  | nil => intro k h; simp at h
  | cons x r ih =>
    intro k h
    cases k with
    | zero => simp [wcells]
    | succ k =>
      have := ih k (by simpa using h)
      simpa [wcells, show (k + 1) * 3 = k * 3 + 3 by omega, show k * 3 + 3 + 1 = k * 3 + 1 + 3 by omega, show k * 3 + 3 + 2 = k * 3 + 2 + 3 by omega] using this
/-- It is there, off the rows of such blocks. -/
def DgM.ok (R : Nat → Prop) (W : World) (x : DgM) : Prop :=
  DgV W x.dg x.q x.g x.h x.e.kind x.e.l x.e.k 2000 x.e.F ∧ RdN W x.v x.e.F ∧ x.e.F.length ≤ 60 ∧ (∀ j, DB x.dg x.q x.g x.h j → ¬ R j) ∧ ∀ j, R j → NotIn x.v x.e.F j
theorem DgM.ok.keep {R : Nat → Prop} {W W' : World} {x : DgM} (h : x.ok R W) (hk : ∀ j, j < W.heap.size → ¬ R j → W'.heap[j]? = W.heap[j]?) (hs : W.heap.size ≤ W'.heap.size) : x.ok R W' := by
  obtain ⟨d, r, hl, h1, h2⟩ := h
  refine ⟨d.keepB (fun j hj hd => hk j hj (h1 j hd)), ?_, hl, h1, h2⟩
  by_cases h0 : x.e.F = []
  · rw [h0] at r ⊢; exact r.any
  · refine r.keep (fun g hg hv => hk g hg (fun hR => ?_)) hs
    rcases h2 g hR with h | h
    · exact h0 h
    · exact h g hv rfl
theorem DgM.ok.rows {R R' : Nat → Prop} {W : World} {x : DgM} (h : x.ok R W) (hR : ∀ j, R' j → R j ∨ W.heap.size ≤ j) : x.ok R' W := by
  obtain ⟨d, r, hl, h1, h2⟩ := h
  refine ⟨d, r, hl, fun j hj hr => ?_, fun j hr => ?_⟩
  · rcases hR j hr with h | h
    · exact h1 j hj h
    · have := d.ltB j hj; omega
  · rcases hR j hr with h | h
    · exact h2 j h
    · exact NotIn.of_lt r h
end Go.Proofs.YtbbkfjbaocpknaaGreat
