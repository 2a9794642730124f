/- Memory: slices of digests' addresses, and of the document's digests. -/
import Derived.Test.YtbbkfjbaocpknaaGreatBlNob
import Derived.Test.YtbbkfjbaocpknaaGreatBl12
namespace Go.Proofs.YtbbkfjbaocpknaaGreat
open Go.RowKit Nl

/-- Any row of one's own: its form, and its cells. -/
theorem rowC_shape {w : World} {B : Nat} {E : TypeId} {z n : Nat} {v : Value} {cs : List Value} (h : w.ownsRow B E z v n cs) :
    (v = .slice none 0 0 ∧ n = 0) ∨ ∃ g cap, v = .slice (some ⟨g, 0, none⟩) n cap ∧ B ≤ g ∧ g < w.heap.size ∧ n ≤ cap ∧ ∀ j, j < n * z → w.cell? ⟨g, j, none⟩ = cs[j]? := by
  rcases h.2 with ⟨h1, h2⟩ | ⟨g, cap, cur, hv, hg, hh, h3, h4, h5, h6⟩
  · exact .inl ⟨h1, h2⟩
  · refine .inr ⟨g, cap, hv, hg, (Array.getElem?_eq_some_iff.1 hh).1, h3, ?_⟩
    subst hv
    exact fun j hj => World.ownsRow.cellAt h j hj
/-- A digest, as one sees it. -/
structure DgE where
  kind : Int
  l : Int
  k : Int
  F : List Nd
/-- An address of a digest, or nil; its blocks are such. -/
def PtrR (R : Nat → Prop) (W : World) (u : Value) : Option DgE → Prop
  | none => u = .pointer none
  | some e => ∃ dg q g h, u = .pointer (some ⟨dg, 0, none⟩) ∧ DgV W dg q g h e.kind e.l e.k 2000 e.F ∧ ∀ j, DB dg q g h j → R j
theorem PtrR.ch {R : Nat → Prop} {W W' : World} {u : Value} {o : Option DgE} (h : PtrR R W u o) (hk : ∀ j, j < W.heap.size → R j → W'.heap[j]? = W.heap[j]?) : PtrR R W' u o := by
  cases o with
  | none => exact h
  | some e =>
    obtain ⟨dg, q, g, hh, rfl, d, hR⟩ := h
    exact ⟨dg, q, g, hh, rfl, d.keepB (fun j h1 h2 => hk j h1 (hR j h2)), hR⟩
theorem PtrR.below {R : Nat → Prop} {W W' : World} {u : Value} {o : Option DgE} (h : PtrR R W u o) (hb : Below W.heap.size W W') : PtrR R W' u o := h.ch fun j h1 _ => hb.block j h1
theorem PtrR.mono {R R' : Nat → Prop} {W : World} {u : Value} {o : Option DgE} (h : PtrR R W u o) (hR : ∀ j, j < W.heap.size → R j → R' j) : PtrR R' W u o := by
  cases o with
  | none => exact h
  | some e =>
    obtain ⟨dg, q, g, hh, rfl, d, h2⟩ := h
    exact ⟨dg, q, g, hh, rfl, d, fun j hj => hR j (d.ltB j hj) (h2 j hj)⟩
theorem PtrR.ptr {R : Nat → Prop} {W : World} {u : Value} {o : Option DgE} (h : PtrR R W u o) : ∃ a, u = .pointer a := by
  cases o with
  | none => exact ⟨_, h⟩
  | some e => obtain ⟨dg, q, g, hh, rfl, -⟩ := h; exact ⟨_, rfl⟩
abbrev PtrOk := PtrR (fun _ => True)
/-- A slice of such addresses. -/
def RdP (W : World) (v : Value) (es : List (Option DgE)) : Prop :=
  ∃ p cap, v = .slice p es.length cap ∧ es.length ≤ cap ∧ ∀ k, k < es.length → ∃ g off u, p = some ⟨g, off, none⟩ ∧ g < W.heap.size ∧ W.cell? ⟨g, off + k, none⟩ = some u ∧ PtrOk W u (es.getD k none)
theorem RdP.below {W W' : World} {v : Value} {es : List (Option DgE)} (h : RdP W v es) (hb : Below W.heap.size W W') : RdP W' v es := by
  obtain ⟨p, cap, rfl, hc, hr⟩ := h
  refine ⟨p, cap, rfl, hc, fun k hk => ?_⟩
  obtain ⟨g, off, u, hp, hg, c, o⟩ := hr k hk
  exact ⟨g, off, u, hp, Nat.lt_of_lt_of_le hg hb.size, by rw [World.cell?_of_block (w := W) (a := ⟨g, off + k, none⟩) (hb.block g hg)]; exact c, o.below hb⟩
/-- s[1:] -/
theorem tailP {w : World} {g o n c : Nat} {x : Option DgE} {r : List (Option DgE)} (h : RdP w (.slice (some ⟨g, o, none⟩) n c) (x :: r)) :
    ∃ o', (∀ W : World, (Instr.sliceAt 24 (.slice (some ⟨g, o, none⟩) n c) (some (.int .i64 1)) none none).run Tryz.prog W = .ok (.slice (some ⟨g, o', none⟩) (n - 1) (c - 1)) W) ∧ RdP w (.slice (some ⟨g, o', none⟩) (n - 1) (c - 1)) r := by
  obtain ⟨p, cap, hv, hc0, hr⟩ := h
  simp only [Value.slice.injEq] at hv
  obtain ⟨rfl, rfl, rfl⟩ := hv
  simp only [List.length_cons] at hc0 hr
  have h3 : (1 : Int) ≤ ((r.length + 1 : Nat) : Int) := by omega
  by_cases hc : c = 1
  · subst hc
    have hr0 : r = [] := List.eq_nil_of_length_eq_zero (by omega)
    subst hr0
    exact ⟨o, fun W => by simp [go_sem], _, _, rfl, Nat.le_refl _, fun k hk => by simp at hk⟩
  · refine ⟨o + 1, fun W => ?_, ?_⟩
    · simp [go_sem, hc]
      omega
    · refine ⟨_, _, rfl, by omega, fun k hk => ?_⟩
      obtain ⟨g', off, u, hp, hg, c1, ok⟩ := hr (k + 1) (by omega)
      simp only [Option.some.injEq, Addr.mk.injEq, and_true] at hp
      obtain ⟨rfl, rfl⟩ := hp
      exact ⟨g, o + 1, u, rfl, hg, by rw [show o + 1 + k = o + (k + 1) by omega]; exact c1, by simpa using ok⟩
end Go.Proofs.YtbbkfjbaocpknaaGreat
