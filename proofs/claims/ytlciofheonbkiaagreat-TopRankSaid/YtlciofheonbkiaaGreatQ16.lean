/- Texts laid together. -/
import Derived.Test.YtlciofheonbkiaaGreatQ01
import Derived.Deep.AppendLies
import Derived.Test.YtlciofheonbkiaaGreatQ15
import Derived.Test.YtlciofheonbkiaaGreatQ12
import Derived.Test.YtlciofheonbkiaaGreatQ14
/- What is appended to rows of two cells each. -/
namespace Go.Proofs.YtlciofheonbkiaaGreat
open Go.RowKit

theorem Tryz.infoEnd : (Tryz.prog.info? 151).map (fun i => (i.zero, i.size, i.bytes)) = some (some (.agg #[.int .i64 0, .int .i64 0]), 2, 16) := by kernel_rfl
theorem Tryz.infoBag : (Tryz.prog.info? 41).map (fun i => (i.zero, i.size, i.bytes)) = some (some (.agg #[.int .i64 0, .slice none 0 0]), 2, 32) := by kernel_rfl
theorem Tryz.infoDgp : (Tryz.prog.info? 38).map (fun i => (i.zero, i.size, i.bytes)) = some (some (.pointer none), 1, 8) := by kernel_rfl
section
variable {ops : Array Oper} {rest : List Oper} {o : Oper} {a : Act} {Q : Exit → Act → World → Prop} {w wr : World} {v : Value} {n B T : Nat} {cs : List Value}
/-- append(s, x): one end. -/
theorem appendE {b c : Int} (s x : Operand) (hown : wr.ownsRow B 151 2 v n cs) (hlen : n < 16777216) (hBr : B ≤ wr.heap.size) (hw : w = wr.alloc (.cells #[.int .i64 b, .int .i64 c] T))
    (hgd : o.guard = none) (ho : o.op = .call { callee := .builtin .append, args := #[s, x], argTypes := #[83, 83] })
    (hv : a.eval s = v) (hx : a.eval x = .slice (some ⟨wr.heap.size, 0, none⟩) 1 1)
    (h : ∀ g cap w', w'.ownsRow B 151 2 (.slice (some ⟨g, 0, none⟩) (n + 1) cap) (n + 1) (cs ++ [.int .i64 b, .int .i64 c]) → wr.grownBy w' v.ownBlock → (v.ownBlock = some g ∨ g = wr.heap.size + 1) → g < w'.heap.size → wpList Tryz.prog ops Q rest (a.put o.dst (.slice (some ⟨g, 0, none⟩) (n + 1) cap)) w') :
    wpList Tryz.prog ops Q (o :: rest) a w := by
  obtain ⟨i0, hi, hz0, hz1, hz2⟩ := info_parts Tryz.infoEnd
  subst hw
  refine wpList_append_lies _ hgd s x 83 ho B 151 i0 (.agg #[.int .i64 0, .int .i64 0]) 2 16 Tryz.underlying83 hi hz0 hz1 hz2 rfl (by decide) v n cs hv (ownsRow_keep hown (fun k hk => Below.heap_alloc _ _ k (World.ownsRow.lt hown k hk).2)) ⟨wr.heap.size, 0, none⟩ 1 1 [.int .i64 b, .int .i64 c] hx rfl ?_ (fun u hu => by simp at hu; rcases hu with rfl | rfl <;> rfl) (by decide) ?_ ?_ ?_ (wr.heap.size + 1) (by simp) ?_
  · intro j u hj
    have hadd : (⟨wr.heap.size, 0, none⟩ : Addr).add j = ⟨wr.heap.size, j, none⟩ := by unfold Addr.add; split <;> simp_all
    rw [hadd, World.cell?_alloc_at _ _ _ _ rfl]
    match j, hj with
    | 0, hj => simpa using hj
    | 1, hj => simpa using hj
    | j + 2, hj => simp at hj
  · unfold maxLen; omega
  · omega
  · simp; omega
  · intro g cap w' h1 h2 h3 h4
    exact h g cap w' h1 (grownBy_of_alloc h2) h3 h4
/-- append(s, b): one bag. -/
theorem appendBag {b : Int} {u : Value} (s x : Operand) (hu1 : u.oneCell' = true) (hown : wr.ownsRow B 41 2 v n cs) (hlen : n < 16777216) (hBr : B ≤ wr.heap.size) (hw : w = wr.alloc (.cells #[.int .i64 b, u] T))
    (hgd : o.guard = none) (ho : o.op = .call { callee := .builtin .append, args := #[s, x], argTypes := #[34, 34] })
    (hv : a.eval s = v) (hx : a.eval x = .slice (some ⟨wr.heap.size, 0, none⟩) 1 1)
    (h : ∀ g cap w', w'.ownsRow B 41 2 (.slice (some ⟨g, 0, none⟩) (n + 1) cap) (n + 1) (cs ++ [.int .i64 b, u]) → wr.grownBy w' v.ownBlock → (v.ownBlock = some g ∨ g = wr.heap.size + 1) → g < w'.heap.size → wpList Tryz.prog ops Q rest (a.put o.dst (.slice (some ⟨g, 0, none⟩) (n + 1) cap)) w') :
    wpList Tryz.prog ops Q (o :: rest) a w := by
  obtain ⟨i0, hi, hz0, hz1, hz2⟩ := info_parts Tryz.infoBag
  subst hw
  refine wpList_append_lies _ hgd s x 34 ho B 41 i0 (.agg #[.int .i64 0, .slice none 0 0]) 2 32 Tryz.underlying34 hi hz0 hz1 hz2 rfl (by decide) v n cs hv (ownsRow_keep hown (fun k hk => Below.heap_alloc _ _ k (World.ownsRow.lt hown k hk).2)) ⟨wr.heap.size, 0, none⟩ 1 1 [.int .i64 b, u] hx rfl ?_ (fun y hy => by rcases List.mem_cons.1 hy with rfl | hy; (· rfl); (· rw [List.mem_singleton.1 hy]; exact hu1)) (by decide) ?_ ?_ ?_ (wr.heap.size + 1) (by simp) ?_
  · intro j y hj
    have hadd : (⟨wr.heap.size, 0, none⟩ : Addr).add j = ⟨wr.heap.size, j, none⟩ := by unfold Addr.add; split <;> simp_all
    rw [hadd, World.cell?_alloc_at _ _ _ _ rfl]
    match j, hj with
    | 0, hj => simpa using hj
    | 1, hj => simpa using hj
    | j + 2, hj => simp at hj
  · unfold maxLen; omega
  · omega
  · simp; omega
  · intro g cap w' h1 h2 h3 h4
    exact h g cap w' h1 (grownBy_of_alloc h2) h3 h4
/-- append(s, p): one address. -/
theorem appendDgp {pa : Option Addr} (s x : Operand) (hown : wr.ownsRow B 38 1 v n cs) (hlen : n < 16777216) (hBr : B ≤ wr.heap.size) (hw : w = wr.alloc (.cells #[.pointer pa] T))
    (hgd : o.guard = none) (ho : o.op = .call { callee := .builtin .append, args := #[s, x], argTypes := #[33, 33] })
    (hv : a.eval s = v) (hx : a.eval x = .slice (some ⟨wr.heap.size, 0, none⟩) 1 1)
    (h : ∀ g cap w', w'.ownsRow B 38 1 (.slice (some ⟨g, 0, none⟩) (n + 1) cap) (n + 1) (cs ++ [.pointer pa]) → wr.grownBy w' v.ownBlock → (v.ownBlock = some g ∨ g = wr.heap.size + 1) → g < w'.heap.size → wpList Tryz.prog ops Q rest (a.put o.dst (.slice (some ⟨g, 0, none⟩) (n + 1) cap)) w') :
    wpList Tryz.prog ops Q (o :: rest) a w := by
  obtain ⟨i0, hi, hz0, hz1, hz2⟩ := info_parts Tryz.infoDgp
  subst hw
  refine wpList_append_lies _ hgd s x 33 ho B 38 i0 (.pointer none) 1 8 Tryz.underlying33 hi hz0 hz1 hz2 rfl (by decide) v n cs hv (ownsRow_keep hown (fun k hk => Below.heap_alloc _ _ k (World.ownsRow.lt hown k hk).2)) ⟨wr.heap.size, 0, none⟩ 1 1 [.pointer pa] hx rfl ?_ (fun u hu => by simp at hu; subst hu; rfl) (by decide) ?_ ?_ ?_ (wr.heap.size + 1) (by simp) ?_
  · intro j u hj
    cases j with
    | zero => simp at hj; subst hj; simp [Addr.add]
    | succ j => simp at hj
  · unfold maxLen; omega
  · omega
  · simp; omega
  · intro g cap w' h1 h2 h3 h4
    exact h g cap w' h1 (grownBy_of_alloc h2) h3 h4
end
end Go.Proofs.YtlciofheonbkiaaGreat

/- A crowd: several digests, and the bags that they stand for, side by side in memory. -/
namespace Go.Proofs.YtlciofheonbkiaaGreat
open Go.RowKit Nl

/-- One of a crowd: where its digest lies, what it is, and the bag that it stands for. -/
structure Rec where
  dg : Nat
  q : Nat
  g : Nat
  h : Nat
  kind : Int
  k : Int
  zs : List Nd
  its : List Nd
  v : Value
/-- Its digest is turned in its place. -/
def Rec.turn (r : Rec) (h : Nat) (zs : List Nd) : Rec := ⟨r.dg, r.q, r.g, h, r.kind, r.k, zs, r.its, r.v⟩
/-- Another digest stands in its place. -/
def Rec.swap (r : Rec) (dg q g h : Nat) (kind k : Int) (zs : List Nd) : Rec := ⟨dg, q, g, h, kind, k, zs, r.its, r.v⟩
/-- Another bag stands in its place. -/
def Rec.bag (r : Rec) (its : List Nd) (v : Value) : Rec := ⟨r.dg, r.q, r.g, r.h, r.kind, r.k, r.zs, its, v⟩
/-- The blocks of a digest of a crowd. -/
def Rec.B (r : Rec) (j : Nat) : Prop := DB r.dg r.q r.g r.h j
/-- One of a crowd, in memory. -/
structure RecOk (W : World) (l : Int) (r : Rec) : Prop where
  d : DgV W r.dg r.q r.g r.h r.kind l r.k 20000 r.zs
  rd : RdN W r.v r.its
  k1 : 1 ≤ r.kind
  k2 : r.kind ≤ 2
  kl : 10 < l → r.kind = 2
/-- The cells of both rows. -/
def dCells (rs : List Rec) : List Value := rs.map fun r => .pointer (some ⟨r.dg, 0, none⟩)
def bCells (l : Int) (rs : List Rec) : List Value := rs.flatMap fun r => [.int .i64 l, r.v]
/-- A crowd in memory: its own block c, the row of addresses vd, the row of bags vb; all of it above B0. -/
structure Crowd (W : World) (B0 : Nat) (l : Int) (c : Nat) (vd vb : Value) (rs : List Rec) : Prop where
  blk : Blk W c #[.int .i64 l, vd, vb] 36
  rowD : W.ownsRow B0 38 1 vd rs.length (dCells rs)
  rowB : W.ownsRow B0 41 2 vb rs.length (bCells l rs)
  each : ∀ i (h : i < rs.length), RecOk W l rs[i]
  apart : ∀ i j (h : i < rs.length) (h' : j < rs.length), i ≠ j → ∀ b, rs[i].B b → rs[j].B b → False
  base : B0 ≤ c
  low : ∀ i (h : i < rs.length) b, rs[i].B b → B0 ≤ b
  nD : ∀ b, vd.ownBlock = some b → b ≠ c
  nB : ∀ b, vb.ownBlock = some b → b ≠ c ∧ vd.ownBlock ≠ some b
  nR : ∀ i (h : i < rs.length) b, rs[i].B b → b ≠ c ∧ vd.ownBlock ≠ some b ∧ vb.ownBlock ≠ some b
  nV : ∀ i (h : i < rs.length), rs[i].its ≠ [] → ∀ b, rs[i].v.ownBlock = some b → b ≠ c ∧ vd.ownBlock ≠ some b ∧ vb.ownBlock ≠ some b ∧ ∀ j (h' : j < rs.length), ¬ rs[j].B b
theorem RecOk.below {W W' : World} {l : Int} {r : Rec} (h : RecOk W l r) (b : Below W.heap.size W W') : RecOk W' l r :=
  ⟨h.d.below b (Nat.le_refl _), h.rd.below b (Nat.le_refl _), h.k1, h.k2, h.kl⟩
/-- What makes memory alone leaves a crowd alone. -/
theorem Crowd.below {W W' : World} {B0 : Nat} {l : Int} {c : Nat} {vd vb : Value} {rs : List Rec} (h : Crowd W B0 l c vd vb rs) (b : Below W.heap.size W W') : Crowd W' B0 l c vd vb rs :=
  ⟨h.blk.below b (Nat.le_refl _), ownsRow_keep h.rowD (fun k hk => b.block k (World.ownsRow.lt h.rowD k hk).2), ownsRow_keep h.rowB (fun k hk => b.block k (World.ownsRow.lt h.rowB k hk).2),
    fun i hi => (h.each i hi).below b, h.apart, h.base, h.low, h.nD, h.nB, h.nR, h.nV⟩
theorem rd_empty {W W' : World} {v : Value} (h : RdN W v []) : RdN W' v [] := by
  rcases h with h | h | ⟨g, off, cap, h1, -, -, -⟩
  · exact .inl h
  · exact .inr (.inl h)
  · exact .inr (.inl ⟨_, cap, h1, rfl⟩)
theorem RecOk.rd_keep {W W' : World} {l : Int} {r : Rec} (h : RecOk W l r) (hk : r.its ≠ [] → ∀ b, b < W.heap.size → r.v.ownBlock = some b → W'.heap[b]? = W.heap[b]?) (hs : W.heap.size ≤ W'.heap.size) : RdN W' r.v r.its := by
  by_cases he : r.its = []
  · have := h.rd
    rw [he] at this ⊢
    exact rd_empty this
  · exact h.rd.keep (hk he) hs
theorem set_map {α β : Type} (f : α → β) (rs : List α) (i : Nat) (h : i < rs.length) (x : α) (e : f x = f rs[i]) : (rs.set i x).map f = rs.map f := by
  rw [List.map_set, e]
  have : (rs.map f)[i]'(by simpa using h) = f rs[i] := by simp
  rw [← this, List.set_getElem_self]
theorem bCells_map (l : Int) (rs : List Rec) : bCells l rs = ((rs.map fun r => r.v).map fun v => [Value.int .i64 l, v]).flatten := by
  unfold bCells
  rw [List.flatMap_def, List.map_map]; rfl
/-- A digest of a crowd is turned in its place. -/
theorem Crowd.turn {W W' : World} {B0 : Nat} {l : Int} {c : Nat} {vd vb : Value} {rs : List Rec} (h : Crowd W B0 l c vd vb rs) (i : Nat) (hi : i < rs.length) {h' : Nat} {zs' : List Nd}
    (ch : ChB rs[i].B W W') (d : DgV W' rs[i].dg rs[i].q rs[i].g h' rs[i].kind l rs[i].k 20000 zs') (hh : h' = rs[i].h ∨ W.heap.size ≤ h') :
    Crowd W' B0 l c vd vb (rs.set i (rs[i].turn h' zs')) := by
  have hc := h.blk.lt
  have hB : ∀ b, (rs[i].turn h' zs').B b → rs[i].B b ∨ W.heap.size ≤ b := fun b hb => by
    rcases hb with e | e | e | e
    · exact .inl (.inl e)
    · exact .inl (.inr (.inl e))
    · exact .inl (.inr (.inr (.inl e)))
    · rcases hh with e2 | e2
      · exact .inl (.inr (.inr (.inr (e.trans e2))))
      · exact .inr (by have e : b = h' := e; omega)
  have hlen : (rs.set i (rs[i].turn h' zs')).length = rs.length := List.length_set
  have lt : ∀ j (hj : j < rs.length) b, rs[j].B b → b < W.heap.size := fun j hj b hb => (h.each j hj).d.ltB b hb
  have eD : dCells (rs.set i (rs[i].turn h' zs')) = dCells rs := set_map _ rs i hi _ rfl
  have eB : bCells l (rs.set i (rs[i].turn h' zs')) = bCells l rs := by
    rw [bCells_map, bCells_map, set_map (fun r : Rec => r.v) rs i hi (rs[i].turn h' zs') rfl]
  refine ⟨h.blk.keep (ch.block c hc (fun q => (h.nR i hi c q).1 rfl)), ?_, ?_, ?_, ?_, h.base, ?_, h.nD, h.nB, ?_, ?_⟩
  · rw [hlen, eD]
    exact ownsRow_keep h.rowD (fun k hk => ch.block k (World.ownsRow.lt h.rowD k hk).2 (fun q => (h.nR i hi k q).2.1 hk))
  · rw [hlen, eB]
    exact ownsRow_keep h.rowB (fun k hk => ch.block k (World.ownsRow.lt h.rowB k hk).2 (fun q => (h.nR i hi k q).2.2 hk))
  · intro j hj
    rw [hlen] at hj
    have ej := h.each j hj
    have hrd : RdN W' rs[j].v rs[j].its := ej.rd_keep (fun he b hb hv => ch.block b hb (fun q => (h.nV j hj he b hv).2.2.2 i hi q)) ch.size
    by_cases e : i = j
    · subst e
      rw [List.getElem_set_self]
      exact ⟨d, hrd, ej.k1, ej.k2, ej.kl⟩
    · rw [List.getElem_set_ne e]
      exact ⟨ej.d.keepB (fun b hb hj' => ch.block b hb (fun q => h.apart i j hi hj e b q hj')), hrd, ej.k1, ej.k2, ej.kl⟩
  · intro a b ha hb hab x
    rw [hlen] at ha hb
    by_cases e : i = a
    · subst e
      rw [List.getElem_set_self, List.getElem_set_ne hab]
      intro p q
      rcases hB x p with p | p
      · exact h.apart i b ha hb hab x p q
      · have := lt b hb x q; omega
    · rw [List.getElem_set_ne e]
      by_cases e2 : i = b
      · subst e2
        rw [List.getElem_set_self]
        intro p q
        rcases hB x q with q | q
        · exact h.apart a i ha hb hab x p q
        · have := lt a ha x p; omega
      · rw [List.getElem_set_ne e2]
        exact h.apart a b ha hb hab x
  · intro j hj b
    rw [hlen] at hj
    have hb0 := h.base
    by_cases e : i = j
    · subst e
      rw [List.getElem_set_self]
      intro p
      rcases hB b p with p | p
      · exact h.low i hj b p
      · omega
    · rw [List.getElem_set_ne e]; exact h.low j hj b
  · intro j hj b
    rw [hlen] at hj
    by_cases e : i = j
    · subst e
      rw [List.getElem_set_self]
      intro p
      rcases hB b p with p | p
      · exact h.nR i hj b p
      · exact ⟨by omega, fun q => by have := (World.ownsRow.lt h.rowD b q).2; omega, fun q => by have := (World.ownsRow.lt h.rowB b q).2; omega⟩
    · rw [List.getElem_set_ne e]; exact h.nR j hj b
  · intro j hj
    rw [hlen] at hj
    have key : ∀ j (hj : j < rs.length), rs[j].its ≠ [] → ∀ b, rs[j].v.ownBlock = some b → b ≠ c ∧ vd.ownBlock ≠ some b ∧ vb.ownBlock ≠ some b ∧ ∀ m (hm : m < (rs.set i (rs[i].turn h' zs')).length), ¬ (rs.set i (rs[i].turn h' zs'))[m].B b := by
      intro j hj he b hv
      obtain ⟨n1, n2, n3, n4⟩ := h.nV j hj he b hv
      have hbl : b < W.heap.size := by
        rcases (h.each j hj).rd.ltE with q | q
        · exact absurd q he
        · exact q b hv
      refine ⟨n1, n2, n3, fun m hm => ?_⟩
      rw [hlen] at hm
      by_cases e : i = m
      · subst e
        rw [List.getElem_set_self]
        intro p
        rcases hB b p with p | p
        · exact n4 i hm p
        · omega
      · rw [List.getElem_set_ne e]; exact n4 m hm
    by_cases e : i = j
    · subst e
      rw [List.getElem_set_self]
      exact key i hj
    · rw [List.getElem_set_ne e]
      exact key j hj
/-- Another digest is laid into the row. -/
theorem Crowd.setD {W : World} {B0 : Nat} {l : Int} {c D cap : Nat} {vb : Value} {rs : List Rec} (h : Crowd W B0 l c (.slice (some ⟨D, 0, none⟩) rs.length cap) vb rs) (i : Nat) (hi : i < rs.length) {dg q g h' : Nat} {kind k : Int} {zs : List Nd}
    (d : DgV W dg q g h' kind l k 20000 zs) (k1 : 1 ≤ kind) (k2 : kind ≤ 2) (kl : 10 < l → kind = 2)
    (fr : ∀ b, DB dg q g h' b → b ≠ c ∧ b ≠ D ∧ vb.ownBlock ≠ some b ∧ B0 ≤ b ∧ (∀ j (hj : j < rs.length), ¬ rs[j].B b) ∧ ∀ j (hj : j < rs.length), rs[j].its ≠ [] → rs[j].v.ownBlock ≠ some b) :
    Crowd (W.setCell ⟨D, i, none⟩ (.pointer (some ⟨dg, 0, none⟩))) B0 l c (.slice (some ⟨D, 0, none⟩) rs.length cap) vb (rs.set i (rs[i].swap dg q g h' kind k zs)) := by
  have kp : ∀ b, b ≠ D → (W.setCell ⟨D, i, none⟩ (.pointer (some ⟨dg, 0, none⟩))).heap[b]? = W.heap[b]? := fun b hb => Below.heap_setCell _ ⟨D, i, none⟩ _ b hb
  have hs : W.heap.size ≤ (W.setCell ⟨D, i, none⟩ (.pointer (some ⟨dg, 0, none⟩))).heap.size := by simp
  have hlen : (rs.set i (rs[i].swap dg q g h' kind k zs)).length = rs.length := List.length_set
  have oD : (Value.slice (some ⟨D, 0, none⟩) rs.length cap).ownBlock = some D := rfl
  have eB : bCells l (rs.set i (rs[i].swap dg q g h' kind k zs)) = bCells l rs := by
    rw [bCells_map, bCells_map, set_map (fun r : Rec => r.v) rs i hi (rs[i].swap dg q g h' kind k zs) rfl]
  have eD : dCells (rs.set i (rs[i].swap dg q g h' kind k zs)) = (dCells rs).set i (.pointer (some ⟨dg, 0, none⟩)) := by
    unfold dCells; rw [List.map_set]; rfl
  have nd : ∀ j (hj : j < rs.length) b, rs[j].B b → b ≠ D := fun j hj b hb e => (h.nR j hj b hb).2.1 (by rw [e]; rfl)
  refine ⟨h.blk.keep (kp c (fun e => h.nD D rfl e.symm)), ?_, ?_, ?_, ?_, h.base, ?_, h.nD, h.nB, ?_, ?_⟩
  · rw [hlen, eD]
    exact (World.ownsRow.stored h.rowD i _).1
  · rw [hlen, eB]
    exact ownsRow_keep h.rowB (fun b hb => kp b (fun e => (h.nB b hb).2 (by rw [e]; rfl)))
  · intro j hj
    rw [hlen] at hj
    have ej := h.each j hj
    have hrd := ej.rd_keep (W' := W.setCell ⟨D, i, none⟩ (.pointer (some ⟨dg, 0, none⟩))) (fun he b _ hv => kp b (fun e => (h.nV j hj he b hv).2.1 (by rw [e]; rfl))) hs
    by_cases e : i = j
    · subst e
      rw [List.getElem_set_self]
      exact ⟨d.keepB (fun b _ hb => kp b (fr b hb).2.1), hrd, k1, k2, kl⟩
    · rw [List.getElem_set_ne e]
      exact ⟨ej.d.keepB (fun b _ hb => kp b (nd j hj b hb)), hrd, ej.k1, ej.k2, ej.kl⟩
  · intro a b ha hb hab x
    rw [hlen] at ha hb
    by_cases e : i = a
    · subst e
      rw [List.getElem_set_self, List.getElem_set_ne hab]
      exact fun p q => (fr x p).2.2.2.2.1 b hb q
    · rw [List.getElem_set_ne e]
      by_cases e2 : i = b
      · subst e2
        rw [List.getElem_set_self]
        exact fun p q => (fr x q).2.2.2.2.1 a ha p
      · rw [List.getElem_set_ne e2]
        exact h.apart a b ha hb hab x
  · intro j hj b
    rw [hlen] at hj
    by_cases e : i = j
    · subst e
      rw [List.getElem_set_self]
      exact fun p => (fr b p).2.2.2.1
    · rw [List.getElem_set_ne e]; exact h.low j hj b
  · intro j hj b
    rw [hlen] at hj
    by_cases e : i = j
    · subst e
      rw [List.getElem_set_self]
      exact fun p => ⟨(fr b p).1, fun q => (fr b p).2.1 (by rw [oD] at q; exact (Option.some.inj q).symm), (fr b p).2.2.1⟩
    · rw [List.getElem_set_ne e]; exact h.nR j hj b
  · intro j hj
    rw [hlen] at hj
    have key : ∀ j (hj : j < rs.length), rs[j].its ≠ [] → ∀ b, rs[j].v.ownBlock = some b → b ≠ c ∧ (Value.slice (some ⟨D, 0, none⟩) rs.length cap).ownBlock ≠ some b ∧ vb.ownBlock ≠ some b ∧ ∀ m (hm : m < (rs.set i (rs[i].swap dg q g h' kind k zs)).length), ¬ (rs.set i (rs[i].swap dg q g h' kind k zs))[m].B b := by
      intro j hj he b hv
      obtain ⟨n1, n2, n3, n4⟩ := h.nV j hj he b hv
      refine ⟨n1, n2, n3, fun m hm => ?_⟩
      rw [hlen] at hm
      by_cases e : i = m
      · subst e
        rw [List.getElem_set_self]
        exact fun p => (fr b p).2.2.2.2.2 j hj he hv
      · rw [List.getElem_set_ne e]; exact n4 m hm
    by_cases e : i = j
    · subst e
      rw [List.getElem_set_self]
      exact key i hj
    · rw [List.getElem_set_ne e]
      exact key j hj
theorem bCells_set (l : Int) (v : Value) : ∀ (rs : List Rec) (i : Nat) (_ : i < rs.length) (r : Rec), r.v = v → bCells l (rs.set i r) = (bCells l rs).set (i * 2 + 1) v
  | [], i, hi, _, _ => absurd hi (Nat.not_lt_zero _)
  | x :: t, 0, _, r, e => by subst e; rfl
  | x :: t, i + 1, hi, r, e => by
    have ih := bCells_set l v t i (by simpa using hi) r e
    unfold bCells at ih ⊢
    rw [List.set_cons_succ, List.flatMap_cons, ih, List.flatMap_cons, show (i + 1) * 2 + 1 = (i * 2 + 1) + 2 by omega]
    rfl
/-- Another bag is laid into the row: the slice of its items. -/
theorem Crowd.setB {W : World} {B0 : Nat} {l : Int} {c D cap : Nat} {vd : Value} {rs : List Rec} (h : Crowd W B0 l c vd (.slice (some ⟨D, 0, none⟩) rs.length cap) rs) (i : Nat) (hi : i < rs.length) {its : List Nd} {v : Value}
    (rd : RdN W v its) (fr : its ≠ [] → ∀ b, v.ownBlock = some b → b ≠ c ∧ b ≠ D ∧ vd.ownBlock ≠ some b ∧ ∀ j (hj : j < rs.length), ¬ rs[j].B b) :
    Crowd (W.setCell ⟨D, i * 2 + 1, none⟩ v) B0 l c vd (.slice (some ⟨D, 0, none⟩) rs.length cap) (rs.set i (rs[i].bag its v)) := by
  have kp : ∀ b, b ≠ D → (W.setCell ⟨D, i * 2 + 1, none⟩ v).heap[b]? = W.heap[b]? := fun b hb => Below.heap_setCell _ ⟨D, i * 2 + 1, none⟩ _ b hb
  have hs : W.heap.size ≤ (W.setCell ⟨D, i * 2 + 1, none⟩ v).heap.size := by simp
  have hlen : (rs.set i (rs[i].bag its v)).length = rs.length := List.length_set
  have oD : (Value.slice (some ⟨D, 0, none⟩) rs.length cap).ownBlock = some D := rfl
  have eD : dCells (rs.set i (rs[i].bag its v)) = dCells rs := set_map _ rs i hi (rs[i].bag its v) rfl
  have nd : ∀ j (hj : j < rs.length) b, rs[j].B b → b ≠ D := fun j hj b hb e => (h.nR j hj b hb).2.2 (by rw [e]; rfl)
  have eRB : ∀ j (hj : j < (rs.set i (rs[i].bag its v)).length) (hj' : j < rs.length) b, (rs.set i (rs[i].bag its v))[j].B b ↔ rs[j].B b := fun j hj hj' b => by
    by_cases e : i = j
    · subst e; rw [List.getElem_set_self]; exact Iff.rfl
    · rw [List.getElem_set_ne e]
  refine ⟨h.blk.keep (kp c (fun e => (h.nB D rfl).1 e.symm)), ?_, ?_, ?_, ?_, h.base, ?_, h.nD, h.nB, ?_, ?_⟩
  · rw [hlen, eD]
    exact ownsRow_keep h.rowD (fun b hb => kp b (fun e => (h.nB D rfl).2 (by rw [← e]; exact hb)))
  · rw [hlen, bCells_set l v rs i hi _ rfl]
    exact (World.ownsRow.stored h.rowB (i * 2 + 1) v).1
  · intro j hj
    rw [hlen] at hj
    have ej := h.each j hj
    by_cases e : i = j
    · subst e
      rw [List.getElem_set_self]
      refine ⟨ej.d.keepB (fun b _ hb => kp b (nd i hj b hb)), ?_, ej.k1, ej.k2, ej.kl⟩
      show RdN _ v its
      by_cases he : its = []
      · subst he; exact rd_empty rd
      · exact rd.keep (fun b _ hv => kp b (fr he b hv).2.1) hs
    · rw [List.getElem_set_ne e]
      exact ⟨ej.d.keepB (fun b _ hb => kp b (nd j hj b hb)), ej.rd_keep (fun he b _ hv => kp b (fun e => (h.nV j hj he b hv).2.2.1 (by rw [e]; rfl))) hs, ej.k1, ej.k2, ej.kl⟩
  · intro a b ha hb hab x p q
    exact h.apart a b (by rwa [hlen] at ha) (by rwa [hlen] at hb) hab x ((eRB a ha (by rwa [hlen] at ha) x).1 p) ((eRB b hb (by rwa [hlen] at hb) x).1 q)
  · intro j hj b p
    exact h.low j (by rwa [hlen] at hj) b ((eRB j hj (by rwa [hlen] at hj) b).1 p)
  · intro j hj b p
    exact h.nR j (by rwa [hlen] at hj) b ((eRB j hj (by rwa [hlen] at hj) b).1 p)
  · intro j hj
    have hj' : j < rs.length := by rwa [hlen] at hj
    by_cases e : i = j
    · subst e
      rw [List.getElem_set_self]
      intro he b hv
      obtain ⟨n1, n2, n3, n4⟩ := fr he b hv
      exact ⟨n1, n3, fun q => n2 (by rw [oD] at q; exact (Option.some.inj q).symm), fun m hm p => n4 m (by rwa [hlen] at hm) ((eRB m hm (by rwa [hlen] at hm) b).1 p)⟩
    · rw [List.getElem_set_ne e]
      intro he b hv
      obtain ⟨n1, n2, n3, n4⟩ := h.nV j hj' he b hv
      exact ⟨n1, n2, n3, fun m hm p => n4 m (by rwa [hlen] at hm) ((eRB m hm (by rwa [hlen] at hm) b).1 p)⟩
end Go.Proofs.YtlciofheonbkiaaGreat

/- A crowd that grows by one: memory alone. -/
namespace Go.Proofs.YtlciofheonbkiaaGreat
open Go.RowKit Nl

/-- The shape of an own row. -/
theorem row_shape {w : World} {B : Nat} {E : TypeId} {z n : Nat} {v : Value} {cs : List Value} (h : w.ownsRow B E z v n cs) :
    (v = .slice none 0 0 ∧ n = 0) ∨ ∃ g cap, v = .slice (some ⟨g, 0, none⟩) n cap ∧ B ≤ g ∧ g < w.heap.size ∧ n ≤ cap ∧ ∀ j, j < n * z → w.cell? ⟨g, j, none⟩ = cs[j]? := by
  rcases h.2 with ⟨h1, h2⟩ | ⟨g, cap, cur, hv, hg, hh, h3, h4, h5, h6⟩
  · exact .inl ⟨h1, h2⟩
  · refine .inr ⟨g, cap, hv, hg, (Array.getElem?_eq_some_iff.1 hh).1, h3, ?_⟩
    subst hv
    exact fun j hj => World.ownsRow.cellAt h j hj
theorem row_val {w : World} {B : Nat} {E : TypeId} {z n : Nat} {v : Value} {cs : List Value} (h : w.ownsRow B E z v n cs) : ∃ p cap, v = .slice p n cap := by
  rcases row_shape h with ⟨rfl, rfl⟩ | ⟨g, cap, rfl, -⟩
  · exact ⟨_, _, rfl⟩
  · exact ⟨_, _, rfl⟩
/-- One that was begun. -/
def Rec.new (dg q g h : Nat) (kind k : Int) : Rec := ⟨dg, q, g, h, kind, k, [], [], .slice none 0 0⟩
section
variable {W0 W1 W2 W4 : World} {B0 c dg q g h g3 g4 cap3 cap4 : Nat} {l k kind : Int} {vd vb : Value} {rs : List Rec}
/-- What the first append leaves alone. -/
theorem Crowd.kept1 (b1 : Below W0.heap.size W0 W1) (hg3 : W1.grownBy W2 vd.ownBlock) (j : Nat) (hj : j < W0.heap.size) (hn : vd.ownBlock ≠ some j) : W2.heap[j]? = W0.heap[j]? := by
  rw [hg3.block j (Nat.lt_of_lt_of_le hj b1.size) (fun e => hn e.symm), b1.block j hj]
theorem Crowd.blk1 (C : Crowd W0 B0 l c vd vb rs) (b1 : Below W0.heap.size W0 W1) (hg3 : W1.grownBy W2 vd.ownBlock) : Blk W2 c #[.int .i64 l, vd, vb] 36 :=
  C.blk.keep (Crowd.kept1 b1 hg3 c C.blk.lt (fun e => C.nD c e rfl))
theorem Crowd.rowB1 (C : Crowd W0 B0 l c vd vb rs) (b1 : Below W0.heap.size W0 W1) (hg3 : W1.grownBy W2 vd.ownBlock) (u : Value) : (W2.setCell ⟨c, 1, none⟩ u).ownsRow B0 41 2 vb rs.length (bCells l rs) :=
  ownsRow_keep C.rowB (fun j hj => by
    have n := C.nB j hj
    rw [Below.heap_setCell _ ⟨c, 1, none⟩ _ j n.1]
    exact Crowd.kept1 b1 hg3 j (World.ownsRow.lt C.rowB j hj).2 n.2)
theorem Crowd.blk2 (C : Crowd W0 B0 l c vd vb rs) (b1 : Below W0.heap.size W0 W1) (hg3 : W1.grownBy W2 vd.ownBlock) (u : Value) (hg4 : (W2.setCell ⟨c, 1, none⟩ u).grownBy W4 vb.ownBlock) : Blk W4 c #[.int .i64 l, u, vb] 36 := by
  have X := (C.blk1 b1 hg3).set 1 u
  exact X.keep (hg4.block c X.lt (fun e => (C.nB c e.symm).1 rfl))
theorem Crowd.grow (C : Crowd W0 B0 l c vd vb rs) (b1 : Below W0.heap.size W0 W1) (d : DgV W1 dg q g h kind l k 20000 []) (new : ∀ b, DB dg q g h b → W0.heap.size ≤ b) (k1 : 1 ≤ kind) (k2 : kind ≤ 2) (kl : 10 < l → kind = 2)
    (o3 : W2.ownsRow B0 38 1 (.slice (some ⟨g3, 0, none⟩) (rs.length + 1) cap3) (rs.length + 1) (dCells rs ++ [.pointer (some ⟨dg, 0, none⟩)])) (hg3 : W1.grownBy W2 vd.ownBlock) (hn3 : vd.ownBlock = some g3 ∨ g3 = W1.heap.size + 1)
    (o4 : W4.ownsRow B0 41 2 (.slice (some ⟨g4, 0, none⟩) (rs.length + 1) cap4) (rs.length + 1) (bCells l rs ++ [.int .i64 l, .slice none 0 0])) (hg4 : (W2.setCell ⟨c, 1, none⟩ (.slice (some ⟨g3, 0, none⟩) (rs.length + 1) cap3)).grownBy W4 vb.ownBlock)
    (hn4 : vb.ownBlock = some g4 ∨ g4 = W2.heap.size + 1) :
    Crowd (W4.setCell ⟨c, 2, none⟩ (.slice (some ⟨g4, 0, none⟩) (rs.length + 1) cap4)) B0 l c (.slice (some ⟨g3, 0, none⟩) (rs.length + 1) cap3) (.slice (some ⟨g4, 0, none⟩) (rs.length + 1) cap4) (rs ++ [Rec.new dg q g h kind k]) := by
  have hc := C.blk.lt
  have hB0 := C.base
  have h31 : g3 < W2.heap.size := (World.ownsRow.lt o3 g3 rfl).2
  have s1 := b1.size
  have s2 := hg3.size
  have s4 := hg4.size
  have s4' : W2.heap.size ≤ W4.heap.size := by simpa using s4
  have ltD : ∀ j, vd.ownBlock = some j → j < W0.heap.size := fun j hj => (World.ownsRow.lt C.rowD j hj).2
  have ltB : ∀ j, vb.ownBlock = some j → j < W0.heap.size := fun j hj => (World.ownsRow.lt C.rowB j hj).2
  have ltR : ∀ i (hi : i < rs.length) b, rs[i].B b → b < W0.heap.size := fun i hi b hb => (C.each i hi).d.ltB b hb
  -- what lies where
  have n3c : g3 ≠ c := by
    rcases hn3 with e | e
    · exact C.nD g3 e
    · omega
  have n4c : g4 ≠ c := by
    rcases hn4 with e | e
    · exact (C.nB g4 e).1
    · omega
  have n34 : g3 ≠ g4 := by
    rintro rfl
    rcases hn4 with e | e
    · rcases hn3 with e' | e'
      · exact (C.nB g3 e).2 e'
      · have := ltB g3 e; omega
    · rcases hn3 with e' | e'
      · have := ltD g3 e'; omega
      · omega
  -- what is kept
  have kp1 : ∀ j, j < W1.heap.size → vd.ownBlock ≠ some j → W2.heap[j]? = W1.heap[j]? := fun j hj hn => hg3.block j hj (fun e => hn e.symm)
  have kp2 : ∀ j, j < W2.heap.size → j ≠ c → vb.ownBlock ≠ some j → (W4.setCell ⟨c, 2, none⟩ (.slice (some ⟨g4, 0, none⟩) (rs.length + 1) cap4)).heap[j]? = W2.heap[j]? := fun j hj hjc hn => by
    rw [Below.heap_setCell _ ⟨c, 2, none⟩ _ j hjc, hg4.block j (by simpa using hj) (fun e => hn e.symm), Below.heap_setCell _ ⟨c, 1, none⟩ _ j hjc]
  have kp : ∀ j, j < W1.heap.size → j ≠ c → vd.ownBlock ≠ some j → vb.ownBlock ≠ some j → (W4.setCell ⟨c, 2, none⟩ (.slice (some ⟨g4, 0, none⟩) (rs.length + 1) cap4)).heap[j]? = W1.heap[j]? := fun j hj hjc h1 h2 => by
    rw [kp2 j (by omega) hjc h2, kp1 j hj h1]
  have kp0 : ∀ j, j < W0.heap.size → j ≠ c → vd.ownBlock ≠ some j → vb.ownBlock ≠ some j → (W4.setCell ⟨c, 2, none⟩ (.slice (some ⟨g4, 0, none⟩) (rs.length + 1) cap4)).heap[j]? = W0.heap[j]? := fun j hj hjc h1 h2 => by
    rw [kp j (by omega) hjc h1 h2, b1.block j hj]
  have ndb : ∀ b, DB dg q g h b → b ≠ c ∧ vd.ownBlock ≠ some b ∧ vb.ownBlock ≠ some b ∧ b ≠ g3 ∧ b ≠ g4 := fun b hb => by
    have hn := new b hb
    have hl := d.ltB b hb
    refine ⟨by omega, fun e => by have := ltD b e; omega, fun e => by have := ltB b e; omega, ?_, ?_⟩
    · rintro rfl
      rcases hn3 with e | e
      · have := ltD b e; omega
      · omega
    · rintro rfl
      rcases hn4 with e | e
      · have := ltB b e; omega
      · omega
  have n3 : ∀ j, j < W0.heap.size → vd.ownBlock ≠ some j → j ≠ g3 := fun j hj hn e => by
    subst e
    rcases hn3 with e | e
    · exact hn e
    · omega
  have n4 : ∀ j, j < W0.heap.size → vb.ownBlock ≠ some j → j ≠ g4 := fun j hj hn e => by
    subst e
    rcases hn4 with e | e
    · exact hn e
    · omega
  have len : (rs ++ [Rec.new dg q g h kind k]).length = rs.length + 1 := by simp
  have g0 : ∀ i (hi : i < rs.length), (rs ++ [Rec.new dg q g h kind k])[i]'(by rw [len]; omega) = rs[i] := fun i hi => List.getElem_append_left hi
  have g1 : ∀ (hi : rs.length < (rs ++ [Rec.new dg q g h kind k]).length), (rs ++ [Rec.new dg q g h kind k])[rs.length] = Rec.new dg q g h kind k := fun hi => by simp
  have o3b : ∀ b : Nat, (Value.slice (some ⟨g3, 0, none⟩) (rs.length + 1) cap3).ownBlock = some b → g3 = b := fun b hb => Option.some.inj hb
  have o4b : ∀ b : Nat, (Value.slice (some ⟨g4, 0, none⟩) (rs.length + 1) cap4).ownBlock = some b → g4 = b := fun b hb => Option.some.inj hb
  have cs : ∀ i, i < (rs ++ [Rec.new dg q g h kind k]).length → i < rs.length ∨ i = rs.length := fun i hi => by rw [len] at hi; omega
  refine ⟨?_, ?_, ?_, ?_, ?_, hB0, ?_, ?_, ?_, ?_, ?_⟩
  · exact (C.blk2 b1 hg3 _ hg4).set 2 _
  · rw [len, show dCells (rs ++ [Rec.new dg q g h kind k]) = dCells rs ++ [.pointer (some ⟨dg, 0, none⟩)] by unfold dCells; simp [Rec.new]]
    exact ownsRow_keep o3 (fun j hj => by
      obtain rfl := o3b j hj
      refine kp2 g3 h31 n3c (fun e => ?_)
      rcases hn3 with e' | e'
      · exact (C.nB g3 e).2 e'
      · have := ltB g3 e; omega)
  · rw [len, show bCells l (rs ++ [Rec.new dg q g h kind k]) = bCells l rs ++ [.int .i64 l, .slice none 0 0] by unfold bCells; simp [Rec.new]]
    exact ownsRow_keep o4 (fun j hj => by
      obtain rfl := o4b j hj
      exact Below.heap_setCell _ ⟨c, 2, none⟩ _ g4 n4c)
  · intro i hi
    rcases cs i hi with hi' | rfl
    · rw [g0 i hi']
      have ei := C.each i hi'
      refine ⟨ei.d.keepB (fun b hb hd => ?_), ei.rd_keep (fun he b hb hv => ?_) ?_, ei.k1, ei.k2, ei.kl⟩
      · obtain ⟨q1, q2, q3⟩ := C.nR i hi' b hd
        exact kp0 b hb q1 q2 q3
      · obtain ⟨q1, q2, q3, -⟩ := C.nV i hi' he b hv
        exact kp0 b hb q1 q2 q3
      · have : W2.heap.size ≤ (W4.setCell ⟨c, 2, none⟩ (.slice (some ⟨g4, 0, none⟩) (rs.length + 1) cap4)).heap.size := by simpa using s4'
        omega
    · rw [g1]
      refine ⟨d.keepB (fun b hb hd => ?_), RdN.nil _, k1, k2, kl⟩
      obtain ⟨q1, q2, q3, -, -⟩ := ndb b hd
      exact kp b hb q1 q2 q3
  · intro i j hi hj hij b
    rcases cs i hi with hi' | rfl
    · rw [g0 i hi']
      rcases cs j hj with hj' | rfl
      · rw [g0 j hj']; exact C.apart i j hi' hj' hij b
      · rw [g1]
        intro p p'
        have := ltR i hi' b p
        have := new b p'
        omega
    · rw [g1]
      rcases cs j hj with hj' | rfl
      · rw [g0 j hj']
        intro p p'
        have := ltR j hj' b p'
        have := new b p
        omega
      · exact absurd rfl hij
  · intro i hi b
    rcases cs i hi with hi' | rfl
    · rw [g0 i hi']; exact C.low i hi' b
    · rw [g1]; intro p; have := new b p; omega
  · intro b hb
    rw [← o3b b hb]; exact n3c
  · intro b hb
    rw [← o4b b hb]
    exact ⟨n4c, fun e => n34 (o3b _ e)⟩
  · intro i hi b
    rcases cs i hi with hi' | rfl
    · rw [g0 i hi']
      intro p
      obtain ⟨q1, q2, q3⟩ := C.nR i hi' b p
      have hl := ltR i hi' b p
      exact ⟨q1, fun e => n3 b hl q2 (o3b b e).symm, fun e => n4 b hl q3 (o4b b e).symm⟩
    · rw [g1]
      intro p
      obtain ⟨q1, -, -, q4, q5⟩ := ndb b p
      exact ⟨q1, fun e => q4 (o3b b e).symm, fun e => q5 (o4b b e).symm⟩
  · intro i hi
    rcases cs i hi with hi' | rfl
    · rw [g0 i hi']
      intro he b hv
      obtain ⟨q1, q2, q3, q4⟩ := C.nV i hi' he b hv
      have hl : b < W0.heap.size := by
        rcases (C.each i hi').rd.ltE with e | e
        · exact absurd e he
        · exact e b hv
      refine ⟨q1, fun e => n3 b hl q2 (o3b b e).symm, fun e => n4 b hl q3 (o4b b e).symm, fun j hj => ?_⟩
      rcases cs j hj with hj' | rfl
      · rw [g0 j hj']; exact q4 j hj'
      · rw [g1]; intro p; have := new b p; omega
    · rw [g1]
      intro he
      exact absurd rfl he
end
/-- No one is there yet. -/
theorem Crowd.nil (W : World) (l : Int) : Crowd (W.alloc (.cells #[.int .i64 l, .slice none 0 0, .slice none 0 0] 36)) W.heap.size l W.heap.size (.slice none 0 0) (.slice none 0 0) [] :=
  ⟨Blk.new W _ _, World.ownsRow_nil _ _ _ _, World.ownsRow_nil _ _ _ _, fun i hi => absurd hi (Nat.not_lt_zero i), fun i _ hi => absurd hi (Nat.not_lt_zero i), Nat.le_refl _, fun i hi => absurd hi (Nat.not_lt_zero i), fun b hb => by simp [Value.ownBlock] at hb, fun b hb => by simp [Value.ownBlock] at hb, fun i hi => absurd hi (Nat.not_lt_zero i), fun i hi => absurd hi (Nat.not_lt_zero i)⟩
end Go.Proofs.YtlciofheonbkiaaGreat
