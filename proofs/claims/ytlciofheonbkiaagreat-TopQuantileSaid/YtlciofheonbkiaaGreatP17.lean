/- Texts laid together. -/
import Derived.Test.YtlciofheonbkiaaGreatP16
import Derived.Test.YtlciofheonbkiaaGreatP12
import Derived.Test.YtlciofheonbkiaaGreatP14
/- A crowd: several digests, and the bags that they stand for, side by side in memory. -/
namespace Go.Proofs.YtlciofheonbkiaaGreat
open Go.RowKit Nl
structure Rec where
  dg : Nat
  q : Nat
  g : Nat
  h : Nat
  kind : Int
  k : Int
  zs : List Nd
  its : List Nd
  v : Value
def Rec.turn (r : Rec) (h : Nat) (zs : List Nd) : Rec := ⟨r.dg, r.q, r.g, h, r.kind, r.k, zs, r.its, r.v⟩
def Rec.swap (r : Rec) (dg q g h : Nat) (kind k : Int) (zs : List Nd) : Rec := ⟨dg, q, g, h, kind, k, zs, r.its, r.v⟩
def Rec.bag (r : Rec) (its : List Nd) (v : Value) : Rec := ⟨r.dg, r.q, r.g, r.h, r.kind, r.k, r.zs, its, v⟩
def Rec.B (r : Rec) (j : Nat) : Prop := DB r.dg r.q r.g r.h j
structure RecOk (W : World) (l : Int) (r : Rec) : Prop where
  d : DgV W r.dg r.q r.g r.h r.kind l r.k 20000 r.zs
  rd : RdN W r.v r.its
  k1 : 1 ≤ r.kind
  k2 : r.kind ≤ 2
  kl : 10 < l → r.kind = 2
def dCells (rs : List Rec) : List Value := rs.map fun r => .pointer (some ⟨r.dg, 0, none⟩)
def bCells (l : Int) (rs : List Rec) : List Value := rs.flatMap fun r => [.int .i64 l, r.v]
structure Crowd (W : World) (B0 : Nat) (l : Int) (c : Nat) (vd vb : Value) (rs : List Rec) : Prop where
  blk : Blk W c #[.int .i64 l, vd, vb] 36
  rowD : W.ownsRow B0 38 1 vd rs.length (dCells rs)
  rowB : W.ownsRow B0 41 2 vb rs.length (bCells l rs)
  each : ∀ i (h : i < rs.length), RecOk W l rs[i]
  apart : ∀ i j (h : i < rs.length) (h' : j < rs.length), i ≠ j → ∀ b, rs[i].B b → rs[j].B b → False
  base : B0 ≤ c
  low : ∀ i (h : i < rs.length) b, rs[i].B b → B0 ≤ b
  nD : ∀ b, vd.ownBlock = some b → b ≠ c
  nB : ∀ b, vb.ownBlock = some b → b ≠ c ∧ vd.ownBlock ≠ some b
  nR : ∀ i (h : i < rs.length) b, rs[i].B b → b ≠ c ∧ vd.ownBlock ≠ some b ∧ vb.ownBlock ≠ some b
  nV : ∀ i (h : i < rs.length), rs[i].its ≠ [] → ∀ b, rs[i].v.ownBlock = some b → b ≠ c ∧ vd.ownBlock ≠ some b ∧ vb.ownBlock ≠ some b ∧ ∀ j (h' : j < rs.length), ¬ rs[j].B b
theorem RecOk.below {W W' : World} {l : Int} {r : Rec} (h : RecOk W l r) (b : Below W.heap.size W W') : RecOk W' l r :=
  ⟨h.d.below b nlr, h.rd.below b nlr, h.k1, h.k2, h.kl⟩
theorem Crowd.below {W W' : World} {B0 : Nat} {l : Int} {c : Nat} {vd vb : Value} {rs : List Rec} (h : Crowd W B0 l c vd vb rs) (b : Below W.heap.size W W') : Crowd W' B0 l c vd vb rs :=
  ⟨h.blk.below b nlr, ownsRow_keep h.rowD (fun k hk => b.block k (World.ownsRow.lt h.rowD k hk).2), ownsRow_keep h.rowB (fun k hk => b.block k (World.ownsRow.lt h.rowB k hk).2),
    fun i hi => (h.each i hi).below b, h.apart, h.base, h.low, h.nD, h.nB, h.nR, h.nV⟩
theorem rd_empty {W W' : World} {v : Value} (h : RdN W v []) : RdN W' v [] := by
  rcases h with h | h | ⟨g, off, cap, h1, -, -, -⟩
  · exact .inl h
  · exact .inr (.inl h)
  · exact .inr (.inl ⟨_, cap, h1, rfl⟩)
theorem RecOk.rd_keep {W W' : World} {l : Int} {r : Rec} (h : RecOk W l r) (hk : r.its ≠ [] → ∀ b, b < W.heap.size → r.v.ownBlock = some b → W'.heap[b]? = W.heap[b]?) (hs : W.heap.size ≤ W'.heap.size) : RdN W' r.v r.its := by
  by_cases he : r.its = []
  · have := h.rd
    rw [he] at this ⊢
    exact rd_empty this
  · exact h.rd.keep (hk he) hs
theorem set_map {α β : Type} (f : α → β) (rs : List α) (i : Nat) (h : i < rs.length) (x : α) (e : f x = f rs[i]) : (rs.set i x).map f = rs.map f := by
  rw [List.map_set, e]
  have : (rs.map f)[i]'(by simpa using h) = f rs[i] := by simp
  rw [← this, List.set_getElem_self]
theorem bCells_map (l : Int) (rs : List Rec) : bCells l rs = ((rs.map fun r => r.v).map fun v => [Value.int .i64 l, v]).flatten := by
  unfold bCells
  rw [List.flatMap_def, List.map_map]; rfl
theorem Crowd.turn {W W' : World} {B0 : Nat} {l : Int} {c : Nat} {vd vb : Value} {rs : List Rec} (h : Crowd W B0 l c vd vb rs) (i : Nat) (hi : i < rs.length) {h' : Nat} {zs' : List Nd}
    (ch : ChB rs[i].B W W') (d : DgV W' rs[i].dg rs[i].q rs[i].g h' rs[i].kind l rs[i].k 20000 zs') (hh : h' = rs[i].h ∨ W.heap.size ≤ h') :
    Crowd W' B0 l c vd vb (rs.set i (rs[i].turn h' zs')) := by
  have hc := h.blk.lt
  have hB : ∀ b, (rs[i].turn h' zs').B b → rs[i].B b ∨ W.heap.size ≤ b := fun b hb => by
    rcases hb with e | e | e | e
    · exact .inl (.inl e)
    · exact .inl (.inr (.inl e))
    · exact .inl (.inr (.inr (.inl e)))
    · rcases hh with e2 | e2
      · exact .inl (.inr (.inr (.inr (e.trans e2))))
      · exact .inr (by have e : b = h' := e; omega)
  have hlen : (rs.set i (rs[i].turn h' zs')).length = rs.length := List.length_set
  have lt : ∀ j (hj : j < rs.length) b, rs[j].B b → b < W.heap.size := fun j hj b hb => (h.each j hj).d.ltB b hb
  have eD : dCells (rs.set i (rs[i].turn h' zs')) = dCells rs := set_map _ rs i hi _ rfl
  have eB : bCells l (rs.set i (rs[i].turn h' zs')) = bCells l rs := by
    rw [bCells_map, bCells_map, set_map (fun r : Rec => r.v) rs i hi (rs[i].turn h' zs') rfl]
  refine ⟨h.blk.keep (ch.block c hc (fun q => (h.nR i hi c q).1 rfl)), ?_, ?_, ?_, ?_, h.base, ?_, h.nD, h.nB, ?_, ?_⟩
  · rw [hlen, eD]
    exact ownsRow_keep h.rowD (fun k hk => ch.block k (World.ownsRow.lt h.rowD k hk).2 (fun q => (h.nR i hi k q).2.1 hk))
  · rw [hlen, eB]
    exact ownsRow_keep h.rowB (fun k hk => ch.block k (World.ownsRow.lt h.rowB k hk).2 (fun q => (h.nR i hi k q).2.2 hk))
  · intro j hj
    rw [hlen] at hj
    have ej := h.each j hj
    have hrd : RdN W' rs[j].v rs[j].its := ej.rd_keep (fun he b hb hv => ch.block b hb (fun q => (h.nV j hj he b hv).2.2.2 i hi q)) ch.size
    by_cases e : i = j
    · subst e
      rw [List.getElem_set_self]
      exact ⟨d, hrd, ej.k1, ej.k2, ej.kl⟩
    · rw [List.getElem_set_ne e]
      exact ⟨ej.d.keepB (fun b hb hj' => ch.block b hb (fun q => h.apart i j hi hj e b q hj')), hrd, ej.k1, ej.k2, ej.kl⟩
  · intro a b ha hb hab x
    rw [hlen] at ha hb
    by_cases e : i = a
    · subst e
      rw [List.getElem_set_self, List.getElem_set_ne hab]
      intro p q
      rcases hB x p with p | p
      · exact h.apart i b ha hb hab x p q
      · have := lt b hb x q; omega
    · rw [List.getElem_set_ne e]
      by_cases e2 : i = b
      · subst e2
        rw [List.getElem_set_self]
        intro p q
        rcases hB x q with q | q
        · exact h.apart a i ha hb hab x p q
        · have := lt a ha x p; omega
      · rw [List.getElem_set_ne e2]
        exact h.apart a b ha hb hab x
  · intro j hj b
    rw [hlen] at hj
    have hb0 := h.base
    by_cases e : i = j
    · subst e
      rw [List.getElem_set_self]
      intro p
      rcases hB b p with p | p
      · exact h.low i hj b p
      · omega
    · rw [List.getElem_set_ne e]; exact h.low j hj b
  · intro j hj b
    rw [hlen] at hj
    by_cases e : i = j
    · subst e
      rw [List.getElem_set_self]
      intro p
      rcases hB b p with p | p
      · exact h.nR i hj b p
      · exact ⟨by omega, fun q => by have := (World.ownsRow.lt h.rowD b q).2; omega, fun q => by have := (World.ownsRow.lt h.rowB b q).2; omega⟩
    · rw [List.getElem_set_ne e]; exact h.nR j hj b
  · intro j hj
    rw [hlen] at hj
    have key : ∀ j (hj : j < rs.length), rs[j].its ≠ [] → ∀ b, rs[j].v.ownBlock = some b → b ≠ c ∧ vd.ownBlock ≠ some b ∧ vb.ownBlock ≠ some b ∧ ∀ m (hm : m < (rs.set i (rs[i].turn h' zs')).length), ¬ (rs.set i (rs[i].turn h' zs'))[m].B b := by
      intro j hj he b hv
      obtain ⟨n1, n2, n3, n4⟩ := h.nV j hj he b hv
      have hbl : b < W.heap.size := by
        rcases (h.each j hj).rd.ltE with q | q
        · exact absurd q he
        · exact q b hv
      refine ⟨n1, n2, n3, fun m hm => ?_⟩
      rw [hlen] at hm
      by_cases e : i = m
      · subst e
        rw [List.getElem_set_self]
        intro p
        rcases hB b p with p | p
        · exact n4 i hm p
        · omega
      · rw [List.getElem_set_ne e]; exact n4 m hm
    by_cases e : i = j
    · subst e
      rw [List.getElem_set_self]
      exact key i hj
    · rw [List.getElem_set_ne e]
      exact key j hj
theorem Crowd.setD {W : World} {B0 : Nat} {l : Int} {c D cap : Nat} {vb : Value} {rs : List Rec} (h : Crowd W B0 l c (.slice (some ⟨D, 0, none⟩) rs.length cap) vb rs) (i : Nat) (hi : i < rs.length) {dg q g h' : Nat} {kind k : Int} {zs : List Nd}
    (d : DgV W dg q g h' kind l k 20000 zs) (k1 : 1 ≤ kind) (k2 : kind ≤ 2) (kl : 10 < l → kind = 2)
    (fr : ∀ b, DB dg q g h' b → b ≠ c ∧ b ≠ D ∧ vb.ownBlock ≠ some b ∧ B0 ≤ b ∧ (∀ j (hj : j < rs.length), ¬ rs[j].B b) ∧ ∀ j (hj : j < rs.length), rs[j].its ≠ [] → rs[j].v.ownBlock ≠ some b) :
    Crowd (W.setCell ⟨D, i, none⟩ (.pointer (some ⟨dg, 0, none⟩))) B0 l c (.slice (some ⟨D, 0, none⟩) rs.length cap) vb (rs.set i (rs[i].swap dg q g h' kind k zs)) := by
  have kp : ∀ b, b ≠ D → (W.setCell ⟨D, i, none⟩ (.pointer (some ⟨dg, 0, none⟩))).heap[b]? = W.heap[b]? := fun b hb => Below.heap_setCell _ ⟨D, i, none⟩ _ b hb
  have hs : W.heap.size ≤ (W.setCell ⟨D, i, none⟩ (.pointer (some ⟨dg, 0, none⟩))).heap.size := by simp
  have hlen : (rs.set i (rs[i].swap dg q g h' kind k zs)).length = rs.length := List.length_set
  have oD : (Value.slice (some ⟨D, 0, none⟩) rs.length cap).ownBlock = some D := rfl
  have eB : bCells l (rs.set i (rs[i].swap dg q g h' kind k zs)) = bCells l rs := by
    rw [bCells_map, bCells_map, set_map (fun r : Rec => r.v) rs i hi (rs[i].swap dg q g h' kind k zs) rfl]
  have eD : dCells (rs.set i (rs[i].swap dg q g h' kind k zs)) = (dCells rs).set i (.pointer (some ⟨dg, 0, none⟩)) := by
    unfold dCells; rw [List.map_set]; rfl
  have nd : ∀ j (hj : j < rs.length) b, rs[j].B b → b ≠ D := fun j hj b hb e => (h.nR j hj b hb).2.1 (by rw [e]; rfl)
  refine ⟨h.blk.keep (kp c (fun e => h.nD D rfl e.symm)), ?_, ?_, ?_, ?_, h.base, ?_, h.nD, h.nB, ?_, ?_⟩
  · rw [hlen, eD]
    exact (World.ownsRow.stored h.rowD i _).1
  · rw [hlen, eB]
    exact ownsRow_keep h.rowB (fun b hb => kp b (fun e => (h.nB b hb).2 (by rw [e]; rfl)))
  · intro j hj
    rw [hlen] at hj
    have ej := h.each j hj
    have hrd := ej.rd_keep (W' := W.setCell ⟨D, i, none⟩ (.pointer (some ⟨dg, 0, none⟩))) (fun he b _ hv => kp b (fun e => (h.nV j hj he b hv).2.1 (by rw [e]; rfl))) hs
    by_cases e : i = j
    · subst e
      rw [List.getElem_set_self]
      exact ⟨d.keepB (fun b _ hb => kp b (fr b hb).2.1), hrd, k1, k2, kl⟩
    · rw [List.getElem_set_ne e]
      exact ⟨ej.d.keepB (fun b _ hb => kp b (nd j hj b hb)), hrd, ej.k1, ej.k2, ej.kl⟩
  · intro a b ha hb hab x
    rw [hlen] at ha hb
    by_cases e : i = a
    · subst e
      rw [List.getElem_set_self, List.getElem_set_ne hab]
      exact fun p q => (fr x p).2.2.2.2.1 b hb q
    · rw [List.getElem_set_ne e]
      by_cases e2 : i = b
      · subst e2
        rw [List.getElem_set_self]
        exact fun p q => (fr x q).2.2.2.2.1 a ha p
      · rw [List.getElem_set_ne e2]
        exact h.apart a b ha hb hab x
  · intro j hj b
    rw [hlen] at hj
    by_cases e : i = j
    · subst e
      rw [List.getElem_set_self]
      exact fun p => (fr b p).2.2.2.1
    · rw [List.getElem_set_ne e]; exact h.low j hj b
  · intro j hj b
    rw [hlen] at hj
    by_cases e : i = j
    · subst e
      rw [List.getElem_set_self]
      exact fun p => ⟨(fr b p).1, fun q => (fr b p).2.1 (by rw [oD] at q; exact (Option.some.inj q).symm), (fr b p).2.2.1⟩
    · rw [List.getElem_set_ne e]; exact h.nR j hj b
  · intro j hj
    rw [hlen] at hj
    have key : ∀ j (hj : j < rs.length), rs[j].its ≠ [] → ∀ b, rs[j].v.ownBlock = some b → b ≠ c ∧ (Value.slice (some ⟨D, 0, none⟩) rs.length cap).ownBlock ≠ some b ∧ vb.ownBlock ≠ some b ∧ ∀ m (hm : m < (rs.set i (rs[i].swap dg q g h' kind k zs)).length), ¬ (rs.set i (rs[i].swap dg q g h' kind k zs))[m].B b := by
      intro j hj he b hv
      obtain ⟨n1, n2, n3, n4⟩ := h.nV j hj he b hv
      refine ⟨n1, n2, n3, fun m hm => ?_⟩
      rw [hlen] at hm
      by_cases e : i = m
      · subst e
        rw [List.getElem_set_self]
        exact fun p => (fr b p).2.2.2.2.2 j hj he hv
      · rw [List.getElem_set_ne e]; exact n4 m hm
    by_cases e : i = j
    · subst e
      rw [List.getElem_set_self]
      exact key i hj
    · rw [List.getElem_set_ne e]
      exact key j hj
theorem bCells_set (l : Int) (v : Value) : ∀ (rs : List Rec) (i : Nat) (_ : i < rs.length) (r : Rec), r.v = v → bCells l (rs.set i r) = (bCells l rs).set (i * 2 + 1) v
  | [], i, hi, _, _ => absurd hi (Nat.not_lt_zero _)
  | x :: t, 0, _, r, e => by subst e; rfl
  | x :: t, i + 1, hi, r, e => by
    have ih := bCells_set l v t i (by simpa using hi) r e
    unfold bCells at ih ⊢
    rw [List.set_cons_succ, List.flatMap_cons, ih, List.flatMap_cons, show (i + 1) * 2 + 1 = (i * 2 + 1) + 2 by omega]
    rfl
theorem Crowd.setB {W : World} {B0 : Nat} {l : Int} {c D cap : Nat} {vd : Value} {rs : List Rec} (h : Crowd W B0 l c vd (.slice (some ⟨D, 0, none⟩) rs.length cap) rs) (i : Nat) (hi : i < rs.length) {its : List Nd} {v : Value}
    (rd : RdN W v its) (fr : its ≠ [] → ∀ b, v.ownBlock = some b → b ≠ c ∧ b ≠ D ∧ vd.ownBlock ≠ some b ∧ ∀ j (hj : j < rs.length), ¬ rs[j].B b) :
    Crowd (W.setCell ⟨D, i * 2 + 1, none⟩ v) B0 l c vd (.slice (some ⟨D, 0, none⟩) rs.length cap) (rs.set i (rs[i].bag its v)) := by
  have kp : ∀ b, b ≠ D → (W.setCell ⟨D, i * 2 + 1, none⟩ v).heap[b]? = W.heap[b]? := fun b hb => Below.heap_setCell _ ⟨D, i * 2 + 1, none⟩ _ b hb
  have hs : W.heap.size ≤ (W.setCell ⟨D, i * 2 + 1, none⟩ v).heap.size := by simp
  have hlen : (rs.set i (rs[i].bag its v)).length = rs.length := List.length_set
  have oD : (Value.slice (some ⟨D, 0, none⟩) rs.length cap).ownBlock = some D := rfl
  have eD : dCells (rs.set i (rs[i].bag its v)) = dCells rs := set_map _ rs i hi (rs[i].bag its v) rfl
  have nd : ∀ j (hj : j < rs.length) b, rs[j].B b → b ≠ D := fun j hj b hb e => (h.nR j hj b hb).2.2 (by rw [e]; rfl)
  have eRB : ∀ j (hj : j < (rs.set i (rs[i].bag its v)).length) (hj' : j < rs.length) b, (rs.set i (rs[i].bag its v))[j].B b ↔ rs[j].B b := fun j hj hj' b => by
    by_cases e : i = j
    · subst e; rw [List.getElem_set_self]; exact Iff.rfl
    · rw [List.getElem_set_ne e]
  refine ⟨h.blk.keep (kp c (fun e => (h.nB D rfl).1 e.symm)), ?_, ?_, ?_, ?_, h.base, ?_, h.nD, h.nB, ?_, ?_⟩
  · rw [hlen, eD]
    exact ownsRow_keep h.rowD (fun b hb => kp b (fun e => (h.nB D rfl).2 (by rw [← e]; exact hb)))
  · rw [hlen, bCells_set l v rs i hi _ rfl]
    exact (World.ownsRow.stored h.rowB (i * 2 + 1) v).1
  · intro j hj
    rw [hlen] at hj
    have ej := h.each j hj
    by_cases e : i = j
    · subst e
      rw [List.getElem_set_self]
      refine ⟨ej.d.keepB (fun b _ hb => kp b (nd i hj b hb)), ?_, ej.k1, ej.k2, ej.kl⟩
      show RdN _ v its
      by_cases he : its = []
      · subst he; exact rd_empty rd
      · exact rd.keep (fun b _ hv => kp b (fr he b hv).2.1) hs
    · rw [List.getElem_set_ne e]
      exact ⟨ej.d.keepB (fun b _ hb => kp b (nd j hj b hb)), ej.rd_keep (fun he b _ hv => kp b (fun e => (h.nV j hj he b hv).2.2.1 (by rw [e]; rfl))) hs, ej.k1, ej.k2, ej.kl⟩
  · intro a b ha hb hab x p q
    exact h.apart a b (by rwa [hlen] at ha) (by rwa [hlen] at hb) hab x ((eRB a ha (by rwa [hlen] at ha) x).1 p) ((eRB b hb (by rwa [hlen] at hb) x).1 q)
  · intro j hj b p
    exact h.low j (by rwa [hlen] at hj) b ((eRB j hj (by rwa [hlen] at hj) b).1 p)
  · intro j hj b p
    exact h.nR j (by rwa [hlen] at hj) b ((eRB j hj (by rwa [hlen] at hj) b).1 p)
  · intro j hj
    have hj' : j < rs.length := by rwa [hlen] at hj
    by_cases e : i = j
    · subst e
      rw [List.getElem_set_self]
      intro he b hv
      obtain ⟨n1, n2, n3, n4⟩ := fr he b hv
      exact ⟨n1, n3, fun q => n2 (by rw [oD] at q; exact (Option.some.inj q).symm), fun m hm p => n4 m (by rwa [hlen] at hm) ((eRB m hm (by rwa [hlen] at hm) b).1 p)⟩
    · rw [List.getElem_set_ne e]
      intro he b hv
      obtain ⟨n1, n2, n3, n4⟩ := h.nV j hj' he b hv
      exact ⟨n1, n2, n3, fun m hm p => n4 m (by rwa [hlen] at hm) ((eRB m hm (by rwa [hlen] at hm) b).1 p)⟩
end Go.Proofs.YtlciofheonbkiaaGreat
