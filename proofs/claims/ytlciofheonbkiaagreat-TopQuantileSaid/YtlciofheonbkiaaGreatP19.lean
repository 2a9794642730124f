/- Texts laid together. -/
import Derived.Test.YtlciofheonbkiaaGreatP18
/- A crowd, further: what a call reads of it, and what it leaves (memory, and plain). -/
namespace Go.Proofs.YtlciofheonbkiaaGreat
open Go.RowKit Nl
theorem CrowdT.mono {l : Int} {rs : List Rec} {X Y : List Int} (t : CrowdT l rs X) (h : ∀ x ∈ X, x ∈ Y) (hY : ∀ x ∈ Y, leafB l x = true) : CrowdT l rs Y := fun i hi => (t i hi).mono h hY
theorem CrowdT.set {l : Int} {rs : List Rec} {X : List Int} (t : CrowdT l rs X) (i : Nat) {r : Rec} (h : TI l r.k r.zs r.its X) : CrowdT l (rs.set i r) X := fun j hj => by
  by_cases e : i = j
  · subst e; rw [List.getElem_set_self]; exact h
  · rw [List.getElem_set_ne e]; exact t j (by simpa using hj)
theorem CrowdT.set2 {l : Int} {rs : List Rec} {X : List Int} (t : CrowdT l rs X) (i : Nat) (a : Rec) {r : Rec} (h : TI l r.k r.zs r.its X) : CrowdT l ((rs.set i a).set i r) X := by
  rw [List.set_set]; exact t.set i h
def CB (vd vb : Value) (rs : List Rec) (k : Nat) : Prop := vd.ownBlock = some k ∨ vb.ownBlock = some k ∨ ∃ j, ∃ h : j < rs.length, rs[j].B k
theorem Crowd.cb_low {W : World} {B0 c : Nat} {l : Int} {vd vb : Value} {rs : List Rec} (C : Crowd W B0 l c vd vb rs) (k : Nat) (h : CB vd vb rs k) : B0 ≤ k := by
  rcases h with h | h | ⟨j, hj, h⟩
  · exact (World.ownsRow.lt C.rowD k h).1
  · exact (World.ownsRow.lt C.rowB k h).1
  · exact C.low j hj k h
theorem ChB.add {S : Nat → Prop} {w w' w'' : World} (h : ChB S w w') (k : Below w'.heap.size w' w'') : ChB S w w'' := h.trans (ChB.of_below (S := S) k) (fun _ _ q => q)
theorem ChB.addC {S S' : Nat → Prop} {w w' w'' : World} (h : ChB S w w') (k : ChB S' w' w'') (hs : ∀ j, S' j → S j) : ChB S w w'' := h.trans k (fun j _ q => hs j q)
theorem ChB.setS {S : Nat → Prop} {w w' : World} (h : ChB S w w') (p : Addr) (hp : S p.block) (v : Value) : ChB S w (w'.setCell p v) :=
  have b := (Below.refl 0 w').setCell (p := p) (Nat.zero_le _) v
  ⟨b.os.trans h.os, b.tape.trans h.tape, b.output.trans h.output, Nat.le_trans h.size b.size, fun k hk hn => by
    rw [Below.heap_setCell _ p _ k (fun e => hn (by rw [e]; exact hp))]
    exact h.block k hk hn⟩
def HopP (S : Nat → Prop) (B0 : Nat) (l : Int) (c : Nat) (vd vb : Value) (n : Nat) (X : List Int) (w : World) (e : Ending) (w' : World) : Prop :=
  e = .returned (.bool true) ∧ ∃ rs' X', rs'.length = n ∧ X'.length ≤ X.length + 1 ∧ Crowd w' B0 l c vd vb rs' ∧ CrowdT l rs' X' ∧ ChB S w w'
section
variable {W W' : World} {B0 c D E cd ce : Nat} {l : Int} {vd vb : Value} {rs : List Rec} {n : Nat}
theorem Crowd.rowSet (C : Crowd W B0 l c vd (.slice (some ⟨E, 0, none⟩) n ce) rs) (hs : W.heap.size ≤ W'.heap.size) (kp : ∀ b, b ≠ E → W'.heap[b]? = W.heap[b]?)
    (ro : W'.ownsRow B0 41 2 (.slice (some ⟨E, 0, none⟩) n ce) rs.length (bCells l rs)) : Crowd W' B0 l c vd (.slice (some ⟨E, 0, none⟩) n ce) rs := by
  have nE : ∀ j (hj : j < rs.length) b, rs[j].B b → b ≠ E := fun j hj b hb e => (C.nR j hj b hb).2.2 (by rw [e]; rfl)
  refine ⟨C.blk.keep (kp c (fun e => (C.nB E rfl).1 e.symm)), ownsRow_keep C.rowD (fun b hb => kp b (fun e => (C.nB E rfl).2 (by rw [← e]; exact hb))), ro, fun j hj => ?_, C.apart, C.base, C.low, C.nD, C.nB, C.nR, C.nV⟩
  have ej := C.each j hj
  exact ⟨ej.d.keepB (fun b _ hb => kp b (nE j hj b hb)), ej.rd_keep (fun he b _ hv => kp b (fun e => (C.nV j hj he b hv).2.2.1 (by rw [e]; rfl))) hs, ej.k1, ej.k2, ej.kl⟩
theorem bCells_get (l : Int) : ∀ (rs : List Rec) (i : Nat) (hi : i < rs.length), (bCells l rs)[i * 2]? = some (.int .i64 l) ∧ (bCells l rs)[i * 2 + 1]? = some rs[i].v
  | [], i, hi => absurd hi (Nat.not_lt_zero _)
  | x :: t, 0, _ => ⟨rfl, rfl⟩
  | x :: t, i + 1, hi => by
    have ih := bCells_get l t i (by simpa using hi)
    unfold bCells at ih ⊢
    rw [List.flatMap_cons, show (i + 1) * 2 = (i * 2) + 2 by omega, show i * 2 + 2 + 1 = (i * 2 + 1) + 2 by omega]
    exact ih
theorem Crowd.setL (C : Crowd W B0 l c vd (.slice (some ⟨E, 0, none⟩) n ce) rs) (hn : rs.length = n) (i : Nat) (hi : i < rs.length) : Crowd (W.setCell ⟨E, i * 2, none⟩ (.int .i64 l)) B0 l c vd (.slice (some ⟨E, 0, none⟩) n ce) rs := by
  subst hn
  refine C.rowSet (by simp) (fun b hb => Below.heap_setCell _ ⟨E, i * 2, none⟩ _ b hb) ?_
  have h := (World.ownsRow.stored C.rowB (i * 2) (.int .i64 l)).1
  have e : (bCells l rs).set (i * 2) (.int .i64 l) = bCells l rs := by
    have g := (bCells_get l rs i hi).1
    obtain ⟨hl, hg⟩ := List.getElem?_eq_some_iff.1 g
    conv => lhs; rw [← hg]
    exact List.set_getElem_self hl
  rw [e] at h
  exact h
theorem Crowd.cells (C : Crowd W B0 l c (.slice (some ⟨D, 0, none⟩) n cd) (.slice (some ⟨E, 0, none⟩) n ce) rs) (hn : rs.length = n) (i : Nat) (hi : i < rs.length) :
    W.cell? ⟨c, 1, none⟩ = some (.slice (some ⟨D, 0, none⟩) n cd) ∧ W.cell? ⟨c, 2, none⟩ = some (.slice (some ⟨E, 0, none⟩) n ce) ∧ W.cell? ⟨D, i, none⟩ = some (.pointer (some ⟨rs[i].dg, 0, none⟩)) ∧
    W.cell? ⟨E, i * 2, none⟩ = some (.int .i64 l) ∧ W.cell? ⟨E, i * 2 + 1, none⟩ = some rs[i].v := by
  subst hn
  have hD : (dCells rs)[i]? = some (.pointer (some ⟨rs[i].dg, 0, none⟩)) := by unfold dCells; simp [hi]
  obtain ⟨e1, e2⟩ := bCells_get l rs i hi
  refine ⟨C.blk.cell 1, C.blk.cell 2, ?_, ?_, ?_⟩
  · rw [World.ownsRow.cellAt C.rowD i (by omega)]; exact hD
  · rw [World.ownsRow.cellAt C.rowB (i * 2) (by omega)]; exact e1
  · rw [World.ownsRow.cellAt C.rowB (i * 2 + 1) (by omega)]; exact e2
theorem row_free {w : World} {B : Nat} {T : TypeId} {z n m : Nat} {g cap : Nat} {cs : List Value} (h : w.ownsRow B T z (.slice (some ⟨g, 0, none⟩) m cap) n cs) (j : Nat) : w.frozen? ⟨g, j, none⟩ = false := by
  rcases h.2 with ⟨h1, h2⟩ | ⟨g', cap', cur, hv, hg, hh, h3, h4, h5, h6⟩
  · simp at h1
  · simp only [Value.slice.injEq, Option.some.injEq, Addr.mk.injEq, and_true] at hv
    obtain ⟨rfl, -⟩ := hv
    simp only [World.frozen?]
    rw [hh]
    simp
theorem Crowd.shape (C : Crowd W B0 l c vd vb rs) (h1 : 1 ≤ rs.length) : ∃ D cd E ce, vd = .slice (some ⟨D, 0, none⟩) rs.length cd ∧ vb = .slice (some ⟨E, 0, none⟩) rs.length ce ∧ D < W.heap.size ∧ E < W.heap.size := by
  rcases row_shape C.rowD with ⟨-, h⟩ | ⟨D, cd, rfl, -, hD, -, -⟩
  · omega
  rcases row_shape C.rowB with ⟨-, h⟩ | ⟨E, ce, rfl, -, hE, -, -⟩
  · omega
  exact ⟨D, cd, E, ce, rfl, rfl, hD, hE⟩
theorem Crowd.newB (C : Crowd W B0 l c vd (.slice (some ⟨E, 0, none⟩) n ce) rs) (hn : rs.length = n) (i : Nat) (hi : i < rs.length) {its : List Nd} {v : Value} (rd : RdN W v its)
    (hv : v = rs[i].v ∨ ∀ b, v.ownBlock = some b → b ≠ c ∧ b ≠ E ∧ vd.ownBlock ≠ some b ∧ ∀ j (hj : j < rs.length), ¬ rs[j].B b) :
    Crowd (W.setCell ⟨E, i * 2 + 1, none⟩ v) B0 l c vd (.slice (some ⟨E, 0, none⟩) n ce) (rs.set i (rs[i].bag its v)) := by
  subst hn
  refine C.setB i hi rd (fun he b hb => ?_)
  rcases hv with rfl | hv
  · have he0 : rs[i].its ≠ [] := fun h0 => he (by
      have r0 := (C.each i hi).rd
      obtain ⟨p, cap, e1⟩ := rd.val
      obtain ⟨p', cap', e2⟩ := r0.val
      rw [h0] at e2
      rw [e1] at e2
      simp only [Value.slice.injEq] at e2
      exact List.length_eq_zero_iff.1 (by simpa using e2.2.1))
    obtain ⟨q1, q2, q3, q4⟩ := C.nV i hi he0 b hb
    exact ⟨q1, fun e => q3 (by rw [e]; rfl), q2, q4⟩
  · exact hv b hb
theorem Crowd.newD (C : Crowd W B0 l c (.slice (some ⟨D, 0, none⟩) n cd) vb rs) (hn : rs.length = n) (i : Nat) (hi : i < rs.length) {dg q g h' : Nat} {kind k : Int} {zs : List Nd}
    (d : DgV W dg q g h' kind l k 20000 zs) (k1 : 1 ≤ kind) (k2 : kind ≤ 2) (kl : 10 < l → kind = 2)
    (fr : ∀ b, DB dg q g h' b → b ≠ c ∧ b ≠ D ∧ vb.ownBlock ≠ some b ∧ B0 ≤ b ∧ (∀ j (hj : j < rs.length), ¬ rs[j].B b) ∧ ∀ j (hj : j < rs.length), rs[j].its ≠ [] → rs[j].v.ownBlock ≠ some b) :
    Crowd (W.setCell ⟨D, i, none⟩ (.pointer (some ⟨dg, 0, none⟩))) B0 l c (.slice (some ⟨D, 0, none⟩) n cd) vb (rs.set i (rs[i].swap dg q g h' kind k zs)) := by
  subst hn
  exact C.setD i hi d k1 k2 kl fr
theorem Crowd.off {W0 : World} (C : Crowd W0 B0 l c (.slice (some ⟨D, 0, none⟩) n cd) (.slice (some ⟨E, 0, none⟩) n ce) rs) (b : Nat) (hb : W0.heap.size ≤ b) :
    b ≠ c ∧ b ≠ D ∧ b ≠ E ∧ B0 ≤ b ∧ (∀ j (hj : j < rs.length), ¬ rs[j].B b) ∧ ∀ j (hj : j < rs.length), rs[j].its ≠ [] → rs[j].v.ownBlock ≠ some b := by
  have h1 := C.blk.lt
  have h2 := (World.ownsRow.lt C.rowD D rfl).2
  have h3 := (World.ownsRow.lt C.rowB E rfl).2
  have h4 := C.base
  refine ⟨by omega, by omega, by omega, by omega, fun j hj p => ?_, fun j hj he e => ?_⟩
  · have := (C.each j hj).d.ltB b p; omega
  · rcases (C.each j hj).rd.ltE with h | h
    · exact he h
    · have := h b e; omega
end
theorem rd_old {W W' : World} {v : Value} {its R : List Nd} (h0 : RdN W v its) (h : RdN W' v R) : R = [] ∨ ∀ b, v.ownBlock = some b → b < W.heap.size := by
  rcases h0.ltE with e | e
  · left
    subst e
    obtain ⟨p, cap, e1⟩ := h.val
    obtain ⟨p', cap', e2⟩ := h0.val
    rw [e1] at e2
    simp only [Value.slice.injEq] at e2
    exact List.length_eq_zero_iff.1 (by simpa using e2.2.1)
  · exact .inr e
def CutB (l : Int) (R : List Nd) (n : Int) (v0 : Value) (w2 : World) (b e : Value) (wx : World) : Prop :=
  ∃ a p cap, b = .pointer (some ⟨a, 0, none⟩) ∧ e = .int .i64 n ∧ Blk wx a #[.int .i64 l, .slice p R.length cap] 41 ∧ RdN wx (.slice p R.length cap) R ∧
    (.slice p R.length cap = v0 ∨ ∀ k, (Value.slice p R.length cap).ownBlock = some k → w2.heap.size ≤ k) ∧ w2.heap.size ≤ a ∧ Below w2.heap.size w2 wx
theorem CutB.ofA {l n : Int} {R its : List Nd} {v0 x0 x1 : Value} {w2 w5 : World} {a cap : Nat} {p : Option Addr} (ha : w2.heap.size = a) (KB : Blk w5 a #[x0, x1] 41) (rd : RdN w5 (.slice p R.length cap) R)
    (hv : .slice p R.length cap = v0 ∨ ∀ k, (Value.slice p R.length cap).ownBlock = some k → a < k) (h0 : RdN w2 v0 its) (hB : Below w2.heap.size w2 w5) :
    CutB l R n v0 w2 (.pointer (some ⟨a, 0, none⟩)) (.int .i64 n) ((w5.setCell ⟨a, 0, none⟩ (.int .i64 l)).setCell ⟨a, 1, none⟩ (.slice p R.length cap)) := by
  have ha' : w2.heap.size ≤ a := by omega
  have kp : ∀ b, b ≠ a → ((w5.setCell ⟨a, 0, none⟩ (.int .i64 l)).setCell ⟨a, 1, none⟩ (.slice p R.length cap)).heap[b]? = w5.heap[b]? := fun b hb => by
    rw [Below.heap_setCell _ ⟨a, 1, none⟩ _ b hb, Below.heap_setCell _ ⟨a, 0, none⟩ _ b hb]
  refine ⟨a, p, cap, rfl, rfl, (KB.set 0 _).set 1 _, ?_, ?_, ha', (hB.setCell (p := ⟨a, 0, none⟩) ha' _).setCell (p := ⟨a, 1, none⟩) ha' _⟩
  · by_cases he : R = []
    · subst he; exact rd_empty rd
    · refine rd.keep (fun b _ hb => kp b ?_) (by simp)
      rcases hv with e | h
      · have h0' := h0
        rw [← e] at h0'
        rcases rd_old h0' rd with q | q
        · exact absurd q he
        · have := q b hb; omega
      · have := h b hb; omega
  · rcases hv with e | h
    · exact .inl e
    · exact .inr (fun k hk => by have := h k hk; omega)
theorem CutB.ofB {l n : Int} {R : List Nd} {v0 : Value} {w2 w5 : World} {cap : Nat} {p : Option Addr} (rd : RdN w5 (.slice p R.length cap) R)
    (hv : .slice p R.length cap = v0 ∨ ∀ k, (Value.slice p R.length cap).ownBlock = some k → w2.heap.size ≤ k) (hB : Below w2.heap.size w2 w5) :
    CutB l R n v0 w2 (.pointer (some ⟨w5.heap.size, 0, none⟩)) (.int .i64 n) (w5.alloc (.cells #[.int .i64 l, .slice p R.length cap] 41)) :=
  ⟨_, p, cap, rfl, rfl, Blk.new _ _ _, rd.alloc _, hv, hB.size, hB.alloc hB.size _⟩
end Go.Proofs.YtlciofheonbkiaaGreat
