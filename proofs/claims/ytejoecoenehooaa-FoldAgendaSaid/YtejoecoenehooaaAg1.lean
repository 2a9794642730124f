/- Memory: a set of ints in a map; an agenda. -/
import Derived.Test.YtejoecoenehooaaNi
import Derived.Test.YtejoecoenehooaaAgMath
import Derived.Test.YtejoecoenehooaaOpenNodes
import Derived.Maps.OwnSet
namespace Go.Proofs.Ytejoecoenehooaa
open Go.RowKit Go.Maps Nl

theorem wf64 {i : Int} (h : In64 i) : (Lit.int .i64 i).wf = true := by
  obtain ⟨h1, h2⟩ := h
  simp only [Lit.wf, Bool.and_eq_true, decide_eq_true_eq]
  exact ⟨h1, h2⟩
theorem Try.keyedInt : Keyed Try.prog 3 := int_keyed Try.underlying3
theorem Try.zeroUnit (w : World) : (zeroValue 107).run Try.prog w = .ok (.agg #[]) w := by kernel_rfl

/-- A map whose keys are just these ints. -/
def SetM (w : World) (b : Nat) (hs : List Int) : Prop :=
  ∃ D : DataW Unit, w.ownsMap Try.prog 3 unitElem b hs.length D ∧ Maps.size D = hs.length ∧ ∀ i : Int, Maps.has D (.int .i64 i) = decide (i ∈ hs)
theorem SetM.made (w : World) : SetM (w.alloc (.map #[] 0)) w.heap.size [] := ⟨.map [], World.ownsMap_made _ _ _ _, rfl, fun i => by simp [Maps.has]⟩
theorem SetM.lt {w : World} {b : Nat} {hs : List Int} (h : SetM w b hs) : b < w.heap.size := by obtain ⟨D, h, _⟩ := h; exact h.lt
theorem SetM.obj {w : World} {b : Nat} {hs : List Int} (h : SetM w b hs) : ∃ es clock, w.heap[b]? = some (.map es clock) := by obtain ⟨D, ⟨es, clock, h, _⟩, _⟩ := h; exact ⟨es, clock, h⟩
theorem SetM.keep {w w' : World} {b : Nat} {hs : List Int} (h : SetM w b hs) (e : w'.heap[b]? = w.heap[b]?) : SetM w' b hs := by
  obtain ⟨D, ⟨es, clock, hb, r⟩, h2⟩ := h
  exact ⟨D, ⟨es, clock, e.trans hb, r⟩, h2⟩
theorem SetM.perm {w : World} {b : Nat} {hs hs' : List Int} (h : SetM w b hs) (p : hs.Perm hs') : SetM w b hs' := by
  obtain ⟨D, h1, h2, h3⟩ := h
  exact ⟨D, h1.mono (Nat.le_of_eq p.length_eq), h2.trans p.length_eq, fun i => by rw [h3, decide_eq_decide]; exact p.mem_iff⟩
theorem ownsMap_tight {w : World} {b n : Nat} {D : DataW Unit} (h : w.ownsMap Try.prog 3 unitElem b n D) : w.ownsMap Try.prog 3 unitElem b (Maps.size D) D := by
  obtain ⟨es, clock, hb, F, _, rfl⟩ := h
  refine ⟨es, clock, hb, F, ?_, rfl⟩
  simp [Maps.size, length_sorted]
theorem lit_ne {a b : Int} (h : a ≠ b) : Lit.int .i64 a ≠ Lit.int .i64 b := fun e => by injection e with _ e; exact h e
section
variable {ops : Array Oper} {rest : List Oper} {o : Oper} {a : Act} {Q : Exit → Act → World → Prop} {w : World} {b : Nat} {hs : List Int} {id : Int}
/-- '_, is := m[id]'. -/
theorem lookupSet (m x : Operand) (h : SetM w b hs) (hi : In64 id) (hg : o.guard = none) (hop : o.op = Op.lookup 104 m x true) (hm : a.eval m = .map (some b)) (hx : a.eval x = .int .i64 id)
    (hK : wpList Try.prog ops Q rest (a.put o.dst (.tuple #[.agg #[], .bool (decide (id ∈ hs))])) w) : wpList Try.prog ops Q (o :: rest) a w := by
  obtain ⟨D, h1, h2, h3⟩ := h
  refine wpList_lookup_own_unit _ hg m x 104 hop 3 107 Try.keyedInt Try.underlying104 (Try.zeroUnit _) b hs.length D hm h1 _ _ hx (keyOf_int_mk Try.underlying3 (wf64 hi)) ?_
  rw [h3]; exact hK
/-- 'm[id] = struct{}{}', of one that isn't there. -/
theorem updateSet (m x v : Operand) (h : SetM w b hs) (hi : In64 id) (hn : id ∉ hs) (hl : hs.length < 2097152) (hg : o.guard = none) (hop : o.op = Op.mapUpdate 104 m x v) (hm : a.eval m = .map (some b)) (hx : a.eval x = .int .i64 id) (hv : a.eval v = .agg #[])
    (hK : ∀ w', SetM w' b (hs ++ [id]) → w.mapTurned w' b → wpList Try.prog ops Q rest (a.put o.dst undef) w') : wpList Try.prog ops Q (o :: rest) a w := by
  obtain ⟨D, h1, h2, h3⟩ := h
  refine wpList_mapUpdate_in _ hg m x v 104 hop 3 107 Try.keyedInt Try.underlying104 unitElem b hs.length D hm h1 (by unfold maxLen; omega) _ _ _ hx hv (keyOf_int_mk Try.underlying3 (wf64 hi)) (.agg []) [] unitElem_mk ?_
  intro w' hw ht
  have T := h1.tidy Try.keyedInt
  have hh : Maps.has D (.int .i64 id) = false := by rw [h3]; simpa using hn
  refine hK w' ⟨_, by simpa using hw, ?_, fun i => ?_⟩ ht
  · rw [size_put T, hh]; simp [h2]
  · by_cases e : i = id
    · subst e; rw [has_put_same (k := .int .i64 i) h1.isMap (show WideAt.IsKeyLit (.int .i64 i) from trivial)]; simp
    · rw [has_put_other (lit_ne e), h3]; simp [e]
/-- 'delete(m, id)', of one that is there. -/
theorem deleteSet {hs' : List Int} (m x : Operand) (h : SetM w b hs) (hi : In64 id) (hp : hs.Perm (id :: hs')) (hnd : hs.Nodup) (hg : o.guard = none) (hop : o.op = Op.call { callee := Callee.builtin Builtin.delete, args := #[m, x], argTypes := #[104, 3] }) (hm : a.eval m = .map (some b)) (hx : a.eval x = .int .i64 id)
    (hK : ∀ w', SetM w' b hs' → w.mapTurned w' b → wpList Try.prog ops Q rest (a.put o.dst (.tuple #[])) w') : wpList Try.prog ops Q (o :: rest) a w := by
  obtain ⟨D, h1, h2, h3⟩ := h
  refine wpList_delete_own _ hg m x 104 3 hop 107 Try.keyedInt Try.underlying104 unitElem b hs.length D hm h1 _ _ hx (keyOf_int_mk Try.underlying3 (wf64 hi)) ?_
  intro w' hw ht
  have T := h1.tidy Try.keyedInt
  have hm : id ∈ hs := hp.mem_iff.2 (List.mem_cons_self ..)
  have hh : Maps.has D (.int .i64 id) = true := by rw [h3]; simpa using hm
  have hnd' := (hp.nodup_iff.1 hnd)
  have hni : id ∉ hs' := (List.nodup_cons.1 hnd').1
  have hsz := size_del (k := .int .i64 id) T
  rw [hh, h2, hp.length_eq] at hsz
  simp only [if_true, List.length_cons] at hsz
  refine hK w' ⟨_, (ownsMap_tight hw).mono (by omega), by omega, fun i => ?_⟩ ht
  by_cases e : i = id
  · subst e; rw [has_del_same]; simpa using hni
  · rw [has_del_other (lit_ne e), h3, decide_eq_decide, hp.mem_iff]; simp [e]
end

/-- What an agenda turns: its block, its map, its heap's row; and new blocks. -/
structure Tch3 (a b : Nat) (v : Value) (w w' : World) : Prop where
  os : w'.os = w.os
  tape : w'.tape = w.tape
  output : w'.output = w.output
  size : w.heap.size ≤ w'.heap.size
  block : ∀ k, k < w.heap.size → k ≠ a → k ≠ b → v.ownBlock ≠ some k → w'.heap[k]? = w.heap[k]?
/-- The same row, or a new one. -/
def Fr (w : World) (v v' : Value) : Prop := v'.ownBlock = v.ownBlock ∨ ∃ k, v'.ownBlock = some k ∧ w.heap.size ≤ k
theorem Fr.refl (w : World) (v : Value) : Fr w v v := .inl rfl
theorem Fr.trans {w w' : World} {v v' v'' : Value} (h : Fr w v v') (k : Fr w' v' v'') (hs : w.heap.size ≤ w'.heap.size) : Fr w v v'' := by
  rcases k with k | ⟨j, k1, k2⟩
  · rcases h with h | ⟨i, h1, h2⟩
    · exact .inl (k.trans h)
    · exact .inr ⟨i, k.trans h1, h2⟩
  · exact .inr ⟨j, k1, Nat.le_trans hs k2⟩
theorem Fr.ne {w : World} {v v' : Value} (h : Fr w v v') {k : Nat} (hk : k < w.heap.size) (hv : v.ownBlock ≠ some k) : v'.ownBlock ≠ some k := by
  rcases h with h | ⟨i, h1, h2⟩
  · rw [h]; exact hv
  · rw [h1]; intro e; cases e; omega
theorem Tch3.refl (a b : Nat) (v : Value) (w : World) : Tch3 a b v w w := ⟨rfl, rfl, rfl, Nat.le_refl _, fun _ _ _ _ _ => rfl⟩
theorem Tch3.trans {a b : Nat} {v v' : Value} {w w' w'' : World} (h : Tch3 a b v w w') (k : Tch3 a b v' w' w'') (f : Fr w v v') : Tch3 a b v w w'' :=
  ⟨k.os.trans h.os, k.tape.trans h.tape, k.output.trans h.output, Nat.le_trans h.size k.size, fun j hj h1 h2 h3 => (k.block j (Nat.lt_of_lt_of_le hj h.size) h1 h2 (f.ne hj h3)).trans (h.block j hj h1 h2 h3)⟩
theorem Tch3.of_below {a b : Nat} {v : Value} {w w' : World} (h : Below w.heap.size w w') : Tch3 a b v w w' := ⟨h.os, h.tape, h.output, h.size, fun k hk _ _ _ => h.block k hk⟩
theorem Tch3.of_grown {a b : Nat} {v : Value} {w w' : World} {row : Option Nat} (h : w.grownBy w' row) (hr : ∀ k, row = some k → k = a ∨ k = b ∨ v.ownBlock = some k) : Tch3 a b v w w' :=
  ⟨h.os, h.tape, h.output, h.size, fun k hk h1 h2 h3 => h.block k hk (fun e => by
    rcases hr k e.symm with e | e | e
    · exact h1 e
    · exact h2 e
    · exact h3 e)⟩
theorem Tch3.of_map {a b : Nat} {v : Value} {w w' : World} (h : w.mapTurned w' b) : Tch3 a b v w w' := Tch3.of_grown h.grown (fun k e => by cases e; exact .inr (.inl rfl))
theorem Tch3.setCell {a b : Nat} {v : Value} (w : World) (g j : Nat) (u : Value) (hg : g = a ∨ v.ownBlock = some g) : Tch3 a b v w (w.setCell ⟨g, j, none⟩ u) :=
  ⟨rfl, rfl, rfl, by simp, fun k _ h1 _ h3 => Below.heap_setCell w ⟨g, j, none⟩ u k (fun e => by
    have e' : k = g := e
    rcases hg with h | h
    · exact h1 (e'.trans h)
    · exact h3 (by rw [e']; exact h))⟩
theorem Tch3.below {a b B : Nat} {v : Value} {w w' : World} (h : Tch3 a b v w w') (ha : B ≤ a) (hb : B ≤ b) (hv : ∀ k, v.ownBlock = some k → B ≤ k) (hB : B ≤ w.heap.size) : Below B w w' :=
  ⟨h.os, h.tape, h.output, h.size, fun k hk => h.block k (by omega) (by omega) (by omega) (fun e => by have := hv k e; omega)⟩

/-- What turns a slice's own row alone. -/
structure Tch1 (v : Value) (w w' : World) : Prop where
  os : w'.os = w.os
  tape : w'.tape = w.tape
  output : w'.output = w.output
  size : w.heap.size ≤ w'.heap.size
  block : ∀ k, k < w.heap.size → v.ownBlock ≠ some k → w'.heap[k]? = w.heap[k]?
theorem Tch1.refl (v : Value) (w : World) : Tch1 v w w := ⟨rfl, rfl, rfl, Nat.le_refl _, fun _ _ _ => rfl⟩
theorem Tch1.trans {v : Value} {w w' w'' : World} (h : Tch1 v w w') (k : Tch1 v w' w'') : Tch1 v w w'' :=
  ⟨k.os.trans h.os, k.tape.trans h.tape, k.output.trans h.output, Nat.le_trans h.size k.size, fun j hj h3 => (k.block j (Nat.lt_of_lt_of_le hj h.size) h3).trans (h.block j hj h3)⟩
theorem Tch1.drewN {v : Value} {w w' : World} (h : Tch1 v w w') (n : Nat) : Tch1 v w (w'.drewN n) := ⟨h.os, h.tape, h.output, h.size, h.block⟩
theorem Tch1.drew {v : Value} {w w' : World} (h : Tch1 v w w') : Tch1 v w w'.drew := ⟨h.os, h.tape, h.output, h.size, h.block⟩
theorem Tch1.to3 {v : Value} {w w' : World} (h : Tch1 v w w') (a b : Nat) : Tch3 a b v w w' := ⟨h.os, h.tape, h.output, h.size, fun k hk _ _ h3 => h.block k hk h3⟩
theorem Tch1.setCell {v : Value} (w : World) (g j : Nat) (u : Value) (hg : v.ownBlock = some g) : Tch1 v w (w.setCell ⟨g, j, none⟩ u) :=
  ⟨rfl, rfl, rfl, by simp, fun k _ h3 => Below.heap_setCell w ⟨g, j, none⟩ u k (fun e => h3 (by
    have e' : k = g := e
    rw [e']; exact hg))⟩
theorem Tch1.of_below {v : Value} {w w' : World} (h : Below w.heap.size w w') : Tch1 v w w' := ⟨h.os, h.tape, h.output, h.size, fun k hk _ => h.block k hk⟩

/-- An agenda in memory but for what its map holds. -/
structure AgH (w : World) (a b : Nat) (v : Value) (hs : List Int) : Prop where
  blk : Blk w a #[v, .map (some b)] 106
  own : OwnI w 0 v hs
  ne : v.ownBlock ≠ some a
theorem AgH.c0 {w : World} {a b : Nat} {v : Value} {hs : List Int} (d : AgH w a b v hs) : w.cell? ⟨a, 0, none⟩ = some v := d.blk.cell 0
theorem AgH.c1 {w : World} {a b : Nat} {v : Value} {hs : List Int} (d : AgH w a b v hs) : w.cell? ⟨a, 1, none⟩ = some (.map (some b)) := d.blk.cell 1
theorem AgH.keep {w w' : World} {a b : Nat} {v : Value} {hs : List Int} (d : AgH w a b v hs) (h : ∀ k, k < w.heap.size → (k = a ∨ v.ownBlock = some k) → w'.heap[k]? = w.heap[k]?) : AgH w' a b v hs :=
  ⟨d.blk.keep (h a d.blk.lt (.inl rfl)), d.own.keep (fun k hk => h k (d.own.lt' k hk) (.inr hk)), d.ne⟩
theorem AgH.drew {w : World} {a b : Nat} {v : Value} {hs : List Int} (d : AgH w a b v hs) : AgH w.drew a b v hs := d.keep fun _ _ _ => rfl
theorem AgH.drewN {w : World} {a b : Nat} {v : Value} {hs : List Int} (d : AgH w a b v hs) (n : Nat) : AgH (w.drewN n) a b v hs := d.keep fun _ _ _ => rfl
theorem AgH.below {w w' : World} {a b B : Nat} {v : Value} {hs : List Int} (d : AgH w a b v hs) (h : Below B w w') (hB : w.heap.size ≤ B) : AgH w' a b v hs :=
  d.keep fun k hk _ => h.block k (by omega)

/-- An agenda in memory: its heap, its map. -/
structure Ag (w : World) (a b : Nat) (v : Value) (hs : List Int) : Prop where
  blk : Blk w a #[v, .map (some b)] 106
  own : OwnI w 0 v hs
  set : SetM w b hs
  ne : v.ownBlock ≠ some a
theorem Ag.nab {w : World} {a b : Nat} {v : Value} {hs : List Int} (d : Ag w a b v hs) : a ≠ b := fun e => by
  obtain ⟨es, clock, h⟩ := d.set.obj
  have h1 := d.blk
  subst e
  have h2 : w.heap[a]? = some (.cells #[v, .map (some a)] 106 (0, 0)) := h1
  rw [h] at h2; cases h2
theorem Ag.nvb {w : World} {a b : Nat} {v : Value} {hs : List Int} (d : Ag w a b v hs) : v.ownBlock ≠ some b := fun e => by
  obtain ⟨es, clock, h⟩ := d.set.obj
  rcases d.own.2 with ⟨h1, _⟩ | ⟨g, cap, cur, hv, _, hh, _⟩
  · rw [h1] at e; cases e
  · rw [hv] at e
    simp only [Value.ownBlock, Option.some.injEq] at e
    rw [e, h] at hh; cases hh
theorem Ag.toH {w : World} {a b : Nat} {v : Value} {hs : List Int} (d : Ag w a b v hs) : AgH w a b v hs := ⟨d.blk, d.own, d.ne⟩
theorem Ag.next {w w' : World} {a b : Nat} {v : Value} {hs hs' : List Int} (d : Ag w a b v hs) (h : AgH w' a b v hs') (t : Tch1 v w w') (p : hs'.Perm hs) : Ag w' a b v hs' :=
  ⟨h.blk, h.own, (d.set.keep (t.block b d.set.lt d.nvb)).perm p.symm, h.ne⟩
theorem Ag.lta {w : World} {a b : Nat} {v : Value} {hs : List Int} (d : Ag w a b v hs) : a < w.heap.size := d.blk.lt
theorem Ag.ltb {w : World} {a b : Nat} {v : Value} {hs : List Int} (d : Ag w a b v hs) : b < w.heap.size := d.set.lt
theorem Ag.c0 {w : World} {a b : Nat} {v : Value} {hs : List Int} (d : Ag w a b v hs) : w.cell? ⟨a, 0, none⟩ = some v := d.blk.cell 0
theorem Ag.c1 {w : World} {a b : Nat} {v : Value} {hs : List Int} (d : Ag w a b v hs) : w.cell? ⟨a, 1, none⟩ = some (.map (some b)) := d.blk.cell 1
theorem Ag.keep {w w' : World} {a b : Nat} {v : Value} {hs : List Int} (d : Ag w a b v hs) (h : ∀ k, k < w.heap.size → (k = a ∨ k = b ∨ v.ownBlock = some k) → w'.heap[k]? = w.heap[k]?) : Ag w' a b v hs :=
  ⟨d.blk.keep (h a d.lta (.inl rfl)), d.own.keep (fun k hk => h k (d.own.lt' k hk) (.inr (.inr hk))), d.set.keep (h b d.ltb (.inr (.inl rfl))), d.ne⟩
theorem Ag.below {w w' : World} {a b B : Nat} {v : Value} {hs : List Int} (d : Ag w a b v hs) (h : Below B w w') (hB : w.heap.size ≤ B) : Ag w' a b v hs :=
  d.keep fun k hk _ => h.block k (by omega)
theorem Ag.drewN {w : World} {a b : Nat} {v : Value} {hs : List Int} (d : Ag w a b v hs) (n : Nat) : Ag (w.drewN n) a b v hs := d.keep fun _ _ _ => rfl
theorem Ag.drew {w : World} {a b : Nat} {v : Value} {hs : List Int} (d : Ag w a b v hs) : Ag w.drew a b v hs := d.keep fun _ _ _ => rfl
theorem Tch3.drew {a b : Nat} {v : Value} {w w' : World} (h : Tch3 a b v w w') : Tch3 a b v w w'.drew := ⟨h.os, h.tape, h.output, h.size, h.block⟩
theorem Tch3.drewN {a b : Nat} {v : Value} {w w' : World} (h : Tch3 a b v w w') (n : Nat) : Tch3 a b v w (w'.drewN n) := ⟨h.os, h.tape, h.output, h.size, h.block⟩
theorem Ag.len {w : World} {a b : Nat} {v : Value} {hs : List Int} (d : Ag w a b v hs) : ∃ p cap, v = .slice p hs.length cap := d.own.val
/-- As a list in the order of folding. -/
def AgL (w : World) (a b : Nat) (v : Value) (l : List Int) : Prop := ∃ hs, Ag w a b v hs ∧ HeapP hs ∧ hs.Perm l ∧ Ord l ∧ ∀ x ∈ l, 1 ≤ x ∧ In64 x
theorem AgL.keep {w w' : World} {a b : Nat} {v : Value} {l : List Int} (d : AgL w a b v l) (h : ∀ k, k < w.heap.size → (k = a ∨ k = b ∨ v.ownBlock = some k) → w'.heap[k]? = w.heap[k]?) : AgL w' a b v l := by
  obtain ⟨hs, d, r⟩ := d; exact ⟨hs, d.keep h, r⟩
theorem AgL.below {w w' : World} {a b B : Nat} {v : Value} {l : List Int} (d : AgL w a b v l) (h : Below B w w') (hB : w.heap.size ≤ B) : AgL w' a b v l := by
  obtain ⟨hs, d, r⟩ := d; exact ⟨hs, d.below h hB, r⟩
theorem AgL.lt {w : World} {a b : Nat} {v : Value} {l : List Int} (d : AgL w a b v l) : a < w.heap.size ∧ b < w.heap.size ∧ ∀ k, v.ownBlock = some k → k < w.heap.size := by
  obtain ⟨hs, d, r⟩ := d; exact ⟨d.lta, d.ltb, d.own.lt'⟩
end Go.Proofs.Ytejoecoenehooaa
