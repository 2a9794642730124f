/- The walk of blend.All. -/
import Derived.Test.YtbbkfjbaocpknaaGreatCl
namespace Go.Proofs.YtbbkfjbaocpknaaGreat
open Go.RowKit Nl

/-- What comes of a digest and another one, or nil. -/
def Nl.mgE (a : DgE) : Option DgE → Int × Option DgE
  | none => (1, none)
  | some b => if bl_code a.l b.l (sumL a.F) (sumL b.F) = 0 then (0, some ⟨a.kind, a.l, min a.k b.k, mergeL a.l (min a.k b.k) a.F b.F⟩) else (bl_code a.l b.l (sumL a.F) (sumL b.F), none)
/-- A step: nothing more once there is an error. -/
def Nl.stepE (st : Int × Option DgE) (d : Option DgE) : Int × Option DgE := if st.1 = 0 then (match st.2 with | some a => mgE a d | none => (1, none)) else st
def Nl.foldE (st : Int × Option DgE) (es : List (Option DgE)) : Int × Option DgE := es.foldl stepE st
def Nl.allE (x : DgE) (r : List (Option DgE)) : Int × Option DgE := if r = [] then (0, some ⟨x.kind, x.l, x.k, lowL x.l x.k x.F⟩) else foldE (0, some x) r
theorem Nl.code0 {l l' t t' : Int} (h : bl_code l l' t t' = 0) : l = l' ∧ t + t' ≤ 72057594037927935 := by
  unfold bl_code at h
  split at h
  · omega
  · rename_i h1
    split at h
    · omega
    · exact ⟨by omega, by omega⟩
theorem Nl.code_bd (l l' t t' : Int) : bl_code l l' t t' = 0 ∨ bl_code l l' t t' = 5 ∨ bl_code l l' t t' = 6 := by
  unfold bl_code
  split
  · exact .inr (.inr rfl)
  · split
    · exact .inr (.inl rfl)
    · exact .inl rfl
/-- How many nodes there are. -/
def Nl.lenE : Option DgE → Nat
  | none => 0
  | some e => e.F.length
/-- What comes of Merge, in one form. -/
def MgAny (R : Nat → Prop) (st : Int × Option DgE) (n : Nat) (W : World) (e : Ending) (W' : World) : Prop :=
  ∃ u, e = .returned (.tuple #[u, .int .i64 st.1]) ∧ PtrR R W' u st.2 ∧ (st.1 = 0 → st.2 ≠ none) ∧ (st.1 ≠ 0 → u = .pointer none) ∧ lenE st.2 ≤ n ∧ Below W.heap.size W W'
theorem mg_any {R : Nat → Prop} {W : World} {ua ud : Value} {a : DgE} {d : Option DgE} (ha : PtrR R W ua (some a)) (hd : PtrOk W ud d) (hl : a.F.length + lenE d ≤ 1999) (hR : ∀ j, W.heap.size ≤ j → R j) :
    Calls Tryz.prog 36 #[ua, ud] W (MgAny R (mgE a d) (a.F.length + lenE d) W) := by
  obtain ⟨dg, q, g, h, rfl, da, hra⟩ := ha
  cases d with
  | none =>
    obtain rfl : ud = .pointer none := hd
    refine (nb_merge_r _ W).mono ?_
    rintro e w' ⟨rfl, rfl⟩
    exact ⟨_, rfl, rfl, fun h => by simp [mgE] at h, fun _ => rfl, Nat.zero_le _, Below.refl _ _⟩
  | some b =>
    obtain ⟨dg', q', g', h', rfl, db, -⟩ := hd
    by_cases hc : bl_code a.l b.l (sumL a.F) (sumL b.F) = 0
    · obtain ⟨hl2, hs⟩ := code0 hc
      have em : mgE a (some b) = (0, some ⟨a.kind, a.l, min a.k b.k, mergeL a.l (min a.k b.k) a.F b.F⟩) := by simp only [mgE]; rw [if_pos hc]
      rw [em]
      have db2 : DgV W dg' q' g' h' b.kind a.l b.k 2000 b.F := by rw [hl2]; exact db
      refine (bl_merge da db2 (by decide) (by decide) hl hs).mono ?_
      rintro e w' ⟨dm, qm, gm, hm, rfl, m, e1, e2, e3, e4, hb⟩
      have sp := merge_spec da.inv db2.inv (k := min a.k b.k) (by have := da.inv.k1; have := db2.inv.k1; omega) (by omega) (by omega) hs
      refine ⟨_, rfl, ⟨dm, qm, gm, hm, rfl, m, fun j hj => hR j (by rcases hj with e | e | e | e <;> omega)⟩, fun _ h => (by cases h), fun h => absurd rfl h, sp.2.2.2.1, hb⟩
    · have em : mgE a (some b) = (bl_code a.l b.l (sumL a.F) (sumL b.F), none) := by simp only [mgE]; rw [if_neg hc]
      rw [em]
      refine (bl_merge_no da db hc).mono ?_
      rintro e w' ⟨rfl, hb⟩
      exact ⟨_, rfl, rfl, fun h => absurd h hc, fun _ => rfl, Nat.zero_le _, hb⟩
/-- The boxes of what is merged so far, and of its error. -/
def BoxE (b4 b5 : Nat) (W : World) (st : Int × Option DgE) : Prop :=
  ∃ u, Blk W b4 #[u] 32 ∧ Blk W b5 #[.int .i64 st.1] 40 ∧ PtrR (fun j => j ≠ b4 ∧ j ≠ b5) W u st.2 ∧ (st.1 = 0 → st.2 ≠ none) ∧ (st.1 ≠ 0 → u = .pointer none)
set_option maxRecDepth 100000 in
set_option maxHeartbeats 1000000 in
theorem all_more {W : World} {b4 b5 : Nat} {st : Int × Option DgE} {ud : Value} {d : Option DgE} (hB : BoxE b4 b5 W st) (hd : PtrOk W ud d) (hl : lenE st.2 + lenE d ≤ 1999) (h45 : b4 ≠ b5) (hbd : In64 st.1) :
    Calls Tryz.prog 40 #[ud, .pointer (some ⟨b5, 0, none⟩), .pointer (some ⟨b4, 0, none⟩)] W fun e W' => e = .returned (.tuple #[]) ∧ BoxE b4 b5 W' (stepE st d) ∧ Tch b4 b5 W W' ∧ lenE (stepE st d).2 ≤ lenE st.2 + lenE d := by
  obtain ⟨u, X4, X5, hp, h0, h1⟩ := hB
  obtain ⟨e0, o0⟩ := st
  simp only at X5 hp h0 h1 hl hbd
  have c5 : W.cell? ⟨b5, 0, none⟩ = some (.int .i64 e0) := X5.cell 0
  have c4 : W.cell? ⟨b4, 0, none⟩ = some u := X4.cell 0
  obtain ⟨pu, rfl⟩ := hp.ptr
  obtain ⟨pd, rfl⟩ := hd.ptr
  by_cases he : e0 = 0
  · subst he
    cases o0 with
    | none => exact absurd rfl (h0 rfl)
    | some a =>
      have es : stepE (0, some a) d = mgE a d := by simp [stepE]
      rw [es]
      have hl4 := X4.lt
      have hl5 := X5.lt
      have MG := hid (mg_any hp hd hl (fun j hj => ⟨by omega, by omega⟩))
      generalize mgE a d = r at *
      obtain ⟨e1, o1⟩ := r
      clear hd hp
      go_enter Tryz.func40, Tryz.ntmps40
      go_wp2_with fail
      refine MG.out.mono ?_
      rintro e w2 ⟨u2, rfl, p2, g0, g1, hln, hb2⟩
      have Y4 := X4.below hb2 (Nat.le_refl _)
      have Y5 := X5.below hb2 (Nat.le_refl _)
      obtain ⟨pu2, rfl⟩ := p2.ptr
      have q4 : w2.cell? ⟨b4, 0, none⟩ = some (.pointer pu) := Y4.cell 0
      have q5 : w2.cell? ⟨b5, 0, none⟩ = some (.int .i64 0) := Y5.cell 0
      have f4 := Y4.free 0
      have f5 := Y5.free 0
      have hne : (b4 = b5) = False := by simp [h45]
      have hne2 : (b5 = b4) = False := by simp; omega
      have P : Hid (BoxE b4 b5 ((w2.setCell ⟨b4, 0, none⟩ (.pointer pu2)).setCell ⟨b5, 0, none⟩ (.int .i64 e1)) (e1, o1) ∧ Tch b4 b5 W ((w2.setCell ⟨b4, 0, none⟩ (.pointer pu2)).setCell ⟨b5, 0, none⟩ (.int .i64 e1))) := by
        have Z4 := (Y4.set 0 (.pointer pu2)).set_other (g' := b5) 0 (.int .i64 e1) h45
        have Z5 := (Y5.set_other (g' := b4) 0 (.pointer pu2) (fun e => h45 e.symm)).set 0 (.int .i64 e1)
        refine ⟨⟨_, Z4, Z5, p2.ch (fun j hj hR => ?_), g0, g1⟩, ((Tch.of_below hb2).trans (Tch.set1 _ _ _)).trans (Tch.set2 _ _ _)⟩
        rw [Below.heap_setCell _ _ _ _ (by simpa using hR.2), Below.heap_setCell _ _ _ _ (by simpa using hR.1)]
      clear MG Y4 Y5 X4 X5 p2 c4 c5
      go_wp2_with fail
      go_end0
      exact ⟨rfl, P.out.1, P.out.2, hln⟩
  · have es : stepE (e0, o0) d = (e0, o0) := by simp [stepE, he]
    rw [es]
    have z : (e0 == 0) = false := by simpa using he
    have P : Hid (BoxE b4 b5 W (e0, o0)) := ⟨_, X4, X5, hp, h0, h1⟩
    clear X4 X5 hp h0 h1 hd
    go_enter Tryz.func40, Tryz.ntmps40
    go_wp2_with fail
    go_end0
    exact ⟨rfl, P.out, Tch.refl _ _ _, Nat.le_add_right _ _⟩
end Go.Proofs.YtbbkfjbaocpknaaGreat
