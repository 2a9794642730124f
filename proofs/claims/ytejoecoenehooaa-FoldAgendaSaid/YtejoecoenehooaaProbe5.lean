/- The walk of the probe's widen. -/
import Derived.Test.YtejoecoenehooaaProbe4
namespace Go.Proofs.Ytejoecoenehooaa
open Go.RowKit Nl

theorem ncells_set2 (xs : List Nd) (k : Nat) (a c : Int) : ((ncells xs).toArray.setIfInBounds (k * 2) (.int .i64 a)).setIfInBounds (k * 2 + 1) (.int .i64 c) = (ncells (xs.set k (a, c))).toArray := by
  apply Array.ext'
  simp only [Array.toList_setIfInBounds]
  induction xs generalizing k with
  | nil => simp [ncells]
  | cons x r ih =>
    cases k with
    | zero => simp [ncells]
    | succ k =>
      have := ih k
      simp only [List.set_cons_succ, ncells, show (k + 1) * 2 = k * 2 + 1 + 1 by omega] at this ⊢
      simpa using this

theorem Tch.setNew {g h B j : Nat} {w w' : World} (t : Tch g h w w') (hB : w.heap.size ≤ B) (v : Value) : Tch g h w (w'.setCell ⟨B, j, none⟩ v) := by
  have b := (Below.refl 0 w').setCell (p := ⟨B, j, none⟩) (Nat.zero_le _) v
  exact ⟨b.os.trans t.os, b.tape.trans t.tape, b.output.trans t.output, Nat.le_trans t.size b.size, fun k hk e1 e2 => (Below.heap_setCell w' ⟨B, j, none⟩ v k (by show k ≠ B; omega)).trans (t.block k hk e1 e2)⟩
theorem Tch.below' {g h : Nat} {w w' w2 : World} (t : Tch g h w w') (b : Below w'.heap.size w' w2) : Tch g h w w2 := t.trans (Tch.of_below b)
/-- A node is stored. -/
theorem set_rest {A B : List Value} {k : Nat} (hk : k < A.length) (v : Value) : (A ++ B).toArray.setIfInBounds k v = (A.set k v ++ B).toArray := by
  apply Array.ext'
  simp [hk]
theorem Pn.store {w : World} {g h : Nat} {l u t : Int} {b : Nat} {xs : List Nd} (d : Pn w g h l b u t xs) (k : Nat) (hk : k < xs.length) (a c : Int) : Pn ((w.setCell ⟨h, k * 2, none⟩ (.int .i64 a)).setCell ⟨h, k * 2 + 1, none⟩ (.int .i64 c)) g h l b u t (xs.set k (a, c)) := by
  obtain ⟨cap, rest, d1, d2, d3⟩ := d
  refine ⟨cap, rest, ?_, ?_, d3⟩
  · have e : (xs.set k (a, c)).length = xs.length := by simp
    rw [e]
    exact (d1.set_other _ _ d3).set_other _ _ d3
  · have h2 := (d2.set (k * 2) (.int .i64 a)).set (k * 2 + 1) (.int .i64 c)
    have hl := ncells_length xs
    rw [set_rest (by omega), set_rest (by rw [List.length_set]; omega)] at h2
    have e := congrArg Array.toList (ncells_set2 xs k a c)
    simp only [Array.toList_setIfInBounds] at e
    rwa [e] at h2

namespace Nl
theorem full_take {xs : List (Int × Int)} (k : Nat) (hk : k < xs.length) : full (xs.take (k + 1)) = full (xs.take k) ++ (if 0 < cntA xs k then [(idA xs k, cntA xs k)] else []) := by
  unfold full
  rw [take_at (d := ((0, 0) : Int × Int)) xs k hk, List.filter_append]
  congr 1
  unfold cntA idA
  generalize xs.getD k (0, 0) = x
  by_cases h : 0 < x.2 <;> simp [List.filter, h]
theorem occ_take_le (xs : List (Int × Int)) (k : Nat) : occ (xs.take k) ≤ occ xs := by
  induction xs generalizing k with
  | nil => simp [occ]
  | cons x r ih =>
    cases k with
    | zero => simp [occ]
    | succ k => have := ih k; simp only [List.take_succ_cons, occ]; omega
/-- Half of the way: the table that is being filled. -/
theorem widen_half {b : Nat} {xs : List (Int × Int)} (t : Tab b xs) (hb : b + 1 ≤ 62) (k : Nat) :
    Tab (b + 1) (putAll (b + 1) (List.replicate (2 ^ (b + 1)) (0, 0)) (full (xs.take k))) ∧ occ (putAll (b + 1) (List.replicate (2 ^ (b + 1)) (0, 0)) (full (xs.take k))) ≤ occ xs ∧ (putAll (b + 1) (List.replicate (2 ^ (b + 1)) (0, 0)) (full (xs.take k))).length = 2 ^ (b + 1) := by
  have hl := occ_le xs
  have h0 := t.pos_len
  have ht := occ_take_le xs k
  have e : 2 ^ (b + 1) = 2 * xs.length := by rw [t.len, Nat.pow_succ]; omega
  have hsub : (full (xs.take k)).Sublist (full xs) := (List.take_sublist k xs).filter _
  obtain ⟨r1, r2, r3, r4⟩ := putAll_spec (full (xs.take k)) (List.replicate (2 ^ (b + 1)) (0, 0)) (Tab.empty (b + 1) hb) (fun y hy => t.full_ok y (hsub.subset hy)) (t.full_pair.sublist hsub) (fun y _ i _ hc => by rw [cnt_zeros] at hc; omega) (by rw [occ_zeros, full_length]; simp; omega)
  refine ⟨r1, ?_, ?_⟩
  · rw [r2, occ_zeros, full_length]; omega
  · rw [putAll_length]; simp
end Nl

def WidenRel (w : World) (g : Nat) (l : Int) (b : Nat) (u t : Int) (xs zs : List Nd) (i : Value) (wr : World) : Prop :=
  ∃ k : Nat, i = .int .i64 k ∧ k ≤ xs.length ∧ Pn wr g w.heap.size l (b + 1) u t (putAll (b + 1) zs (full (xs.take k))) ∧ Tch g g w wr ∧ w.heap.size < wr.heap.size
def WidenPost (w : World) (g : Nat) (l : Int) (b : Nat) (u t : Int) (xs : List Nd) (e : Ending) (w' : World) : Prop :=
  e = .returned (.tuple #[]) ∧ ∃ h', Pn w' g h' l (b + 1) u t (widenP b xs) ∧ w.heap.size ≤ h' ∧ Tch g g w w'

set_option maxRecDepth 100000 in
set_option maxHeartbeats 2000000 in
theorem p_widen {w : World} {g h : Nat} {l u t : Int} {b : Nat} {xs : List Nd} (d : Pn w g h l b u t xs) (T : Tab b xs) (hb1 : 1 ≤ b) (hb : b + 1 ≤ 40) (ids : ∀ i, idA xs i ≤ 9223372036854775807) :
    Calls Try.prog 149 #[.pointer (some ⟨g, 0, none⟩)] w (WidenPost w g l b u t xs) := by
  have c1 : w.cell? ⟨g, 1, none⟩ = some (.int .i64 b) := d.c1
  obtain ⟨capc4, c4⟩ := d.c4
  have f1 := d.fg 1
  have f4 := d.fg 4
  have hlg := d.lg
  have hlh := d.lh
  have hgh := d.ne
  have hp : (2 : Nat) ^ (b + 1) ≤ 2 ^ 40 := Nat.pow_le_pow_right (by omega) (by omega)
  have hp2 : (2 : Nat) ^ 40 = 1099511627776 := rfl
  have hwr : wrap64 (2 ^ (b + 1)) = ((2 ^ (b + 1) : Nat) : Int) := by
    rw [show (2 : Int) ^ (b + 1) = ((2 ^ (b + 1) : Nat) : Int) by simp]
    exact (fun (M : Nat) (h : M ≤ 1099511627776) => IntWalk.wrap64_in _ ⟨by omega, by omega⟩ : ∀ M : Nat, M ≤ 1099511627776 → wrap64 (M : Int) = M) _ (by omega)
  have hmk := make_nodes (2 ^ (b + 1)) (by omega)
  rw [← hwr] at hmk
  have hN : 2 ^ (b + 1) ≤ 1099511627776 := by omega
  have hX : 2 * xs.length = 2 ^ (b + 1) := by rw [T.len, Nat.pow_succ]; omega
  have hxl : xs.length ≤ 1099511627776 := by omega
  have hoc : occ xs < 2 ^ (b + 1) := by have := occ_le xs; have := T.pos_len; omega
  have Half := hid (widen_half T (by omega : b + 1 ≤ 62))
  have hW : Hid (widenP b xs = putAll (b + 1) (List.replicate (2 ^ (b + 1)) (0, 0)) (full xs)) := rfl
  have hlen : (List.replicate (2 ^ (b + 1)) ((0 : Int), (0 : Int))).length = 2 ^ (b + 1) := by simp
  generalize List.replicate (2 ^ (b + 1)) ((0 : Int), (0 : Int)) = zs at *
  have Hlen := hid hlen
  generalize hNN : 2 ^ (b + 1) = N at *
  have HX := hid hX
  have One := hid T.one
  have Ids := hid ids
  clear hwr hp hlen hNN T hX ids
  go_enter Try.func149, Try.ntmps149
  go_wp2_with fail
  obtain ⟨cap, rest, D1, D2, D3⟩ := d
  have B1 := ((D1.set 1 (.int .i64 ((b : Int) + 1))).set 4 (.slice (some ⟨w.heap.size, 0, none⟩) N N)).alloc (.cells (ncells zs).toArray 100)
  have B2 := Blk.new ((w.setCell ⟨g, 1, none⟩ (.int .i64 ((b : Int) + 1))).setCell ⟨g, 4, none⟩ (.slice (some ⟨w.heap.size, 0, none⟩) N N)) (ncells zs).toArray 100
  have T1 : Tch g g w (((w.setCell ⟨g, 1, none⟩ (.int .i64 ((b : Int) + 1))).setCell ⟨g, 4, none⟩ (.slice (some ⟨w.heap.size, 0, none⟩) N N)).alloc (.cells (ncells zs).toArray 100)) := ((Tch.set1 w 1 _).trans (Tch.set1 _ 4 _)).trans (Tch.of_below ((Below.refl _ _).alloc (Nat.le_refl _) _))
  have hs1 : w.heap.size < (((w.setCell ⟨g, 1, none⟩ (.int .i64 ((b : Int) + 1))).setCell ⟨g, 4, none⟩ (.slice (some ⟨w.heap.size, 0, none⟩) N N)).alloc (.cells (ncells zs).toArray 100)).heap.size := by simp
  simp only [World.size_setCell] at B2
  generalize ((w.setCell ⟨g, 1, none⟩ (.int .i64 ((b : Int) + 1))).setCell ⟨g, 4, none⟩ (.slice (some ⟨w.heap.size, 0, none⟩) N N)).alloc (.cells (ncells zs).toArray 100) = w1 at *
  have d1 : Pn w1 g w.heap.size l (b + 1) u t zs := Pn.mk (by rw [Hlen.out]; simpa using B1) B2 (by omega)
  clear B1 B2 c1 c4 f1 f4 hmk
  go_loopw [29] (fun i wr => WidenRel w g l b u t xs zs i wr) (fun i _ => xs.length - (intOf i).toNat)
  case atStart => exact ⟨0, rfl, by omega, d1, T1, hs1⟩
  case round =>
    obtain ⟨k, rfl, hk, d2, T2, hs2⟩ := hrel
    by_cases h1 : k < xs.length
    · have Fk := hid (full_take k h1)
      obtain ⟨hT, hO, hL⟩ := Half.out k
      have HL := hid hL
      have X2 := D2.tch T2 (Ne.symm hgh) (Ne.symm hgh)
      obtain ⟨g1, g2⟩ := ncells_rest (xs := xs) rest h1
      have c2 : wr.cell? ⟨h, k * 2, none⟩ = some (.int .i64 (idA xs k)) := (X2.cell _).trans (by simpa using g1)
      have c3 : wr.cell? ⟨h, k * 2 + 1, none⟩ = some (.int .i64 (cntA xs k)) := (X2.cell _).trans (by simpa using g2)
      have O1 := One.out k
      have I1 := Ids.out k
      obtain ⟨ys, ey⟩ : ∃ ys, putAll (b + 1) zs (full (xs.take k)) = ys := ⟨_, rfl⟩
      have Sn := hid (putAll_snoc (b + 1) zs (full (xs.take k)) (idA xs k, cntA xs k))
      rw [ey] at d2 hT hO HL Sn
      have Ey := hid ey
      generalize idA xs k = a at *
      generalize cntA xs k = c at *
      have hlw := d2.lg
      have hba : Below wr.heap.size wr (wr.alloc (.cells #[.int .i64 a, .int .i64 c] 100)) := (Below.refl _ _).alloc (Nat.le_refl _) _
      have dA := d2.below hba (Nat.le_refl _)
      clear g1 g2 hL ey
      by_cases h2 : 0 < c
      · have hoy : occ ys < ys.length := by rw [HL.out]; omega
        have hyl : ys.length ≤ 1099511627776 := by rw [HL.out]; exact hN
        obtain ⟨e, he, hce⟩ := has_empty hoy
        have hsB := stopB_iff (xs := ys) (id := a) (i := e) |>.2 (.inl hce)
        have hil := (look_spec hT a he hsB).2.2.1
        have Lk := hid (p_look a dA hT (by omega) hb he hsB ⟨O1 h2, I1⟩)
        generalize lookI ys (b + 1) a = q at *
        clear hoy hsB hce
        go_wp2_with fail
        refine Lk.out.mono ?_
        rintro e w3 ⟨rfl, hb3⟩
        have d3 := dA.below hb3 (Nat.le_refl _)
        have O3 := (Blk.new wr #[.int .i64 a, .int .i64 c] 100).below hb3 (Nat.le_refl _)
        obtain ⟨capc4, c4⟩ := d3.c4
        have o0 : w3.cell? ⟨wr.heap.size, 0, none⟩ = some (.int .i64 a) := O3.cell 0
        have o1 : w3.cell? ⟨wr.heap.size, 1, none⟩ = some (.int .i64 c) := O3.cell 1
        obtain ⟨z0, z1⟩ := d3.at hil
        have k0 := d3.fh (q * 2)
        have k1 := d3.fh (q * 2 + 1)
        have hs3 := hb3.size
        simp only [World.size_alloc] at hs3
        have T3 : Tch g g w w3 := (T2.below' hba).below' hb3
        as_aux_lemma =>
          go_wp2_with fail
          go_region
          go_wp2_with fail
          go_roundw
          case rel =>
            refine ⟨k + 1, by go_num, by omega, ?_, ?_, ?_⟩
            · rw [Fk.out, if_pos h2, Sn.out]
              exact (d3.store q hil a c).drewN 1
            · exact ((T3.setNew (Nat.le_refl _) _).setNew (Nat.le_refl _) _).drewN 1
            · simp; omega
          case measure => simp [intOf]; omega
      · have T3 := T2.below' hba
        as_aux_lemma =>
          go_wp2_with fail
          go_roundw
          case rel => exact ⟨k + 1, by go_num, by omega, by rw [Fk.out, if_neg h2, List.append_nil, Ey.out]; exact dA, T3, by simp; omega⟩
          case measure => simp [intOf]; omega
    · rw [List.take_of_length_le (by omega)] at d2
      go_wp2_with fail
      exact bodyPost_ret (v := .tuple #[]) (by simp [results, Try.results149, go_sem]) rfl ⟨rfl, w.heap.size, by rw [hW.out]; exact d2, Nat.le_refl _, T2⟩
end Go.Proofs.Ytejoecoenehooaa
