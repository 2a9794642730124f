/- The walks of pool.Load, Clone, Same. -/
import Derived.Test.YtejoecoenehooaaPool4
namespace Go.Proofs.Ytejoecoenehooaa
open Go.RowKit Nl

namespace Nl
/-- Adding the nodes of a roll, one behind the other. -/
theorem stAdd_snoc {l : Int} {zs : List (Int × Int)} {x : Int × Int} (r : Roll l (zs ++ [x])) : stAdd l zs x.1 x.2 = (zs ++ [x], 0) := by
  have hs := r.strict
  have hp := List.pairwise_append.1 hs.1
  have hx := hs.2 x (by simp)
  have hr := r.ids x (by simp)
  have hzs : Strict zs := hs.left
  have hm := r.most
  rw [sumL_append] at hm
  simp only [sumL] at hm
  have hz : sumL zs ≤ 72057594037927935 := by omega
  unfold stAdd
  rw [if_neg (by rw [hr]; simp; omega), totV_sum hzs.pos hz, if_neg (by omega), foldL_add hzs hx.1 (by omega) (by omega)]
  simp only [Option.getD_some, Prod.mk.injEq, and_true]
  have hlt : ∀ y ∈ zs, y.1 < x.1 := fun y hy => hp.2.2 y hy x (by simp)
  have h := addS_parts (P := zs) (Q := []) (id := x.1) (v := 0) (c := x.2) hlt (by simp) (Int.le_refl _) (by omega)
  rw [if_neg (by decide), if_pos (by omega)] at h
  simpa using h
theorem Roll.take' {l : Int} {zs : List (Int × Int)} (r : Roll l zs) (k : Nat) : Roll l (zs.take k) := by
  have e := List.take_append_drop k zs
  refine ⟨r.l1, r.l2, Strict.left (B := zs.drop k) (by rw [e]; exact r.strict), ?_, fun x hx => r.ids x (List.mem_of_mem_take hx)⟩
  have h1 := sumL_take_drop zs k
  have h2 := sumL_nonneg (fun x hx => r.strict.pos x (List.mem_of_mem_drop hx) : Pos (zs.drop k))
  have := r.most
  omega
end Nl

def PutRel (w : World) (q g h0 : Nat) (kind l : Int) (zs : List Nd) (i : Value) (wr : World) : Prop :=
  ∃ k h : Nat, i = .int .i64 k ∧ k ≤ zs.length ∧ PoolV wr q g h kind l zs.length (zs.take k) ∧ (h = h0 ∨ w.heap.size ≤ h) ∧ Tch g h0 w wr

def PutPost (q g h0 : Nat) (kind l : Int) (zs : List Nd) (w : World) (e : Ending) (w' : World) : Prop :=
  e = .returned (.tuple #[]) ∧ ∃ h, PoolV w' q g h kind l zs.length zs ∧ (h = h0 ∨ w.heap.size ≤ h) ∧ Tch g h0 w w'

theorem Tch.fresh {g h h0 : Nat} {a b c : World} (t1 : Tch g h0 a b) (t2 : Tch g h b c) (hh : h = h0 ∨ a.heap.size ≤ h) : Tch g h0 a c :=
  ⟨t2.os.trans t1.os, t2.tape.trans t1.tape, t2.output.trans t1.output, Nat.le_trans t1.size t2.size, fun k hk e1 e2 =>
    (t2.block k (Nat.lt_of_lt_of_le hk t1.size) e1 (by rcases hh with rfl | hh; exact e2; omega)).trans (t1.block k hk e1 e2)⟩

set_option maxRecDepth 100000 in
set_option maxHeartbeats 1000000 in
theorem pl_put {w : World} {q g h m : Nat} {kind l : Int} {zs : List Nd} {v : Value} (d : PoolV w q g h kind l m []) (hm : m = 0) (r : Roll l zs) (hr : RdN w v zs) (hv : zs = [] ∨ ∀ k, v.ownBlock = some k → k ≠ g ∧ k ≠ h) (hl : zs.length ≤ 100000) :
    Calls Try.prog 77 #[.pointer (some ⟨q, 0, none⟩), v] w (PutPost q g h kind l zs w) := by
  subst hm
  obtain ⟨p, cap, rfl⟩ := hr.val
  have d0 := d.mono (Nat.zero_le zs.length)
  have hgl := d.lt
  go_enter Try.func77, Try.ntmps77
  go_wp2_with fail
  go_loopw [8] (fun i wr => PutRel w q g h kind l zs i wr) (fun i _ => zs.length - (intOf i).toNat)
  case atStart => exact ⟨0, h, rfl, by omega, d0, .inl rfl, Tch.refl _ _ _⟩
  case round =>
    obtain ⟨k, h2, rfl, hk, d2, hh, T2⟩ := hrel
    have hwr := T2.size
    by_cases h1 : k < zs.length
    · have hv : ∀ k, (Value.slice p zs.length cap).ownBlock = some k → k ≠ g ∧ k ≠ h := by
        rcases hv with hv | hv
        · subst hv; simp at h1
        · exact hv
      have hr2 : RdN wr (.slice p zs.length cap) zs := hr.tch T2 (fun e => (hv _ e).1 rfl) (fun e => (hv _ e).2 rfl)
      obtain ⟨g2, off, a, c, rfl, ex, hg2, c1, c2⟩ := hr2.at h1
      have hx := r.strict.2 _ (getD_mem (d := ((0, 0) : Nd)) zs k h1)
      have hxr := r.ids _ (getD_mem (d := ((0, 0) : Nd)) zs k h1)
      have hxm := r.strict.pos.le_sum _ (getD_mem (d := ((0, 0) : Nd)) zs k h1)
      rw [ex] at hx hxr hxm
      have hmx := right_max hxr
      have hmo := r.most
      have hS := stAdd_snoc (zs := zs.take k) (x := (a, c)) (l := l) (by rw [← ex, ← take_at (d := ((0, 0) : Nd)) zs k h1]; exact r.take' _)
      have hT : Hid (zs.take (k + 1) = zs.take k ++ [(a, c)]) := by show _ = _; rw [take_at (d := ((0, 0) : Nd)) zs k h1, ex]
      have hba : Below wr.heap.size wr (wr.alloc (.cells #[.int .i64 a, .int .i64 c] 100)) := (Below.refl _ _).alloc (Nat.le_refl _) _
      have d3 := d2.below hba (Nat.le_refl _)
      have Ad := hid (pl_add zs.length a c d3 (Nat.le_refl _) (by simp; omega) hl (by simp only at hx; omega) (by simp only at hx hxm; omega))
      rw [hS] at Ad
      have Th := hid (T2.below' hba)
      obtain ⟨hq2, hg3, hh2, _⟩ := d2.lt
      clear hS ex hr2 hx hxr hxm
      as_aux_lemma =>
        go_wp2_with fail
        refine Ad.out.mono ?_
        rintro e w3 ⟨rfl, h3, d4, hh3, T3⟩
        have hs3 := T3.size
        go_wp2_with fail
        go_roundw
        case rel =>
          refine ⟨k + 1, h3, by go_num, by omega, by rw [hT.out]; exact d4, ?_, Th.out.fresh T3 hh⟩
          rcases hh3 with e | e
          · rw [e]; exact hh
          · right; simp only [World.size_alloc] at e; omega
        case measure => simp [intOf]; omega
    · rw [List.take_of_length_le (by omega)] at d2
      go_wp2_with fail
      exact bodyPost_ret (v := .tuple #[]) (by simp [results, Try.results77, go_sem]) rfl ⟨rfl, h2, d2, hh, T2⟩
end Go.Proofs.Ytejoecoenehooaa
