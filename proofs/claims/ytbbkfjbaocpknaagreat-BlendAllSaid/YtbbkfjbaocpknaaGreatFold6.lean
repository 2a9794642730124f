/- The walks of fold.First, the reference's Parents, First, Do, and the reference's Same of ints. -/
import Derived.Test.YtbbkfjbaocpknaaGreatAg7
import Derived.Test.YtbbkfjbaocpknaaGreatBE
namespace Go.Proofs.YtbbkfjbaocpknaaGreat
open Go.RowKit Nl

namespace Nl
theorem find_here {xs : List Int} {f : Int → Bool} {k : Nat} (hk : k < xs.length) (h1 : ∀ j, j < k → f (xs.getD j 0) = false) (h2 : f (xs.getD k 0) = true) : xs.find? f = some (xs.getD k 0) := by
  induction xs generalizing k with
  | nil => simp at hk
  | cons x r ih =>
    rw [List.find?_cons]
    cases k with
    | zero => simp only [List.getD_cons_zero] at h2 ⊢; rw [h2]
    | succ k =>
      have h0 := h1 0 (by omega)
      simp only [List.getD_cons_zero] at h0
      rw [h0]
      have := ih (k := k) (by simpa using hk) (fun j hj => by have := h1 (j + 1) (by omega); simpa using this) (by simpa using h2)
      simpa using this
theorem find_nowhere {xs : List Int} {f : Int → Bool} (h1 : ∀ j, j < xs.length → f (xs.getD j 0) = false) : xs.find? f = none := by
  rw [List.find?_eq_none]
  intro x hx
  obtain ⟨k, hk, e⟩ := List.getElem_of_mem hx
  have := h1 k hk
  rw [List.getD_eq_getElem?_getD, List.getElem?_eq_getElem hk, Option.getD_some, e] at this
  rw [this]; decide
theorem parents_in {l : Int} {zs : List (Int × Int)} (r : Roll l zs) : ∀ p ∈ parentsL zs, In64 p := fun p hp => by
  obtain ⟨x, hx, h1, h2⟩ := parents_mem.1 hp
  have h3 := r.ids x hx
  simp only [rightB, decide_eq_true_eq] at h3
  obtain ⟨n, rfl⟩ := Int.eq_ofNat_of_zero_le (show 0 ≤ l by omega)
  have := (pow48 (n := n) (by omega)).2
  simp only [Int.toNat_natCast] at h3
  exact ⟨by omega, by omega⟩
/-- A pair that weighs nothing. -/
theorem fold_zero {l : Int} {zs : List (Int × Int)} (r : Roll l zs) {p : Int} (h : pairV l zs p = 0) : foldDo l zs p = (zs, 0) := by
  cases hk : kidsB l p
  · unfold foldDo; rw [hk]; rfl
  · have h2 := fold_pair l zs p
    rw [h] at h2
    have hf := fold_facts r p
    have hp : findL (2 * p) zs + findL (2 * p + 1) zs = 0 := by unfold pairV at h; rw [hk] at h; simpa using h
    have f1 := r.find (2 * p)
    have f2 := r.find (2 * p + 1)
    have he : (foldDo l zs p).1 = zs := by
      refine strict_ext hf.1.strict r.strict (fun z => ?_)
      have key : ∀ q, findL q (foldDo l zs p).1 = findL q zs := fun q => by
        obtain ⟨k1, k2, k3⟩ := hf.2.2.2.2 hk
        by_cases e1 : q = 2 * p
        · rw [e1, k1]; omega
        · by_cases e2 : q = 2 * p + 1
          · rw [e2, k2]; omega
          · by_cases e3 : q = p
            · rw [e3, k3]; unfold allV; rw [hk]; simp only [if_true]; omega
            · exact fold_other r hk e1 e2 e3
      constructor
      · intro hz
        have h1 := strict_at hf.1.strict (id := z.1) (c := z.2) hz
        rw [key] at h1
        have h3 := (hf.1.strict.2 z hz).2
        have := find_mem r.strict (id := z.1) (by omega)
        rw [h1] at this; exact this
      · intro hz
        have h1 := strict_at r.strict (id := z.1) (c := z.2) hz
        rw [← key] at h1
        have h3 := (r.strict.2 z hz).2
        have := find_mem hf.1.strict (id := z.1) (by omega)
        rw [h1] at this; exact this
    exact Prod.ext he h2
end Nl

/-- A first one, or none. -/
def firstE (o : Option Int) : Ending := .returned (.tuple #[.int .i64 (o.getD 0), .bool o.isSome])
def FirRel (l most : Int) (zs : List Nd) (all : List Int) (w : World) (i : Value) (wr : World) : Prop :=
  ∃ k : Nat, i = .int .i64 k ∧ k ≤ all.length ∧ Hid (∀ j, j < k → readyB l zs (all.getD j 0) most = false) ∧ Below w.heap.size w wr

def RParRel (zs : List Nd) (w : World) (out i : Value) (wr : World) : Prop := ∃ k : Nat, i = .int .i64 k ∧ k ≤ zs.length ∧ RdIB wr w.heap.size out (parentsL (zs.take k)) ∧ Below w.heap.size w wr
set_option maxRecDepth 100000 in
set_option maxHeartbeats 2000000 in
theorem r_parents {l : Int} {v : Value} {zs : List Nd} (w : World) (hr : RdN w v zs) (hl : zs.length ≤ 90000) (hroll : Roll l zs) :
    Calls Tryz.prog 175 #[v] w (IsInts (parentsL zs) w) := by
  obtain ⟨p, cap, rfl⟩ := hr.val
  obtain ⟨N, eN⟩ : ∃ N, zs.length = N := ⟨_, rfl⟩
  rw [eN] at hr ⊢
  have EN := hid eN
  have hN : N ≤ 90000 := by omega
  have HR := hid hroll
  clear eN hl hroll
  go_enter Tryz.func175, Tryz.ntmps175
  go_wp2_with fail
  go_loopw [3, 4] (fun o i wr => RParRel zs w o i wr) (fun _ i _ => N - (intOf i).toNat)
  case atStart => exact ⟨0, rfl, Nat.zero_le _, RdIB.nil _ _, Below.refl _ _⟩
  case round =>
    obtain ⟨k, rfl, hk, hO, hB⟩ := hrel
    have hkN : k ≤ N := by rw [EN.out] at hk; exact hk
    clear hk
    by_cases hlt : k < N
    · have hkx : k < zs.length := by rw [EN.out]; exact hlt
      have hrw := hr.below hB (Nat.le_refl _)
      obtain ⟨g, off, x, c, rfl, ex, hg, hc1, hc2⟩ := hrw.at hkx
      have hx2 := getD_mem (d := ((0, 0) : Nd)) zs k hkx
      rw [ex] at hx2
      have hx1 : 1 ≤ x ∧ x ≤ 1125899906842624 := by
        have h3 := HR.out.ids _ hx2
        have l1 := HR.out.l1
        have l2 := HR.out.l2
        simp only [rightB, decide_eq_true_eq] at h3
        obtain ⟨n, rfl⟩ := Int.eq_ofNat_of_zero_le (show 0 ≤ l by omega)
        have := (pow48 (n := n) (by omega)).2
        simp only [Int.toNat_natCast] at h3
        omega
      have Ets : Hid (parentsL (zs.take (k + 1)) = if 1 < x then withL (parentsL (zs.take k)) (x / 2) else parentsL (zs.take k)) := by
        show _ = _
        rw [take_at (d := ((0, 0) : Nd)) zs k hkx, ex, parents_snoc]
      have hok := parents_in (HR.out.take' k)
      have hlk := parents_len (zs.take k)
      have hlk2 : (zs.take k).length ≤ k := List.length_take_le _ _
      generalize parentsL (zs.take k) = ys at *
      by_cases h1 : 1 < x
      · have bx : In64 (x / 2) := ⟨by omega, by omega⟩
        have Wt := hid (r_with (x / 2) wr hO.1 (by omega) hok bx)
        have ep : Hid ((if 1 < x then withL ys (x / 2) else ys) = withL ys (x / 2)) := by show _ = _; rw [if_pos h1]
        clear hok ex hkx hx2
        go_wp2_with fail
        refine Wt.out.mono ?_
        rintro e w2 ⟨v2, rfl, hr2, hv2, hb2⟩
        have hs := hB.size
        go_wp2_with fail
        go_roundw
        case rel =>
          have hq2 : ∀ q, v2.ownBlock = some q → w.heap.size ≤ q := fun q hq => by
            rcases hv2 with rfl | hv2
            · exact hO.2 q hq
            · have := hv2 q hq; omega
          exact ⟨k + 1, by go_num, by rw [EN.out]; omega, by rw [Ets.out, ep.out]; exact ⟨hr2, hq2⟩, hB.trans (hb2.mono hs)⟩
        case measure => simp [intOf]; omega
      · have ep : Hid ((if 1 < x then withL ys (x / 2) else ys) = ys) := by show _ = _; rw [if_neg h1]
        clear hok ex hkx hx2
        go_wp2_with fail
        go_roundw
        case rel => exact ⟨k + 1, by go_num, by rw [EN.out]; omega, by rw [Ets.out, ep.out]; exact hO, hB⟩
        case measure => simp [intOf]; omega
    · obtain rfl : k = N := by omega
      have Et : Hid (zs.take k = zs) := by show _ = _; rw [← EN.out, List.take_length]
      go_wp2_with fail
      go_ret
      exact ⟨_, rfl, by rw [← Et.out]; exact hO, hB⟩

def RFirRel (l most : Int) (zs : List Nd) (all : List Int) (b : Nat) (arr : Array Value) (T : Nat) (w : World) (i : Value) (wr : World) : Prop :=
  ∃ k : Nat, i = .int .i64 k ∧ k ≤ all.length ∧ Hid (∀ j, j < k → readyB l zs (all.getD j 0) most = false) ∧ Below w.heap.size w wr ∧ Blk wr b arr T
set_option maxRecDepth 100000 in
set_option maxHeartbeats 2000000 in
theorem r_first {l : Int} {v : Value} {zs : List Nd} (most : Int) (w : World) (hr : RdN w v zs) (hl : zs.length ≤ 90000) (hroll : Roll l zs) :
    Calls Tryz.prog 137 #[.agg #[.int .i64 l, v], .int .i64 most] w fun e w' => e = firstE (firstR l zs most) ∧ Below w.heap.size w w' := by
  obtain ⟨p, cap, rfl⟩ := hr.val
  have P := hid (fun W (x : RdN W (.slice p zs.length cap) zs) => r_parents W x hl hroll)
  have IN := hid (parents_in hroll)
  have hlen := parents_len zs
  have RE := hid (fun W (x : RdN W (.slice p zs.length cap) zs) (i : Int) (bp : In64 i) => r_ready i most x (by omega) hroll bp)
  have FR : Hid (firstR l zs most = (parentsL zs).find? (fun p => readyB l zs p most)) := rfl
  generalize firstR l zs most = R at *
  generalize parentsL zs = all at *
  obtain ⟨N, eN⟩ : ∃ N, all.length = N := ⟨_, rfl⟩
  have EN := hid eN
  have hba : Below w.heap.size w (w.alloc (.cells #[.int .i64 l, .slice p zs.length cap] 35)) := (Below.refl _ _).alloc (Nat.le_refl _) _
  have hr1 := hr.below hba (Nat.le_refl _)
  have X := Blk.new w #[.int .i64 l, .slice p zs.length cap] 35
  have hsz : (w.alloc (.cells #[.int .i64 l, .slice p zs.length cap] 35)).heap.size = w.heap.size + 1 := by simp
  go_enter Tryz.func137, Tryz.ntmps137
  go_wp2_with fail
  refine (P.out _ hr1).mono ?_
  rintro e w2 ⟨v2, rfl, ⟨hr2, _⟩, hb2⟩
  generalize (w.alloc (.cells #[.int .i64 l, .slice p zs.length cap] 35)) = w1 at *
  obtain ⟨p0, cap0, rfl⟩ := hr2.val
  rw [eN] at hr2 ⊢
  have hN : N ≤ 90000 := by omega
  have X2 := X.below hb2 (Nat.le_refl _)
  have hrz := hr1.below hb2 (Nat.le_refl _)
  have hs2 := hb2.size
  have hb12 := hba.trans (hb2.mono (by omega))
  clear eN P hlen X hr1
  go_wp2_with fail
  go_loopw [7] (fun i wr => RFirRel l most zs all w.heap.size #[.int .i64 l, .slice p zs.length cap] 35 w2 i wr) (fun i _ => N - (intOf i).toNat)
  case atStart => exact ⟨0, rfl, Nat.zero_le _, fun j hj => by omega, Below.refl _ _, X2⟩
  case round =>
    obtain ⟨k, rfl, hk, hH, hB, XX⟩ := hrel
    have hkN : k ≤ N := by rw [EN.out] at hk; exact hk
    clear hk
    have hs3 := hB.size
    by_cases hlt : k < N
    · have hkx : k < all.length := by rw [EN.out]; exact hlt
      have hrw := hr2.below hB (Nat.le_refl _)
      obtain ⟨ga, off, x, rfl, ex, hg, hc⟩ := hrw.at hkx
      have bx : In64 x := by rw [← ex]; exact IN.out _ (getD_mem (d := 0) all k hkx)
      have hrzw := hrz.below hB (Nat.le_refl _)
      obtain ⟨A, eA⟩ : ∃ A, readyB l zs x most = A := ⟨_, rfl⟩
      have RX := hid (fun W (q : RdN W (.slice p zs.length cap) zs) => RE.out W q x bx)
      rw [eA] at RX
      have EA := hid eA
      have EX := hid ex
      have x0 : wr.cell? ⟨w.heap.size, 0, none⟩ = some (.int .i64 l) := XX.cell 0
      have x1 : wr.cell? ⟨w.heap.size, 1, none⟩ = some (.slice p zs.length cap) := XX.cell 1
      have hB0 := Below.refl wr.heap.size wr
      have hXl := XX.lt
      clear ex eA hkx
      cases A
      · go_wp2_with fail
        go_region_held3 (fun w' => w'.cell? ⟨w.heap.size, 0, none⟩ = some (.int .i64 l) ∧ w'.cell? ⟨w.heap.size, 1, none⟩ = some (.slice p zs.length cap) ∧ w'.cell? ⟨ga, off + k, none⟩ = some (.int .i64 x) ∧ Below wr.heap.size wr w')
          (first
            | exact ⟨x0, x1, hc, below_drewN hB0 1⟩
            | exact ⟨(XX.below' hB5 hXl).cell 0, (XX.below' hB5 hXl).cell 1, (hB5.cell (p := ⟨ga, off + k, none⟩) hg).trans hc, hB5⟩)
          (first
            | (go_at_call 176; have hB4 := (‹_ ∧ _ ∧ _ ∧ Below wr.heap.size wr _›).2.2.2; refine (RX.out _ (hrzw.below hB4 (Nat.le_refl _))).mono ?_; rintro e w5 ⟨rfl, hb5⟩
               have hB5 := hB4.trans (hb5.mono hB4.size)))
        have hs5 := hB5.size
        go_wp2_with fail
        go_roundw
        case rel =>
          refine ⟨k + 1, by go_num, by rw [EN.out]; omega, fun j hj => ?_, hB.trans (hB5.mono hs3), XX.below' hB5 hXl⟩
          by_cases e : j = k
          · rw [e, EX.out]; exact EA.out
          · exact hH.out j (by omega)
        case measure => simp [intOf]; omega
      · go_wp2_with fail
        go_region_held3 (fun w' => w'.cell? ⟨w.heap.size, 0, none⟩ = some (.int .i64 l) ∧ w'.cell? ⟨w.heap.size, 1, none⟩ = some (.slice p zs.length cap) ∧ w'.cell? ⟨ga, off + k, none⟩ = some (.int .i64 x) ∧ Below wr.heap.size wr w')
          (first
            | exact ⟨x0, x1, hc, below_drewN hB0 1⟩
            | exact ⟨(XX.below' hB5 hXl).cell 0, (XX.below' hB5 hXl).cell 1, (hB5.cell (p := ⟨ga, off + k, none⟩) hg).trans hc, hB5⟩)
          (first
            | (go_at_call 176; have hB4 := (‹_ ∧ _ ∧ _ ∧ Below wr.heap.size wr _›).2.2.2; refine (RX.out _ (hrzw.below hB4 (Nat.le_refl _))).mono ?_; rintro e w5 ⟨rfl, hb5⟩
               have hB5 := hB4.trans (hb5.mono hB4.size)))
        have hs5 := hB5.size
        have hc5 := (hB5.cell (p := ⟨ga, off + k, none⟩) hg).trans hc
        go_wp2_with fail
        try rw [Exit.noGoto_ret]
        go_ret2
        have hf := find_here (f := fun p => readyB l zs p most) (by rw [EN.out]; exact hlt) hH.out (by rw [EX.out]; exact EA.out)
        refine ⟨?_, (hb12.trans (hB.mono (by omega))).trans (hB5.mono (by omega))⟩
        rw [FR.out, hf, EX.out]; rfl
    · obtain rfl : k = N := by omega
      go_wp2_with fail
      go_ret2
      have hf := find_nowhere (f := fun p => readyB l zs p most) (xs := all) (fun j hj => hH.out j (by rw [EN.out] at hj; exact hj))
      refine ⟨?_, hb12.trans (hB.mono (by omega))⟩
      rw [FR.out, hf]; rfl
end Go.Proofs.YtbbkfjbaocpknaaGreat
