/- Texts laid together. -/
import Derived.Test.YtlciofheonbkiaaGreatP16
import Derived.Test.YtlciofheonbkiaaGreatP47
import Derived.Test.YtlciofheonbkiaaGreatP18
namespace Go.Proofs.YtlciofheonbkiaaGreat
open Go.RowKit Nl
namespace Nl
theorem rank_endsF (l y : Int) (zs : List (Int × Int)) : gsum (rankF y) (endL false l zs) = gsum (lowF l y) zs := by
  induction zs with
  | nil => rfl
  | cons z r ih =>
    show gsum (rankF y) (endV false l z :: endL false l r) = _
    simp only [gsum, ih]; rfl
theorem rank_endsT (l y : Int) (zs : List (Int × Int)) : gsum (rankF y) (endL true l zs) = gsum (highF l y) zs := by
  induction zs with
  | nil => rfl
  | cons z r ih =>
    show gsum (rankF y) (endV true l z :: endL true l r) = _
    simp only [gsum, ih]; rfl
theorem rank_mono {x y : Int} (h : x ≤ y) : ∀ {zs : List (Int × Int)}, (∀ z ∈ zs, 0 ≤ z.2) → gsum (rankF x) zs ≤ gsum (rankF y) zs
  | [], _ => Int.le_refl _
  | z :: r, hp => by
    have ih := rank_mono h (zs := r) (fun u hu => hp u (by simp [hu]))
    have h0 := hp z (by simp)
    simp only [gsum]
    unfold rankF at *
    split <;> split <;> omega
theorem rank_nn {x : Int} {zs : List (Int × Int)} (hp : ∀ z ∈ zs, 0 ≤ z.2) : 0 ≤ gsum (rankF x) zs := gsum_zero (fun z hz => by have := hp z hz; unfold rankF; split <;> omega)
theorem rank_le {x : Int} : ∀ {zs : List (Int × Int)}, (∀ z ∈ zs, 0 ≤ z.2) → gsum (rankF x) zs ≤ sumL zs
  | [], _ => Int.le_refl _
  | z :: r, hp => by
    have ih := rank_le (x := x) (zs := r) (fun u hu => hp u (by simp [hu]))
    have h0 := hp z (by simp)
    simp only [gsum, sumL]
    unfold rankF at *
    split <;> omega
theorem rank_all {x : Int} : ∀ {zs : List (Int × Int)}, (∀ z ∈ zs, z.1 ≤ x) → gsum (rankF x) zs = sumL zs
  | [], _ => rfl
  | z :: r, hp => by
    have ih := rank_all (x := x) (zs := r) (fun u hu => hp u (by simp [hu]))
    have h0 := hp z (by simp)
    simp only [gsum, sumL, ih]
    unfold rankF
    rw [if_pos h0]
theorem rank_none {x : Int} : ∀ {zs : List (Int × Int)}, (∀ z ∈ zs, x < z.1) → gsum (rankF x) zs = 0
  | [], _ => rfl
  | z :: r, hp => by
    have ih := rank_none (x := x) (zs := r) (fun u hu => hp u (by simp [hu]))
    have h0 := hp z (by simp)
    simp only [gsum, ih]
    unfold rankF
    rw [if_neg (by omega)]; omega
theorem rank_some {x : Int} {zs : List (Int × Int)} (h : 0 < gsum (rankF x) zs) : ∃ z ∈ zs, z.1 ≤ x := by
  refine Classical.byContradiction fun hn => ?_
  have : gsum (rankF x) zs = 0 := rank_none (fun z hz => Int.not_le.1 (fun q => hn ⟨z, hz, q⟩))
  omega
theorem rank_less {x : Int} {zs : List (Int × Int)} (hp : ∀ z ∈ zs, 0 ≤ z.2) {z : Int × Int} (hz : z ∈ zs) (h0 : 0 < z.2) (hx : x < z.1) : gsum (rankF x) zs < sumL zs := by
  induction zs with
  | nil => cases hz
  | cons u r ih =>
    have hr : ∀ v ∈ r, 0 ≤ v.2 := fun v hv => hp v (by simp [hv])
    have hu := hp u (by simp)
    simp only [gsum, sumL]
    rcases List.mem_cons.1 hz with rfl | hz
    · have := rank_le (x := x) hr
      unfold rankF at *
      rw [if_neg (by omega)]; omega
    · have := ih hr hz
      unfold rankF at *
      split <;> omega
theorem reach_spec {ss es : List (Int × Int)} (hperm : ss.Perm es) (hs : ∀ i j (hi : i < ss.length) (hj : j < ss.length), i < j → ss[i].1 ≤ ss[j].1) (hp : ∀ z ∈ es, 0 ≤ z.2) {r : Int} {j : Nat} (hj : j < ss.length)
    (h1 : sumL (ss.take j) < r) (h2 : r ≤ sumL (ss.take (j + 1))) : r ≤ gsum (rankF ss[j].1) es ∧ gsum (rankF (ss[j].1 - 1)) es < r ∧ ss[j] ∈ es := by
  have hps : ∀ z ∈ ss, 0 ≤ z.2 := fun z hz => hp z (hperm.mem_iff.1 hz)
  have cut : ∀ k, gsum (rankF ss[j].1) ss = gsum (rankF ss[j].1) (ss.take k) + gsum (rankF ss[j].1) (ss.drop k) := fun k => by rw [← gsum_append, List.take_append_drop]
  have cut' : ∀ k, gsum (rankF (ss[j].1 - 1)) ss = gsum (rankF (ss[j].1 - 1)) (ss.take k) + gsum (rankF (ss[j].1 - 1)) (ss.drop k) := fun k => by rw [← gsum_append, List.take_append_drop]
  refine ⟨?_, ?_, hperm.mem_iff.1 (List.getElem_mem _)⟩
  · rw [← gsum_perm hperm, cut (j + 1), rank_all (fun z hz => ?_)]
    · have := rank_nn (x := ss[j].1) (zs := ss.drop (j + 1)) (fun z hz => hps z (List.mem_of_mem_drop hz))
      omega
    · obtain ⟨i, hi, rfl⟩ := List.getElem_of_mem hz
      rw [List.getElem_take]
      have hi' : i < j + 1 := by simp at hi; omega
      by_cases e : i = j
      · subst e; exact Int.le_refl _
      · exact hs i j (by omega) hj (by omega)
  · rw [← gsum_perm hperm, cut' j, rank_none (zs := ss.drop j) (fun z hz => ?_)]
    · have := rank_le (x := ss[j].1 - 1) (zs := ss.take j) (fun z hz => hps z (List.mem_of_mem_take hz))
      omega
    · obtain ⟨i, hi, rfl⟩ := List.getElem_of_mem hz
      rw [List.getElem_drop]
      have hi' : j + i < ss.length := by simp at hi; omega
      by_cases e : i = 0
      · subst e; simp only [Nat.add_zero]; omega
      · have := hs j (j + i) hj hi' (by omega)
        omega
theorem bet_rank {l y : Int} {its : List (Int × Int)} (b : Bag l its) : betV 0 y its = gsum (rankF y) its := by
  unfold betV
  refine gsum_congr (fun z hz => ?_)
  have hv := b.val z hz
  simp only [leafB, decide_eq_true_eq] at hv
  unfold betF rankF
  by_cases q : z.1 ≤ y
  · rw [if_pos ⟨hv.2.2.1, q⟩, if_pos q]
  · rw [if_neg (fun h => q h.2), if_neg q]
theorem TI.quant {l k : Int} {zs its : List (Int × Int)} {X : List Int} (t : TI l k zs its X) {r y : Int} (h1 : r ≤ gsum (rankF y) (endL false l zs)) (h2 : gsum (rankF (y - 1)) (endL false l zs) < r) :
    r ≤ betV 0 y its ∧ betV 0 (y - 1) its < r + l * capV (sumL zs) k := by
  rw [rank_endsF] at h1 h2
  rw [bet_rank t.bag, bet_rank t.bag]
  have s1 := (t.rk y).1
  obtain ⟨-, s2⟩ := t.rk (y - 1)
  have h3 := (t.stands (y - 1)).2.2
  have hc : capV (sumL zs) k = sumL its / k := by
    have h0 := sumL_nonneg t.dg.roll.strict.pos
    have hk := t.dg.k1
    unfold capV
    rw [if_neg (by omega), t.sum]
  rw [hc]
  omega
theorem TI.span {l k : Int} {zs its : List (Int × Int)} {X : List Int} (t : TI l k zs its X) {r yf yl x : Int} (f2 : gsum (rankF (yf - 1)) (endL true l zs) < r) (l1 : r ≤ gsum (rankF yl) (endL false l zs))
    (k1 : r ≤ betV 0 x its) (k2 : betV 0 (x - 1) its < r) : yf ≤ x ∧ x ≤ yl := by
  rw [rank_endsT] at f2
  rw [rank_endsF] at l1
  rw [bet_rank t.bag] at k1 k2
  have hp : ∀ z ∈ its, 0 ≤ z.2 := fun z hz => by have := t.bag.pos z hz; omega
  constructor
  · refine Int.not_lt.1 fun q => ?_
    obtain ⟨-, s2⟩ := t.rk (yf - 1)
    have := rank_mono (x := x) (y := yf - 1) (by omega) hp
    omega
  · refine Int.not_lt.1 fun q => ?_
    obtain ⟨s1, -⟩ := t.rk yl
    have := rank_mono (x := yl) (y := x - 1) (by omega) hp
    omega
theorem TI.least {l k : Int} {zs its : List (Int × Int)} {X : List Int} (t : TI l k zs its X) {v : Int × Int} {r : List (Int × Int)} (e : its = v :: r) {a b : Int}
    (ha : ∀ z ∈ zs, a ≤ endsLo l z.1) (hb : ∃ z ∈ zs, endsHi l z.1 = b) : a ≤ v.1 ∧ v.1 ≤ b := by
  have hp : ∀ z ∈ its, 0 ≤ z.2 := fun z hz => by have := t.bag.pos z hz; omega
  have hv : 1 ≤ v.2 := t.bag.pos v (by rw [e]; simp)
  have hrise := t.bag.rise
  rw [e] at hrise
  constructor
  · obtain ⟨-, s2⟩ := t.rk v.1
    have h1 : 0 < gsum (rankF v.1) its := by
      rw [e]
      have := rank_nn (x := v.1) (zs := r) (fun z hz => hp z (by rw [e]; simp [hz]))
      simp only [gsum]
      unfold rankF at *
      rw [if_pos (Int.le_refl _)]; omega
    rw [← rank_endsT] at s2
    obtain ⟨z, hz, hzv⟩ := rank_some (show 0 < gsum (rankF v.1) (endL true l zs) by omega)
    obtain ⟨u, hu, rfl⟩ := List.mem_map.1 hz
    have := ha u hu
    have e2 : (endV true l u).1 = endsLo l u.1 := rfl
    omega
  · obtain ⟨z, hz, rfl⟩ := hb
    obtain ⟨s1, -⟩ := t.rk (endsHi l z.1)
    have hpz := t.dg.roll.strict.pos
    have h1 : 0 < gsum (lowF l (endsHi l z.1)) zs := by
      have hk : ∀ (ys : List (Int × Int)), (∀ y ∈ ys, 0 < y.2) → z ∈ ys → 0 < gsum (lowF l (endsHi l z.1)) ys := by
        intro ys
        induction ys with
        | nil => intro _ h; cases h
        | cons y r ih =>
          intro hy hm
          have h2 : 0 ≤ gsum (lowF l (endsHi l z.1)) r := gsum_zero (fun u hu => by have := hy u (by simp [hu]); unfold lowF; split <;> omega)
          have h3 := hy y (by simp)
          simp only [gsum]
          rcases List.mem_cons.1 hm with rfl | hm
          · unfold lowF at *
            rw [if_pos (Int.le_refl _)]; omega
          · have := ih (fun u hu => hy u (by simp [hu])) hm
            unfold lowF at *
            split <;> omega
      exact hk zs (fun y hy => (t.dg.roll.strict.2 y hy).2) hz
    obtain ⟨u, hu, huv⟩ := rank_some (show 0 < gsum (rankF (endsHi l z.1)) its by omega)
    rw [e] at hu
    rcases List.mem_cons.1 hu with rfl | hu
    · exact huv
    · have := (List.pairwise_cons.1 hrise).1 u hu
      omega
theorem TI.greatest {l k : Int} {zs its : List (Int × Int)} {X : List Int} (t : TI l k zs its X) {v : Int × Int} (hv : v ∈ its) (hl : ∀ u ∈ its, u.1 ≤ v.1) {a b : Int}
    (ha : ∃ z ∈ zs, endsLo l z.1 = a) (hb : ∀ z ∈ zs, endsHi l z.1 ≤ b) : a ≤ v.1 ∧ v.1 ≤ b := by
  have hp : ∀ z ∈ its, 0 ≤ z.2 := fun z hz => by have := t.bag.pos z hz; omega
  have hpz : ∀ z ∈ zs, 0 < z.2 := fun y hy => (t.dg.roll.strict.2 y hy).2
  have es : ∀ f, sumL (endL f l zs) = sumL zs := fun f => by
    have : ∀ ys : List (Int × Int), sumL (ys.map (endV f l)) = sumL ys := fun ys => by
      induction ys with
      | nil => rfl
      | cons y r ih => simp only [List.map_cons, sumL, ih]; rfl
    exact this zs
  have hpe : ∀ f, ∀ z ∈ endL f l zs, 0 ≤ z.2 := fun f z hz => by
    obtain ⟨u, hu, rfl⟩ := List.mem_map.1 hz
    have := hpz u hu
    show 0 ≤ u.2
    omega
  have hsum := t.sum
  constructor
  · refine Int.not_lt.1 fun q => ?_
    obtain ⟨z, hz, rfl⟩ := ha
    obtain ⟨-, s2⟩ := t.rk v.1
    rw [rank_all hl, ← rank_endsT] at s2
    have h1 : gsum (rankF v.1) (endL true l zs) < sumL (endL true l zs) := rank_less (hpe true) (z := endV true l z) (List.mem_map.2 ⟨z, hz, rfl⟩) (hpz z hz) q
    rw [es] at h1
    omega
  · refine Int.not_lt.1 fun q => ?_
    obtain ⟨s1, -⟩ := t.rk b
    have h1 : gsum (rankF b) its < sumL its := rank_less hp hv (by have := t.bag.pos v hv; omega) q
    rw [← rank_endsF, rank_all (fun z hz => by obtain ⟨u, hu, rfl⟩ := List.mem_map.1 hz; exact hb u hu), es] at s1
    omega
theorem kth_spec {l : Int} {its : List (Int × Int)} (b : Bag l its) {r : Int} {j : Nat} (hj : j < its.length) (hr : 1 ≤ r) (h1 : r ≤ betV 0 its[j].1 its) (h0 : ∀ i (hi : i < its.length), i < j → betV 0 its[i].1 its < r) : betV 0 (its[j].1 - 1) its < r := by
  have hp : ∀ z ∈ its, 0 ≤ z.2 := fun z hz => by have := b.pos z hz; omega
  have hrise := List.pairwise_iff_getElem.1 b.rise
  rw [bet_rank b]
  by_cases e : j = 0
  · subst e
    rw [rank_none (fun z hz => ?_)]
    · omega
    · obtain ⟨i, hi, rfl⟩ := List.getElem_of_mem hz
      by_cases q : i = 0
      · subst q; omega
      · have := hrise 0 i hj hi (by omega); omega
  · have hk := h0 (j - 1) (by omega) (by omega)
    rw [bet_rank b] at hk
    refine Int.lt_of_le_of_lt ?_ hk
    have key : ∀ z ∈ its, z.1 ≤ its[j].1 - 1 → z.1 ≤ its[j - 1].1 := fun z hz hq => by
      obtain ⟨i, hi, rfl⟩ := List.getElem_of_mem hz
      by_cases q : i < j
      · by_cases q2 : i = j - 1
        · subst q2; exact Int.le_refl _
        · have := hrise i (j - 1) hi (by omega) (by omega); omega
      · by_cases q2 : i = j
        · subst q2; omega
        · have := hrise j i hj hi (by omega); omega
    have mono : ∀ ys : List (Int × Int), (∀ z ∈ ys, z ∈ its) → gsum (rankF (its[j].1 - 1)) ys ≤ gsum (rankF its[j - 1].1) ys := fun ys => by
      induction ys with
      | nil => intro _; exact Int.le_refl _
      | cons y r ih =>
        intro hy
        have h2 := ih (fun z hz => hy z (by simp [hz]))
        have h3 := key y (hy y (by simp))
        have h4 := hp y (hy y (by simp))
        simp only [gsum]
        unfold rankF at *
        split
        · rename_i q
          rw [if_pos (h3 q)]; omega
        · split <;> omega
    exact mono its (fun _ h => h)
end Nl
end Go.Proofs.YtlciofheonbkiaaGreat

namespace Go.Proofs.YtlciofheonbkiaaGreat
set_option maxHeartbeats 8000000
set_option maxRecDepth 100000
open Go.RowKit Nl
theorem q_cmp (x y : Int) (w : World) : Calls Tryz.prog 95 #[.int .i64 x, .int .i64 y] w fun e w' => e = .returned (.int .i64 (Lib.compareInt x y)) ∧ w' = w := by
  unfold Lib.compareInt
  by_cases h1 : x < y
  · have z1 : decide (x < y) = true := decide_eq_true h1
    rw [if_pos h1]
    go_enter Tryz.func95, Tryz.ntmps95
    go_wp2_with (go_at_call 157; go_in)
    go_ret
    exact ⟨rfl, rfl⟩
  · have z1 : decide (x < y) = false := decide_eq_false h1
    rw [if_neg h1]
    by_cases h2 : x > y
    · have z2 : decide (y < x) = true := decide_eq_true h2
      rw [if_pos h2]
      go_enter Tryz.func95, Tryz.ntmps95
      go_wp2_with (go_at_call 157; go_in)
      go_ret
      exact ⟨rfl, rfl⟩
    · have z2 : decide (y < x) = false := decide_eq_false h2
      rw [if_neg h2]
      go_enter Tryz.func95, Tryz.ntmps95
      go_wp2_with (go_at_call 157; go_in)
      go_ret
      exact ⟨rfl, rfl⟩
def encE (x : Int × Int) : List Value := [.int .i64 x.1, .int .i64 x.2]
theorem q_less1 (x y : Int × Int) (W : World) : Calls Tryz.prog 94 #[.agg #[.int .i64 x.1, .int .i64 x.2], .agg #[.int .i64 y.1, .int .i64 y.2]] W fun e w' => e = .returned (.int .i64 (Lib.compareInt x.1 y.1)) ∧ ∃ q os', w' = Sort.grow (W.drewN q) os' := by
  have hcon := hid (fun W' => q_cmp x.1 y.1 W')
  generalize Lib.compareInt x.1 y.1 = r at hcon ⊢
  go_enter Tryz.func94, Tryz.ntmps94
  go_wp2_with fail
  refine (hcon.out _).mono ?_
  rintro e w' ⟨rfl, rfl⟩
  go_wp2_with fail
  go_ret
  exact ⟨rfl, 0, _, by rw [Sort.alloc_eq_grow, Sort.alloc_eq_grow, Sort.grow_grow]; rfl⟩
theorem q_cmpLays (blk off size : Nat) (w : World) : CmpLays Tryz.prog 94 #[] encE 2 (fun x y => Lib.compareInt x.1 y.1) blk off size w :=
  fun _ _ _ _ x y => q_less1 x y _
theorem q_lt (x y : Int × Int) : ltOf (fun x y : Int × Int => Lib.compareInt x.1 y.1) x y = decide (x.1 < y.1) := by
  unfold ltOf Lib.compareInt
  by_cases h1 : x.1 < y.1
  · simp [h1]
  · by_cases h2 : y.1 < x.1 <;> simp [h1, h2]
theorem q_swo : Sort.SWO (ltOf fun x y : Int × Int => Lib.compareInt x.1 y.1) where
  irrefl x := by rw [q_lt]; simp
  trans x y z h1 h2 := by rw [q_lt] at *; simp at *; omega
  ntrans x y z h1 h2 := by rw [q_lt] at *; simp at *; omega
theorem sortW_below {α : Type} [Inhabited α] (enc : α → List Value) (k : Nat) (w : World) (blk off m : Nat) (dk : Array α) (os : Array Obj) (B : Nat) (hB : B ≤ blk) (hb : blk < w.heap.size) : Below B w (sortWorldK enc k w blk off m dk os) := by
  refine ⟨rfl, rfl, rfl, size_sortWorldK_c enc k w blk off m dk os, fun j hj => ?_⟩
  show ((w.heap.modify blk _) ++ os)[j]? = _
  rw [Array.getElem?_append_left (by simp; omega), Array.getElem?_modify, if_neg (by omega)]
def SortP (es : List Nd) (g B : Nat) (w : World) (e : Ending) (w' : World) : Prop :=
  ∃ ss : List Nd, e = .returned (.tuple #[]) ∧ ss.Perm es ∧ (∀ i j (hi : i < ss.length) (hj : j < ss.length), i < j → ss[i].1 ≤ ss[j].1) ∧
    (∀ i (hi : i < ss.length), w'.cell? ⟨g, i * 2, none⟩ = some (.int .i64 ss[i].1) ∧ w'.cell? ⟨g, i * 2 + 1, none⟩ = some (.int .i64 ss[i].2)) ∧ Below B w w'
theorem row_free' {w : World} {B : Nat} {T : TypeId} {z n m : Nat} {g cap : Nat} {cs : List Value} (h : w.ownsRow B T z (.slice (some ⟨g, 0, none⟩) m cap) n cs) (j : Nat) : w.frozen? ⟨g, j, none⟩ = false := by
  rcases h.2 with ⟨h1, h2⟩ | ⟨g', cap', cur, hv, hg, hh, h3, h4, h5, h6⟩
  · simp at h1
  · simp only [Value.slice.injEq, Option.some.injEq, Addr.mk.injEq, and_true] at hv
    obtain ⟨rfl, -⟩ := hv
    simp only [World.frozen?]
    rw [hh]
    simp
theorem q_sort {w : World} {g cap B : Nat} {es : List Nd} (ho : OwnE w B (.slice (some ⟨g, 0, none⟩) es.length cap) es) (hl : es.length ≤ 90000) :
    Calls Tryz.prog 93 #[.slice (some ⟨g, 0, none⟩) es.length cap, .func (.func 94) #[] #[]] w (SortP es g B w) := by
  have eg : ∀ args w, (callFunc 94 args).run Tryz.prog w = .ok (.enter 94 args) w := enters_of Tryz.func94 (by kernel_rfl) rfl
  obtain ⟨hB, hg⟩ := World.ownsRow.lt ho g rfl
  have hcell : ∀ i (hi : i < es.length) c, c < 2 → w.cell? ⟨g, i * 2 + c, none⟩ = some (encE es[i])[c]! := fun i hi c hc => by
    obtain ⟨c0, c1⟩ := ncells_get es i hi
    have e : es.getD i (0, 0) = es[i] := by simp [List.getD, hi]
    rw [e] at c0 c1
    rw [World.ownsRow.cellAt ho (i * 2 + c) (by omega)]
    match c, hc with
    | 0, _ => exact c0
    | 1, _ => exact c1
  have hH : Sort.HoldsK encE 2 w g 0 es.toArray := by
    intro j hj
    rw [Sort.size_flatK] at hj
    have hj' : j < es.length * 2 := by simpa using hj
    have hi : j / 2 < es.length := by omega
    rw [Sort.get_flatK _ _ _ _ hj]
    have e1 : es.toArray[j / 2]! = es[j / 2] := by simp [hi]
    rw [e1]
    have h := hcell (j / 2) hi (j % 2) (by omega)
    rw [show j / 2 * 2 + j % 2 = j by omega] at h
    rw [Nat.zero_add]
    exact ⟨h, row_free' ho j⟩
  have hcon := AnyQ.slices_SortFunc soLay 2 Tryz.isAgg151 Tryz.sizeOf151 encE (fun _ => rfl) (fun x v hv => by simp [encE] at hv; rcases hv with rfl | rfl <;> rfl) (fun x y => Lib.compareInt x.1 y.1) q_swo 94 #[] g 0 cap es.toArray w eg (q_cmpLays g 0 es.toArray.size w) hH hg (by simp; omega)
  have hz : es.toArray.size = es.length := by simp
  rw [hz] at hcon
  refine Calls.mono hcon ?_
  rintro e w' ⟨rfl, d', n, os, hp, hs, rfl⟩
  obtain ⟨hsz, -, hperm⟩ := hp
  have hds : d'.size = es.length := by rw [hsz]; simp
  have hH' := holdsK_sortWorldK_c encE 2 w g 0 es.toArray d' n os hH hg hsz
  have hget : ∀ i (hi : i < d'.toList.length), d'.toList[i] = d'[i]! := fun i hi => by
    have : i < d'.size := by simpa using hi
    simp [this]
  refine ⟨d'.toList, rfl, ?_, ?_, ?_, sortW_below encE 2 w g 0 n d' os B hB hg⟩
  · have h5 : (List.take es.length d'.toList).Perm es := by simpa using hperm
    rwa [List.take_of_length_le (by simp [hds])] at h5
  · intro i j hi hj hij
    have hj' : j < d'.size := by simpa using hj
    have h := hs i j (Nat.zero_le _) hij (by omega)
    rw [q_lt] at h
    rw [hget i hi, hget j hj]
    simpa using h
  · intro i hi
    have hi' : i < d'.size := by simpa using hi
    have h0 := (hH'.cell hi' (show 0 < 2 by omega)).1
    have h1 := (hH'.cell hi' (show 1 < 2 by omega)).1
    rw [hget i hi]
    simp only [Nat.zero_add, Nat.add_zero] at h0 h1
    exact ⟨h0, h1⟩
def ReachP (es : List Nd) (r : Int) (B : Nat) (w : World) (e : Ending) (w' : World) : Prop :=
  ∃ y, e = .returned (.int .i64 y) ∧ r ≤ gsum (rankF y) es ∧ gsum (rankF (y - 1)) es < r ∧ (∃ z ∈ es, z.1 = y) ∧ Below B w w'
def ReachRel (ss : List Nd) (r : Int) (n : Nat) (w2 : World) (gn : Nat) (rv i : Value) (wr : World) : Prop :=
  ∃ (j : Nat) (s : Int), i = .int .i64 j ∧ rv = .int .i64 (r - s) ∧ j < n ∧ n ≤ gn + j ∧ Hid (sumL (ss.take j) = s) ∧ s < r ∧ 0 ≤ s ∧ wr = w2
theorem q_reach {w : World} {B : Nat} {v : Value} {es : List Nd} {r : Int} (ho : OwnE w B v es) (hp : ∀ z ∈ es, 0 ≤ z.2) (r1 : 1 ≤ r) (r2 : r ≤ sumL es) (hs : sumL es ≤ 72057594037927935) (hl : es.length ≤ 90000) :
    Calls Tryz.prog 41 #[v, .int .i64 r] w (ReachP es r B w) := by
  rcases row_shape ho with ⟨-, h0⟩ | ⟨g, cap, rfl, hB, hg, -, -⟩
  · rw [List.length_eq_zero_iff.1 h0] at r2
    simp [sumL] at r2; omega
  have SO := hid (q_sort ho hl)
  have h0 : 0 < es.length := by
    cases es with
    | nil => simp [sumL] at r2; omega
    | cons x t => simp
  obtain ⟨n, en⟩ : ∃ n, es.length = n := ⟨_, rfl⟩
  have EL := hid en
  rw [en] at SO h0 hl ⊢
  clear ho en
  have HP := hid hp
  have HS := hid (And.intro r2 hs)
  have rb : r ≤ 72057594037927935 := by omega
  clear hp r2 hs
  go_enter Tryz.func41, Tryz.ntmps41
  go_wp2_with fail
  refine SO.out.mono ?_
  rintro e w2 ⟨ss, rfl, hperm, hrise, hcell, hb2⟩
  have hlen : ss.length = n := by rw [hperm.length_eq]; exact EL.out
  have hsum : sumL ss = sumL es := by
    have key : ∀ xs ys : List Nd, xs.Perm ys → sumL xs = sumL ys := fun xs ys h => by
      induction h with
      | nil => rfl
      | cons x _ ih => simp only [sumL, ih]
      | swap x y t => simp only [sumL]; omega
      | trans _ _ ih1 ih2 => rw [ih1, ih2]
    exact key _ _ hperm
  have hps : ∀ z ∈ ss, 0 ≤ z.2 := fun z hz => HP.out z (hperm.mem_iff.1 hz)
  have HC := hid hcell
  have HN := hid hlen
  have SP := hid (fun j (hj : j < ss.length) h1 h2 => reach_spec hperm hrise HP.out (r := r) (j := j) hj h1 h2)
  have ST := hid (show ∀ j (hj : j < ss.length), sumL (ss.take (j + 1)) = sumL (ss.take j) + ss[j].2 from fun j hj => by
    rw [List.take_succ_eq_append_getElem hj, sumL_append]; simp [sumL])
  have LE := hid (show sumL ss = sumL es ∧ r ≤ sumL es ∧ sumL es ≤ 72057594037927935 from ⟨hsum, HS.out.1, HS.out.2⟩)
  have PS := hid hps
  have RR : Hid (ReachRel ss r n w2 n (.int .i64 r) (.int .i64 (0 : Nat)) w2) := ⟨0, 0, rfl, by simp, h0, by omega, rfl, by omega, Int.le_refl _, rfl⟩
  clear hperm hrise hcell hlen hsum hps SO HS
  go_wp2_with fail
  go_loopg [1, 5] n (fun gn rv i wr => ReachRel ss r n w2 gn rv i wr)
  case atStart => exact RR.out
  case round =>
    clear RR
    obtain ⟨j, s, rfl, rfl, hj, hgn, hsj, hsr, hs0, rfl⟩ := hrel
    have hj' : j < ss.length := by rw [HN.out]; exact hj
    obtain ⟨q0, q1⟩ := HC.out j hj'
    have st := ST.out j hj'
    rw [hsj.out] at st
    have hc0 : 0 ≤ ss[j].2 := PS.out _ (List.getElem_mem _)
    have sp := SP.out j hj'
    have mono : sumL (ss.take (j + 1)) ≤ sumL ss := by
      have e := congrArg sumL (List.take_append_drop (j + 1) ss)
      rw [sumL_append] at e
      have := sumL_nonneg (xs := ss.drop (j + 1)) (fun z hz => PS.out z (List.mem_of_mem_drop hz))
      omega
    obtain ⟨le1, le2, le3⟩ := LE.out
    rw [hsj.out] at sp
    have hmem := List.getElem_mem hj'
    obtain ⟨y, ey⟩ : ∃ y, ss[j].1 = y := ⟨_, rfl⟩
    obtain ⟨c, ec⟩ : ∃ c, ss[j].2 = c := ⟨_, rfl⟩
    obtain ⟨T, eT⟩ : ∃ T, sumL (ss.take (j + 1)) = T := ⟨_, rfl⟩
    rw [ey] at q0 sp
    rw [ec] at q1 st hc0
    rw [eT] at st sp mono
    have hcm : c ≤ 72057594037927935 := by omega
    have LAST : Hid (T < r → j + 1 < n) := fun h => by
      refine Nat.lt_of_not_le fun q => ?_
      have : ss.length ≤ j + 1 := by rw [HN.out]; exact q
      rw [List.take_of_length_le this] at eT
      omega
    have ET := hid eT
    have EY := hid ey
    by_cases hlt : c < r - s
    · have z1 : decide (c < r - s) = true := decide_eq_true hlt
      have hw1 : IntKind.i64.wrap (r - s - c) = r - s - c := IntWalk.i64_in _ ⟨by omega, by omega⟩
      have R9 : Hid (∀ i rv, i = Value.int .i64 ((j : Nat) + 1 : Int) → rv = Value.int .i64 (r - s - c) → ReachRel ss r n wr (n - (j + 1)) rv i wr) := by
        intro i rv hi hrv
        exact ⟨j + 1, T, by rw [hi]; simp, by rw [hrv, st]; congr 1; omega, LAST.out (by omega), by omega, ET.out, by omega, by omega, rfl⟩
      clear sp st mono le1 le2 le3 hmem ey ec eT LAST ET EY hsj
      go_wp2_with fail
      go_roundg (n - (j + 1))
      case rel => exact R9.out _ _ (by go_num) (by first | rfl | (congr 1; omega))
      case measure => omega
    · have z1 : decide (c < r - s) = false := decide_eq_false hlt
      obtain ⟨p1, p2, -⟩ := sp hsr (by omega)
      have hm : ∃ z ∈ es, z.1 = y := ⟨ss[j], (SP.out j hj' (by rw [hsj.out]; exact hsr) (by rw [ET.out]; omega)).2.2, EY.out⟩
      have PP : Hid (ReachP es r B w (.returned (.int .i64 y)) wr) := ⟨y, rfl, p1, p2, hm, hb2⟩
      clear sp st mono le1 le2 le3 hmem ey ec eT LAST ET EY hsj p1 p2 hm
      go_wp2_with fail
      go_ret
      exact PP.out
end Go.Proofs.YtlciofheonbkiaaGreat
