/- Texts laid together. -/
import Derived.Test.YtdnlejboijkcfaaGreatDoorP15
import Derived.Test.YtdnlejboijkcfaaGreatDoorP02
import Derived.Laws.Bits64b
/- A crowd of digests, and the bags of what they stand for (no program in sight). -/
namespace Go.Proofs.YtdnlejboijkcfaaGreatDoor
open Go.RowKit Nl
namespace Nl
def ancL (l : Int) (X : List Int) : List Int := X.flatMap fun x => (List.range (l.toNat + 1)).map fun j => (2 ^ l.toNat + x) / 2 ^ j
theorem anc_mem {l i : Int} {X : List Int} : i ∈ ancL l X ↔ ∃ x ∈ X, ∃ j, j ≤ l.toNat ∧ (2 ^ l.toNat + x) / 2 ^ j = i := by
  unfold ancL
  simp only [List.mem_flatMap, List.mem_map, List.mem_range]
  constructor
  · rintro ⟨x, hx, j, hj, e⟩; exact ⟨x, hx, j, by omega, e⟩
  · rintro ⟨x, hx, j, hj, e⟩; exact ⟨x, hx, j, by omega, e⟩
theorem anc_mono {l i : Int} {X Y : List Int} (h : ∀ x ∈ X, x ∈ Y) (hi : i ∈ ancL l X) : i ∈ ancL l Y := by
  obtain ⟨x, hx, j, hj, e⟩ := anc_mem.1 hi
  exact anc_mem.2 ⟨x, h x hx, j, hj, e⟩
theorem anc_up {l i p : Int} {X : List Int} (hX : ∀ x ∈ X, leafB l x = true) (hi : i ∈ ancL l X) (h2 : 2 ≤ i) (hp : i / 2 = p) : p ∈ ancL l X := by
  obtain ⟨x, hx, j, hj, e⟩ := anc_mem.1 hi
  have hb := hX x hx
  simp only [leafB, decide_eq_true_eq] at hb
  obtain ⟨b1, b2, b3, b4⟩ := hb
  by_cases hjl : j = l.toNat
  · exfalso
    subst hjl
    have hp0 : (0 : Int) < 2 ^ l.toNat := Int.pow_pos (by omega)
    have : (2 ^ l.toNat + x) / 2 ^ l.toNat < 2 := Int.ediv_lt_of_lt_mul hp0 (by omega)
    omega
  · refine anc_mem.2 ⟨x, hx, j + 1, by omega, ?_⟩
    rw [← hp, ← e, Int.pow_succ, Int.ediv_ediv_of_nonneg (Int.le_of_lt (Int.pow_pos (by omega)))]
def outF (A : List Int) (i c : Int) : Int := if i ∈ A then 0 else c
theorem out_add (A : List Int) (i a b : Int) : outF A i (a + b) = outF A i a + outF A i b := by unfold outF; split <;> omega
theorem out_nn {A : List Int} {i c : Int} (h : 0 ≤ c) : 0 ≤ outF A i c := by unfold outF; split <;> omega
theorem out_all {A : List Int} {zs : List (Int × Int)} (h : ∀ z ∈ zs, z.1 ∈ A) : gsum (outF A) zs = 0 := by
  induction zs with
  | nil => rfl
  | cons z r ih =>
    simp only [gsum]
    rw [ih (fun y hy => h y (by simp [hy]))]
    unfold outF
    rw [if_pos (h z (by simp))]; rfl
theorem all_out {A : List Int} {zs : List (Int × Int)} (hp : ∀ z ∈ zs, 0 < z.2) (h : gsum (outF A) zs = 0) : ∀ z ∈ zs, z.1 ∈ A := by
  induction zs with
  | nil => intro z hz; cases hz
  | cons y r ih =>
    simp only [gsum] at h
    have h1 : 0 ≤ outF A y.1 y.2 := out_nn (by have := hp y (by simp); omega)
    have h2 : 0 ≤ gsum (outF A) r := gsum_zero (fun x hx => out_nn (by have := hp x (by simp [hx]); omega))
    intro z hz
    rcases List.mem_cons.1 hz with rfl | hz
    · by_cases hm : z.1 ∈ A
      · exact hm
      · exfalso
        have : outF A z.1 z.2 = z.2 := by unfold outF; rw [if_neg hm]
        have := hp z (by simp)
        omega
    · exact ih (fun x hx => hp x (by simp [hx])) (by omega) z hz
theorem sub_run {l most : Int} {zs : List (Int × Int)} {X : List Int} (hX : ∀ x ∈ X, leafB l x = true) (r : Roll l zs) (h : ∀ z ∈ zs, z.1 ∈ ancL l X) : ∀ z ∈ (runR l most zs).1, z.1 ∈ ancL l X := by
  have key := run_keeps (l := l) (most := most) (fun ys => gsum (outF (ancL l X)) ys = 0) (fun ys p r' q hp => by
    have hk := ready_kids hp
    have e1 := gsum_fold (f := outF (ancL l X)) (fun i => by unfold outF; split <;> rfl) r' hk
    obtain ⟨k1, k2⟩ := kids_bound hk
    have f0 := r'.find p
    have f1 := r'.find (2 * p)
    have f2 := r'.find (2 * p + 1)
    have ea : allV l ys p = findL (2 * p) ys + findL (2 * p + 1) ys + findL p ys := by unfold allV; rw [hk]; rfl
    rw [ea, q] at e1
    have hin := all_out (fun z hz => (r'.strict.2 z hz).2) q
    have hpos : ∀ i, findL i ys ≠ 0 → i ∈ ancL l X := fun i hi => hin _ (find_in hi)
    have hpA : p ∈ ancL l X ∨ (findL (2 * p) ys = 0 ∧ findL (2 * p + 1) ys = 0) := by
      by_cases q1 : findL (2 * p) ys = 0
      · by_cases q2 : findL (2 * p + 1) ys = 0
        · exact .inr ⟨q1, q2⟩
        · exact .inl (anc_up hX (hpos _ q2) (by omega) (by omega))
      · exact .inl (anc_up hX (hpos _ q1) (by omega) (by omega))
    have hnn : 0 ≤ gsum (outF (ancL l X)) (foldDo l ys p).1 := gsum_zero (fun z hz => out_nn (by have := (fold_facts r' p).1.strict.2 z hz; omega))
    have n1 : 0 ≤ outF (ancL l X) (2 * p) (findL (2 * p) ys) := out_nn f1.1
    have n2 : 0 ≤ outF (ancL l X) (2 * p + 1) (findL (2 * p + 1) ys) := out_nn f2.1
    have n3 : 0 ≤ outF (ancL l X) p (findL p ys) := out_nn f0.1
    rcases hpA with hpA | ⟨q1, q2⟩
    · have e0 : ∀ c, outF (ancL l X) p c = 0 := fun c => by unfold outF; rw [if_pos hpA]
      rw [e0, e0] at e1
      show gsum (outF (ancL l X)) (foldDo l ys p).1 = 0
      omega
    · rw [q1, q2] at e1
      have e0 : ∀ i, outF (ancL l X) i 0 = 0 := fun i => by unfold outF; split <;> rfl
      rw [e0, e0] at e1
      have : (0 : Int) + 0 + findL p ys = findL p ys := by omega
      rw [this] at e1
      show gsum (outF (ancL l X)) (foldDo l ys p).1 = 0
      omega) _ zs r (out_all h) nlr
  exact all_out (fun z hz => (key.1.strict.2 z hz).2) key.2.1
structure TI (l k : Int) (zs its : List (Int × Int)) (X : List Int) : Prop where
  dg : Dg l k zs
  bag : Bag l its
  sum : sumL its = sumL zs
  rk : Ranks l zs its
  leafs : ∀ x ∈ X, leafB l x = true
  sub : ∀ z ∈ zs, z.1 ∈ ancL l X
  vals : ∀ y ∈ its, y.1 ∈ X
theorem TI.nil {l k : Int} {X : List Int} (d : Dg l k []) (h : ∀ x ∈ X, leafB l x = true) : TI l k [] [] X := ⟨d, Bag.nil l, rfl, Ranks.nil l, h, fun _ h => (by cases h), fun _ h => (by cases h)⟩
theorem TI.mono {l k : Int} {zs its : List (Int × Int)} {X Y : List Int} (t : TI l k zs its X) (h : ∀ x ∈ X, x ∈ Y) (hY : ∀ x ∈ Y, leafB l x = true) : TI l k zs its Y :=
  ⟨t.dg, t.bag, t.sum, t.rk, hY, fun z hz => anc_mono h (t.sub z hz), fun y hy => h _ (t.vals y hy)⟩
theorem TI.com {l k : Int} {zs its : List (Int × Int)} {X : List Int} (t : TI l k zs its X) : TI l k (comL l k zs).1 its X := by
  obtain ⟨c1, c2, _⟩ := t.dg.com
  exact ⟨c1, t.bag, by rw [c2]; exact t.sum, t.rk.run t.dg.roll, t.leafs, sub_run t.leafs t.dg.roll t.sub, t.vals⟩
theorem TI.low {l k k' : Int} {zs its : List (Int × Int)} {X : List Int} (t : TI l k zs its X) (h1 : 1 ≤ k') (h2 : k' ≤ k) : TI l k' (lowL l k' zs) its X := by
  obtain ⟨c1, c2, _⟩ := low_spec t.dg h1 h2
  exact ⟨c1, t.bag, by rw [c2]; exact t.sum, t.rk.run t.dg.roll, t.leafs, sub_run t.leafs t.dg.roll t.sub, t.vals⟩
theorem putR_in {x c : Int} {its : List (Int × Int)} {X : List Int} (hx : x ∈ X) (h : ∀ y ∈ its, y.1 ∈ X) : ∀ y ∈ putR x c its, y.1 ∈ X := fun y hy => by
  rcases putR_mem y hy with ⟨e, -⟩ | h'
  · rw [e]; exact hx
  · exact h y h'
theorem rank_add (y a b c : Int) : rankF y a (b + c) = rankF y a b + rankF y a c := by unfold rankF; split <;> omega
theorem TI.ins {l k : Int} {zs its : List (Int × Int)} {X : List Int} (t : TI l k zs its X) (x wt : Int) :
    (dgIns l k zs x wt).2 = (badd l its x wt).2 ∧ ∃ Y : List Int, Y.length ≤ X.length + 1 ∧ (∀ z ∈ X, z ∈ Y) ∧ (∀ z ∈ Y, leafB l z = true) ∧ TI l k (dgIns l k zs x wt).1 (badd l its x wt).1 Y := by
  have hs := t.sum
  unfold dgIns badd
  by_cases h1 : leafB l x = false
  · rw [if_pos h1, if_pos h1]; exact ⟨rfl, X, by omega, fun _ h => h, t.leafs, t⟩
  rw [if_neg h1, if_neg h1]
  by_cases h2 : wt < 1
  · rw [if_pos h2, if_pos h2]; exact ⟨rfl, X, by omega, fun _ h => h, t.leafs, t⟩
  rw [if_neg h2, if_neg h2]
  by_cases h3 : 72057594037927935 - sumL zs < wt
  · rw [if_pos h3, if_pos (by omega)]; exact ⟨rfl, X, by omega, fun _ h => h, t.leafs, t⟩
  rw [if_neg h3, if_neg (show ¬ 72057594037927935 - sumL its < wt by omega)]
  refine ⟨rfl, x :: X, by simp, fun z hz => List.mem_cons_of_mem _ hz, ?_, ?_⟩
  · intro z hz
    rcases List.mem_cons.1 hz with rfl | hz
    · simpa using h1
    · exact t.leafs z hz
  · have hx : leafB l x = true := by simpa using h1
    have hY : ∀ z ∈ x :: X, leafB l z = true := fun z hz => by
      rcases List.mem_cons.1 hz with rfl | hz
      · exact hx
      · exact t.leafs z hz
    have t' := t.mono (Y := x :: X) (fun z hz => List.mem_cons_of_mem _ hz) hY
    have hd := t.dg.ins x wt
    unfold dgIns at hd
    rw [if_neg h1, if_neg h2, if_neg h3] at hd
    obtain ⟨d1, -, d3, -⟩ := hd
    obtain ⟨-, d4, d5, d6⟩ := d3 rfl
    obtain ⟨b1, b2, b3, b4, b5⟩ := leaf_bd hx
    have hi : ∀ y, gsum (rankF y) (putR x wt its) = gsum (rankF y) its + rankF y x wt := fun y => putR_gsum (fun a => rank_add y x a wt) its
    have hlA : leafV l x ∈ ancL l (x :: X) := anc_mem.2 ⟨x, by simp, 0, Nat.zero_le _, by rw [Int.pow_zero, Int.ediv_one, b5]⟩
    have key : ∀ ys : List (Int × Int), TI l k ys its (x :: X) → Ranks l (addS ys (leafV l x) wt) (putR x wt its) ∧ ∀ z ∈ addS ys (leafV l x) wt, z.1 ∈ ancL l (x :: X) := fun ys ty => by
      refine ⟨ty.rk.leaf ty.dg.roll hx (by omega) hi, ?_⟩
      have e := gsum_addS (f := outF (ancL l (x :: X))) (fun i => by unfold outF; split <;> rfl) ty.dg.roll.strict (id := leafV l x) (c := wt) (by omega)
      have e0 : ∀ c, outF (ancL l (x :: X)) (leafV l x) c = 0 := fun c => by unfold outF; rw [if_pos hlA]
      rw [e0, e0, out_all ty.sub] at e
      obtain ⟨s1, s2⟩ := addS_spec ty.dg.roll.strict b3 (c := wt) (by omega)
      exact all_out (fun z hz => (s1.2 z hz).2) (by omega)
    have hb := t.bag.put hx (c := wt) (by omega) (by omega)
    have hv := putR_in (x := x) (c := wt) (X := x :: X) (by simp) t'.vals
    cases hf : fullB k zs (leafV l x)
    · rw [hf] at d1 d6
      simp only [Bool.false_eq_true, if_false] at d1 d6 ⊢
      obtain ⟨k1, k2⟩ := key zs t'
      exact ⟨d1, hb, by rw [putR_sum]; omega, k1, hY, k2, hv⟩
    · rw [hf] at d1 d6
      simp only [if_true] at d1 d6 ⊢
      obtain ⟨k1, k2⟩ := key _ t'.com
      exact ⟨d1, hb, by rw [putR_sum]; omega, k1, hY, k2, hv⟩
def pourR (its ys : List (Int × Int)) : List (Int × Int) := ys.foldl (fun a y => putR y.1 y.2 a) its
theorem pour_spec {l : Int} : ∀ (ys its : List (Int × Int)), Bag l its → (∀ y ∈ ys, leafB l y.1 = true ∧ 1 ≤ y.2) → sumL its + sumL ys ≤ 72057594037927935 →
    Bag l (pourR its ys) ∧ sumL (pourR its ys) = sumL its + sumL ys ∧ (∀ y, gsum (rankF y) (pourR its ys) = gsum (rankF y) its + gsum (rankF y) ys) ∧ ∀ X : List Int, (∀ y ∈ its, y.1 ∈ X) → (∀ y ∈ ys, y.1 ∈ X) → ∀ y ∈ pourR its ys, y.1 ∈ X
  | [], its, hb, _, _ => ⟨hb, by simp [pourR, sumL], fun y => by simp [pourR, gsum], fun X h _ => h⟩
  | z :: r, its, hb, hy, hs => by
    have hz := hy z (by simp)
    have hpr : 0 ≤ sumL r := sumL_nonneg (fun y h => by have := (hy y (by simp [h])).2; omega)
    simp only [sumL] at hs
    have hb2 := hb.put hz.1 hz.2 (by omega)
    obtain ⟨p1, p2, p3, p4⟩ := pour_spec r (putR z.1 z.2 its) hb2 (fun y h => hy y (by simp [h])) (by rw [putR_sum]; omega)
    refine ⟨p1, ?_, fun y => ?_, fun X h1 h2 => ?_⟩
    · show sumL (pourR (putR z.1 z.2 its) r) = _
      rw [p2, putR_sum]; simp only [sumL]; omega
    · show gsum (rankF y) (pourR (putR z.1 z.2 its) r) = _
      rw [p3, putR_gsum (fun a => rank_add y z.1 a z.2)]
      simp only [gsum]; omega
    · exact p4 X (putR_in (h2 z (by simp)) h1) (fun y h => h2 y (by simp [h]))
theorem TI.merge {l K K' k : Int} {zs zs' its its' : List (Int × Int)} {X : List Int} (t : TI l K zs its X) (t' : TI l K' zs' its' X) (h1 : 1 ≤ k) (h2 : k ≤ K) (h3 : k ≤ K') (hs : sumL zs + sumL zs' ≤ 72057594037927935) :
    TI l k (mergeL l k zs zs') (pourR its its') X := by
  obtain ⟨a1, a2, a3, a4, a5⟩ := merge_spec t.dg t'.dg h1 h2 h3 hs
  have e1 := t.sum
  have e2 := t'.sum
  obtain ⟨p1, p2, p3, p4⟩ := pour_spec (l := l) its' its t.bag (fun y hy => ⟨t'.bag.val y hy, t'.bag.pos y hy⟩) (by omega)
  have u := t.low h1 h2
  have u' := t'.low h1 h3
  refine ⟨a1, p1, by rw [p2, a2]; omega, fun x => ?_, t.leafs, ?_, p4 X t.vals t'.vals⟩
  · rw [p3, a5 (lowF l x) (fun i a b => by unfold lowF; split <;> omega), a5 (highF l x) (fun i a b => by unfold highF; split <;> omega)]
    have r1 := u.rk x
    have r2 := u'.rk x
    omega
  · refine all_out (fun z hz => (a1.roll.strict.2 z hz).2) ?_
    rw [a5 (outF (ancL l X)) (fun i a b => out_add _ i a b), out_all u.sub, out_all u'.sub]; rfl
theorem TI.stands {l k : Int} {zs its : List (Int × Int)} {X : List Int} (t : TI l k zs its X) (y : Int) :
    gsum (lowF l y) zs ≤ betV 0 y its ∧ betV 0 y its ≤ gsum (highF l y) zs ∧ gsum (highF l y) zs - gsum (lowF l y) zs ≤ l * (sumL its / k) := by
  have e : betV 0 y its = gsum (rankF y) its := by
    unfold betV
    refine gsum_congr (fun z hz => ?_)
    have hv := t.bag.val z hz
    simp only [leafB, decide_eq_true_eq] at hv
    unfold betF rankF
    by_cases q : z.1 ≤ y
    · rw [if_pos ⟨hv.2.2.1, q⟩, if_pos q]
    · rw [if_neg (fun h => q h.2), if_neg q]
  rw [e]
  obtain ⟨s1, s2⟩ := t.rk y
  refine ⟨s1, s2, ?_⟩
  rw [high_over l y zs (fun z hz => ends_le (t.dg.roll.ids z hz))]
  have h := over_sum (x := y) t.dg.roll (cap_nn _ _) t.dg.light
  have hc : capV (sumL zs) k = sumL its / k := by
    have h0 := sumL_nonneg t.dg.roll.strict.pos
    have hk := t.dg.k1
    unfold capV
    rw [if_neg (by omega), t.sum]
  rw [hc, Int.mul_comm] at h
  omega
end Nl
end Go.Proofs.YtdnlejboijkcfaaGreatDoor

/- Sets of sensors, as bits of a number. -/
namespace Go.Proofs.YtdnlejboijkcfaaGreatDoor
set_option maxHeartbeats 8000000
set_option maxRecDepth 100000
open Go.RowKit
def Rt (v : Value) (w : World) (e : Ending) (w' : World) : Prop := e = .returned v ∧ w = w'
namespace Tb
theorem nodup_bd : ∀ {n : Nat} {ys : List Nat}, ys.Nodup → (∀ x ∈ ys, x < n) → ys.length ≤ n
  | 0, [], _, _ => nlr
  | 0, x :: r, _, h => absurd (h x (by simp)) (Nat.not_lt_zero _)
  | n + 1, ys, hn, h => by
    have h1 := nodup_bd (n := n) (hn.erase n) (fun x hx => by
      have hx := hn.mem_erase_iff.1 hx
      have := h x hx.2
      have := hx.1
      omega)
    have h2 := List.length_erase (a := n) (l := ys)
    split at h2 <;> omega
theorem pow_cast (i : Nat) : (2 : Int) ^ i = ((2 ^ i : Nat) : Int) := by simp
theorem pw48 {i : Nat} (h : i < 48) : 2 ^ i ≤ 140737488355328 := Nat.pow_le_pow_right (n := 2) (by decide) (show i ≤ 47 by omega)
theorem wrap_pow {i : Nat} (h : i < 48) : IntKind.u64.wrap ((2 : Int) ^ i) = ((2 ^ i : Nat) : Int) := by
  have := pw48 h
  rw [IntKind.wrap_u64, pow_cast]
  generalize (2 ^ i : Nat) = q at *
  omega
theorem two48 : (2 : Nat) ^ 48 = 281474976710656 := by decide
theorem has_bits {s i : Nat} (hs : s < 2 ^ 48) : (bits BinOp.and IntKind.u64 ((s : Int) / 2 ^ i) 1 == 1) = s.testBit i := by
  rw [two48] at hs
  have h0 : ((s : Int) / 2 ^ i) = ((s / 2 ^ i : Nat) : Int) := by rw [pow_cast]; rfl
  have h1 : s / 2 ^ i ≤ s := Nat.div_le_self _ _
  rw [h0, show (1 : Int) = ((1 : Nat) : Int) from rfl, bits_and_u64_nat _ _ (by omega) (by decide), Nat.and_one_is_mod, Nat.testBit_eq_decide_div_mod_eq]
  generalize s / 2 ^ i = q
  by_cases h : q % 2 = 1
  · simp [h]
  · have : q % 2 = 0 := by omega
    simp [this]
theorem or_bits {s t : Nat} (hs : s < 2 ^ 48) (ht : t < 2 ^ 48) : bits BinOp.or IntKind.u64 (s : Int) (t : Int) = ((s ||| t : Nat) : Int) := by
  rw [two48] at hs ht
  exact bits_or_u64_nat _ _ (by omega) (by omega)
theorem and_bits {s t : Nat} (hs : s < 2 ^ 48) (ht : t < 2 ^ 48) : bits BinOp.and IntKind.u64 (s : Int) (t : Int) = ((s &&& t : Nat) : Int) := by
  rw [two48] at hs ht
  exact bits_and_u64_nat _ _ (by omega) (by omega)
theorem not_bits {s t : Nat} (h : ∀ j, s.testBit j = true → t.testBit j = true) : bits BinOp.andNot IntKind.u64 (s : Int) (t : Int) = 0 := by
  have e : (BitVec.ofInt 64 (s : Int) &&& ~~~ BitVec.ofInt 64 (t : Int)) = 0#64 := by
    rw [BitVec.ofInt_natCast, BitVec.ofInt_natCast]
    apply BitVec.eq_of_getLsbD_eq
    intro j hj
    simp only [BitVec.getLsbD_and, BitVec.getLsbD_not, BitVec.getLsbD_ofNat]
    cases q : s.testBit j
    · simp
    · rw [h j q]; simp
  show IntKind.u64.wrap ((BitVec.ofInt 64 (s : Int) &&& ~~~ BitVec.ofInt 64 (t : Int)).toNat : Int) = 0
  rw [e]; rfl
theorem pow48lt {i : Nat} (h : i < 48) : 2 ^ i < 2 ^ 48 := by rw [two48]; have := pw48 h; omega
end Tb
open Tb
theorem cw_is (i : Nat) (w : World) (hi : i < 48) : Calls Tryz.prog 175 #[.int .i64 i] w (Rt (.bool true) w) := by
  go_enter Tryz.func175, Tryz.ntmps175
  go_wp2_with fail
  go_ret
  exact ⟨by simp; omega, rfl⟩
theorem cw_one (i : Nat) (w : World) (hi : i < 48) : Calls Tryz.prog 138 #[.int .i64 i] w (Rt (.int .u64 (2 ^ i : Nat)) w) := by
  have I := hid (cw_is i w hi)
  have E := hid (wrap_pow hi)
  go_enter Tryz.func138, Tryz.ntmps138
  go_wp2_with fail
  refine I.out.mono ?_
  rintro e w2 ⟨rfl, rfl⟩
  go_wp2_with fail
  go_ret
  exact ⟨congrArg (fun x => Ending.returned (Value.int .u64 x)) E.out, rfl⟩
theorem cw_has (s i : Nat) (w : World) (hs : s < 2 ^ 48) (hi : i < 48) : Calls Tryz.prog 137 #[.int .u64 s, .int .i64 i] w (Rt (.bool (s.testBit i)) w) := by
  have I := hid (cw_is i w hi)
  have E := hid (has_bits (i := i) hs)
  go_enter Tryz.func137, Tryz.ntmps137
  go_wp2_with fail
  refine I.out.mono ?_
  rintro e w2 ⟨rfl, rfl⟩
  go_wp2_with fail
  go_ret
  exact ⟨congrArg (fun x => Ending.returned (Value.bool x)) E.out, rfl⟩
theorem cw_with (s i : Nat) (w : World) (hs : s < 2 ^ 48) (hi : i < 48) : Calls Tryz.prog 82 #[.int .u64 s, .int .i64 i] w (Rt (.int .u64 (s ||| 2 ^ i : Nat)) w) := by
  have I := hid (cw_one i w hi)
  have E := hid (or_bits hs (pow48lt hi))
  go_enter Tryz.func82, Tryz.ntmps82
  go_wp2_with fail
  refine I.out.mono ?_
  rintro e w2 ⟨rfl, rfl⟩
  go_wp2_with fail
  go_ret
  exact ⟨congrArg (fun x => Ending.returned (Value.int .u64 x)) E.out, rfl⟩
theorem cw_right (s : Nat) (w : World) (hs : s < 2 ^ 48) : Calls Tryz.prog 136 #[.int .u64 s] w (Rt (.bool true) w) := by
  have E : Hid (decide ((s : Int) ≤ 281474976710655) = true) := decide_eq_true (by rw [two48] at hs; omega)
  go_enter Tryz.func136, Tryz.ntmps136
  go_wp2_with fail
  go_ret
  exact ⟨congrArg (fun x => Ending.returned (Value.bool x)) E.out, rfl⟩
theorem cw_within (s t : Nat) (w : World) (h : ∀ j, s.testBit j = true → t.testBit j = true) : Calls Tryz.prog 147 #[.int .u64 s, .int .u64 t] w (Rt (.bool true) w) := by
  have E := hid (not_bits h)
  clear h
  go_enter Tryz.func147, Tryz.ntmps147
  go_wp2_with fail
  go_ret
  exact ⟨congrArg (fun x : Int => Ending.returned (Value.bool (x == 0))) E.out, rfl⟩
theorem cw_apart (s t : Nat) (w : World) (hs : s < 2 ^ 48) (ht : t < 2 ^ 48) (h : s &&& t = 0) : Calls Tryz.prog 148 #[.int .u64 s, .int .u64 t] w (Rt (.bool true) w) := by
  have E := hid (and_bits hs ht)
  rw [h] at E
  go_enter Tryz.func148, Tryz.ntmps148
  go_wp2_with fail
  go_ret
  exact ⟨congrArg (fun x : Int => Ending.returned (Value.bool (x == 0))) E.out, rfl⟩
theorem cw_of {w : World} {B i : Nat} {T : TypeId} (hi : i < 48) (X : Blk w B #[.int .i64 i] T) : Calls Tryz.prog 135 #[.slice (some ⟨B, 0, none⟩) 1 1] w (Rt (.tuple #[.int .u64 (2 ^ i : Nat), .bool true]) w) := by
  have q0 : w.cell? ⟨B, 0, none⟩ = some (.int .i64 i) := X.cell 0
  have I := hid (cw_is i w hi)
  have W2 := hid (cw_with 0 i w (by decide) hi)
  rw [Nat.zero_or] at W2
  clear X
  go_enter Tryz.func135, Tryz.ntmps135
  go_wp2_with fail
  go_loopg [4, 9] 1 (fun gn b k wr => wr = w ∧ ((gn = 1 ∧ k = .int .i64 0 ∧ b = .int .u64 0) ∨ (k = .int .i64 1 ∧ b = .int .u64 (2 ^ i : Nat))))
  case atStart => exact ⟨rfl, .inl ⟨rfl, rfl, rfl⟩⟩
  case round =>
    obtain ⟨rfl, ⟨rfl, rfl, rfl⟩ | ⟨rfl, rfl⟩⟩ := hrel
    · go_wp2_with fail
      refine I.out.mono ?_
      rintro e w2 ⟨rfl, rfl⟩
      go_wp2_with fail
      refine W2.out.mono ?_
      rintro e w2 ⟨rfl, rfl⟩
      go_wp2_with fail
      go_roundg 0
      case rel => exact ⟨rfl, .inr ⟨rfl, rfl⟩⟩
      case measure => omega
    · go_wp2_with fail
      go_ret2
      exact ⟨rfl, rfl⟩
theorem cw_union {w : World} {B s t : Nat} {T : TypeId} (hs : s < 2 ^ 48) (ht : t < 2 ^ 48) (X : Blk w B #[.int .u64 s, .int .u64 t] T) : Calls Tryz.prog 96 #[.slice (some ⟨B, 0, none⟩) 2 2] w (Rt (.int .u64 (s ||| t : Nat)) w) := by
  have q0 : w.cell? ⟨B, 0, none⟩ = some (.int .u64 s) := X.cell 0
  have q1 : w.cell? ⟨B, 1, none⟩ = some (.int .u64 t) := X.cell 1
  have E := hid (or_bits hs ht)
  have E0 := hid (or_bits (s := 0) (by decide) hs)
  rw [Nat.zero_or] at E0
  clear X
  go_enter Tryz.func96, Tryz.ntmps96
  go_wp2_with fail
  go_loopg [3, 8] 2 (fun gn b k wr => wr = w ∧ ((gn = 2 ∧ k = .int .i64 0 ∧ b = .int .u64 0) ∨ (gn = 1 ∧ k = .int .i64 1 ∧ b = .int .u64 s) ∨ (k = .int .i64 2 ∧ b = .int .u64 (s ||| t : Nat))))
  case atStart => exact ⟨rfl, .inl ⟨rfl, rfl, rfl⟩⟩
  case round =>
    obtain ⟨rfl, ⟨rfl, rfl, rfl⟩ | ⟨rfl, rfl, rfl⟩ | ⟨rfl, rfl⟩⟩ := hrel
    · go_wp2_with fail
      go_roundg 1
      case rel => exact ⟨rfl, .inr (.inl ⟨rfl, rfl, congrArg (Value.int .u64) E0.out⟩)⟩
      case measure => omega
    · go_wp2_with fail
      go_roundg 0
      case rel => exact ⟨rfl, .inr (.inr ⟨rfl, congrArg (Value.int .u64) E.out⟩)⟩
      case measure => omega
    · go_wp2_with fail
      go_ret
      exact ⟨rfl, rfl⟩
end Go.Proofs.YtdnlejboijkcfaaGreatDoor
