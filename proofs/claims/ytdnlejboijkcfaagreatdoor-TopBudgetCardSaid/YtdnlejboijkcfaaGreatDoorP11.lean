/- Texts laid together. -/
import Derived.Test.YtdnlejboijkcfaaGreatDoorP09
import Derived.Test.YtdnlejboijkcfaaGreatDoorP10
import Derived.Laws.BitsAllLaws
/- Texts laid together: Fold7, Fold8, Pr8, DgMath, DgTwig. -/
/- The walks of the reference's Do, and of its Same of ints. -/
namespace Go.Proofs.YtdnlejboijkcfaaGreatDoor
set_option maxHeartbeats 8000000
set_option maxRecDepth 100000
open Go.RowKit Nl
def FrV (v v' : Value) (B : Nat) : Prop := v' = v ∨ ∀ k, v'.ownBlock = some k → B ≤ k
def NotIn (v : Value) (xs : List Nd) (g : Nat) : Prop := xs = [] ∨ ∀ k, v.ownBlock = some k → k ≠ g
end Go.Proofs.YtdnlejboijkcfaaGreatDoor
/- The walk of FoldDoes. -/
namespace Go.Proofs.YtdnlejboijkcfaaGreatDoor
set_option maxHeartbeats 8000000
set_option maxRecDepth 100000
open Go.RowKit Nl
end Go.Proofs.YtdnlejboijkcfaaGreatDoor
/- Above and Below. -/
namespace Go.Proofs.YtdnlejboijkcfaaGreatDoor
set_option maxHeartbeats 8000000
set_option maxRecDepth 100000
open Go.RowKit Nl
namespace Nl
def hop (a b : Int) : Int := if _h : 1 ≤ a ∧ a < b then hop a (b / 2) else b
termination_by b.toNat
decreasing_by omega
def aboveB (a b : Int) : Bool := decide (1 ≤ a) && a == hop a b
def belowF (id i c : Int) : Int := if aboveB id i then c else 0
def belowV (id : Int) (zs : List (Int × Int)) : Int := gsum (belowF id) zs
end Nl
theorem Nl.drop_pos {zs : List (Int × Int)} (h : Pos zs) (k : Nat) : Pos (zs.drop k) := fun x hx => h x (List.mem_of_mem_drop hx)
theorem Nl.drop_sum {zs : List (Int × Int)} (h : Pos zs) (k : Nat) : 0 ≤ sumL (zs.drop k) ∧ sumL (zs.drop k) ≤ sumL zs := by
  induction zs generalizing k with
  | nil => simp [sumL]
  | cons x r ih =>
    have h1 := h x (List.mem_cons_self ..)
    have hr : Pos r := fun y hy => h y (List.mem_cons_of_mem _ hy)
    have h2 := ih hr 0
    cases k with
    | zero => simp only [List.drop_zero, sumL] at h2 ⊢; omega
    | succ k => have := ih hr k; simp only [List.drop_succ_cons, sumL]; simp only [List.drop_zero] at h2; omega
end Go.Proofs.YtdnlejboijkcfaaGreatDoor
/- Digests: what calls do to nodes, and what nodes stand for (no program in sight). -/
namespace Go.Proofs.YtdnlejboijkcfaaGreatDoor
set_option maxHeartbeats 8000000
set_option maxRecDepth 100000
open Go.RowKit
namespace Nl
def leafB (l x : Int) : Bool := decide (1 ≤ l ∧ l ≤ 48 ∧ 0 ≤ x ∧ x < 2 ^ l.toNat)
def leafV (l x : Int) : Int := if leafB l x then 2 ^ l.toNat + x else 0
def comL (l k : Int) (zs : List (Int × Int)) : List (Int × Int) × List Int := runR l (capV (sumL zs) k) zs
def fullB (k : Int) (zs : List (Int × Int)) (id : Int) : Bool := findL id zs == 0 && decide (8 * k ≤ (zs.length : Int))
def dgIns (l k : Int) (zs : List (Int × Int)) (x wt : Int) : List (Int × Int) × Int :=
  if leafB l x = false then (zs, 3)
  else if wt < 1 then (zs, 4)
  else if 72057594037927935 - sumL zs < wt then (zs, 5)
  else (addS (if fullB k zs (leafV l x) then (comL l k zs).1 else zs) (leafV l x) wt, 0)
structure Dg (l k : Int) (zs : List (Int × Int)) : Prop where
  roll : Roll l zs
  k1 : 1 ≤ k
  k2 : k ≤ 1048576
  light : lightB l zs (capV (sumL zs) k) = true
  room : (zs.length : Int) ≤ 8 * k
theorem leaf_bd {l x : Int} (h : leafB l x = true) : rightB l (leafV l x) = true ∧ kidsB l (leafV l x) = false ∧ 1 ≤ leafV l x ∧ leafV l x < 562949953421312 ∧ leafV l x = 2 ^ l.toNat + x := by
  have h' := h
  simp only [leafB, decide_eq_true_eq] at h'
  obtain ⟨h1, h2, h3, h4⟩ := h'
  obtain ⟨n, rfl⟩ := Int.eq_ofNat_of_zero_le (show 0 ≤ l by omega)
  have hp := pow48 (n := n) (by omega)
  unfold leafV
  rw [h]
  simp only [if_true, Int.toNat_natCast, kidsB, rightB] at h4 ⊢
  generalize (2 : Int) ^ n = M at *
  refine ⟨by simp; omega, ?_, by omega, by omega, trivial⟩
  rw [Bool.and_eq_false_iff]
  right
  simp; omega
theorem cap_mono {n c k : Int} (hn : 0 ≤ n) (hc : 0 ≤ c) (hk : 1 ≤ k) : capV n k ≤ capV (n + c) k := by
  unfold capV
  rw [if_neg (by omega), if_neg (by omega)]
  exact Int.ediv_le_ediv (by omega) (by omega)
theorem light_mono {l m1 m2 : Int} {zs : List (Int × Int)} (h : m1 ≤ m2) (hl : lightB l zs m1 = true) : lightB l zs m2 = true := by
  rw [light_sum] at hl ⊢
  have h1 : gsum (heavyF l m2) zs ≤ gsum (heavyF l m1) zs := gsum_le (fun x _ => by
    unfold heavyF
    cases kidsB l x.1
    · simp
    · simp only [Bool.true_and, decide_eq_true_eq]; split <;> split <;> omega)
  have h2 := gsum_zero (f := heavyF l m2) (zs := zs) (fun x _ => heavyF_nn ..)
  omega
theorem light_leaf {l most : Int} {zs : List (Int × Int)} (r : Roll l zs) {id c : Int} (hk : kidsB l id = false) (h0 : 0 ≤ most) (hc : 0 ≤ c) (h : lightB l zs most = true) : lightB l (addS zs id c) most = true := by
  rw [light_sum] at h ⊢
  have z : ∀ v, heavyF l most id v = 0 := fun v => by unfold heavyF; rw [hk]; rfl
  have e := gsum_addS (f := heavyF l most) (fun i => by
    unfold heavyF
    split
    · rename_i hh
      simp only [Bool.and_eq_true, decide_eq_true_eq] at hh
      omega
    · rfl) r.strict (id := id) (c := c) hc
  rw [z, z] at e
  omega
theorem addS_roll {l : Int} {zs : List (Int × Int)} (r : Roll l zs) {id c : Int} (hr : rightB l id = true) (hc : 0 ≤ c) (hs : sumL zs + c ≤ 72057594037927935) : Roll l (addS zs id c) := by
  have h := r.add id c
  rw [stAdd_ok r hr hc hs] at h
  exact h
theorem Dg.nil {l k : Int} (h1 : 1 ≤ l) (h2 : l ≤ 48) (k1 : 1 ≤ k) (k2 : k ≤ 1048576) : Dg l k [] := ⟨Roll.nil h1 h2, k1, k2, rfl, by simp; omega⟩
theorem Dg.com {l k : Int} {zs : List (Int × Int)} (d : Dg l k zs) :
    Dg l k (comL l k zs).1 ∧ sumL (comL l k zs).1 = sumL zs ∧ (comL l k zs).1.length ≤ zs.length ∧ ((comL l k zs).1.length : Int) ≤ 4 * k - 1 ∧ ((comL l k zs).2.length : Int) ≤ l * zs.length ∧ firstR l (comL l k zs).1 (capV (sumL zs) k) = none := by
  obtain ⟨f1, f2, f3, f4, f5⟩ := run_facts (most := capV (sumL zs) k) d.roll
  have hl := run_light (cap_nn (sumL zs) k) d.roll d.light
  have ht := tight_len (k := k) f1 d.k1 (by rw [f2]; exact f4)
  have := d.k1
  have := d.room
  exact ⟨⟨f1, d.k1, d.k2, by rw [show (comL l k zs).1 = (runR l (capV (sumL zs) k) zs).1 from rfl, f2]; exact hl, by unfold comL; omega⟩, f2, f3, ht, f5, f4⟩
theorem Dg.addL {l k : Int} {zs : List (Int × Int)} (d : Dg l k zs) {id c : Int} (hr : rightB l id = true) (hk : kidsB l id = false) (hc : 1 ≤ c) (hs : sumL zs + c ≤ 72057594037927935) (hroom : findL id zs ≠ 0 ∨ (zs.length : Int) + 1 ≤ 8 * k) :
    Dg l k (addS zs id c) ∧ sumL (addS zs id c) = sumL zs + c := by
  have r' := addS_roll d.roll hr (by omega) hs
  have es := addS_sum d.roll.strict (id := id) (c := c) (by omega)
  have h0 := d.roll.sum
  refine ⟨⟨r', d.k1, d.k2, ?_, ?_⟩, es⟩
  · rw [es]
    exact light_mono (cap_mono h0.1 (by omega) d.k1) (light_leaf d.roll hk (cap_nn _ _) (by omega) d.light)
  · rcases hroom with h | h
    · obtain ⟨P, Q, e1, e2, e3, e4⟩ := strict_split d.roll.strict id
      have hz := d.room
      generalize findL id zs = v at *
      subst e1
      rw [addS_parts e2 e3 e4 (by omega)]
      rw [if_pos (by omega)] at hz ⊢
      simp only [List.length_append, List.length_cons, List.length_nil] at hz ⊢
      exact hz
    · have := addS_len d.roll.strict (id := id) (c := c) (by omega)
      rw [if_pos (by omega)] at this
      omega
theorem Dg.ins {l k : Int} {zs : List (Int × Int)} (d : Dg l k zs) (x wt : Int) :
    Dg l k (dgIns l k zs x wt).1 ∧ (dgIns l k zs x wt).1.length ≤ zs.length + 1 ∧
    ((dgIns l k zs x wt).2 = 0 → leafB l x = true ∧ 1 ≤ wt ∧ sumL zs + wt ≤ 72057594037927935 ∧ sumL (dgIns l k zs x wt).1 = sumL zs + wt) ∧
    ((dgIns l k zs x wt).2 ≠ 0 → (dgIns l k zs x wt).1 = zs) := by
  unfold dgIns
  by_cases h1 : leafB l x = false
  · rw [if_pos h1]; exact ⟨d, by simp, fun h => by simp at h, fun _ => rfl⟩
  rw [if_neg h1]
  by_cases h2 : wt < 1
  · rw [if_pos h2]; exact ⟨d, by simp, fun h => by simp at h, fun _ => rfl⟩
  rw [if_neg h2]
  by_cases h3 : 72057594037927935 - sumL zs < wt
  · rw [if_pos h3]; exact ⟨d, by simp, fun h => by simp at h, fun _ => rfl⟩
  rw [if_neg h3]
  have hx : leafB l x = true := by simpa using h1
  obtain ⟨b1, b2, b3, b4, b5⟩ := leaf_bd hx
  obtain ⟨c1, c2, c3, c4, _⟩ := d.com
  cases hf : fullB k zs (leafV l x)
  · simp only [Bool.false_eq_true, if_false]
    obtain ⟨g1, g2⟩ := d.addL b1 b2 (by omega : 1 ≤ wt) (by omega) (by
      simp only [fullB, Bool.and_eq_false_iff, beq_eq_false_iff_ne, decide_eq_false_iff_not] at hf
      rcases hf with h | h
      · exact .inl h
      · exact .inr (by omega))
    have := addS_len d.roll.strict (id := leafV l x) (c := wt) (by omega)
    rw [if_pos (by omega)] at this
    exact ⟨g1, this, fun _ => ⟨hx, by omega, by omega, g2⟩, fun h => absurd rfl h⟩
  · simp only [if_true]
    have k1 := d.k1
    obtain ⟨g1, g2⟩ := c1.addL b1 b2 (by omega : 1 ≤ wt) (by omega) (.inr (by omega))
    have := addS_len c1.roll.strict (id := leafV l x) (c := wt) (by omega)
    rw [if_pos (by omega)] at this
    exact ⟨g1, by omega, fun _ => ⟨hx, by omega, by omega, by omega⟩, fun h => absurd rfl h⟩
def aboveF (id i c : Int) : Int := if i ≠ id ∧ aboveB i id = true then c else 0
def aboveV (id : Int) (zs : List (Int × Int)) : Int := gsum (aboveF id) zs
def nearF (id i c : Int) : Int := if aboveB id i || aboveB i id then c else 0
theorem gsum_add (f g : Int → Int → Int) (zs : List (Int × Int)) : gsum (fun i c => f i c + g i c) zs = gsum f zs + gsum g zs := by
  induction zs with
  | nil => rfl
  | cons x r ih => simp only [gsum, ih]; omega
theorem gsum_congr {f g : Int → Int → Int} {zs : List (Int × Int)} (h : ∀ x ∈ zs, f x.1 x.2 = g x.1 x.2) : gsum f zs = gsum g zs := by
  induction zs with
  | nil => rfl
  | cons x r ih =>
    simp only [gsum, h x (List.mem_cons_self ..), ih (fun y hy => h y (List.mem_cons_of_mem _ hy))]
def heldF (l id v c : Int) : Int := if aboveB id (2 ^ l.toNat + v) then c else 0
def heldV (l id : Int) (its : List (Int × Int)) : Int := gsum (heldF l id) its
def Stands (l : Int) (zs its : List (Int × Int)) : Prop := ∀ id, 1 ≤ id → belowV id zs ≤ heldV l id its ∧ heldV l id its ≤ belowV id zs + aboveV id zs
end Nl
end Go.Proofs.YtdnlejboijkcfaaGreatDoor
/- The walks of twig.Leaf, and of the reference's Power, Leaf, Ends. -/
namespace Go.Proofs.YtdnlejboijkcfaaGreatDoor
set_option maxHeartbeats 8000000
set_option maxRecDepth 100000
open Go.RowKit Nl
theorem Nl.or_pow (n x : Nat) (hx : x < 2 ^ n) (hn : n ≤ 48) : bits .or .i64 ((2 ^ n : Nat) : Int) (x : Int) = ((2 ^ n + x : Nat) : Int) := by
  have h1 : (2 : Nat) ^ n ≤ 2 ^ 48 := Nat.pow_le_pow_right (by omega) hn
  have h3 : (2 : Nat) ^ 48 = 281474976710656 := rfl
  show IntKind.i64.wrap ((BitVec.ofInt 64 ((2 ^ n : Nat) : Int) ||| BitVec.ofInt 64 (x : Int)).toNat : Int) = _
  rw [BitVec.toNat_or, ofInt_u64 _ (by omega), ofInt_u64 _ (by omega)]
  have e := Nat.two_pow_add_eq_or_of_lt hx 1
  rw [Nat.mul_one] at e
  rw [← e]
  exact IntWalk.i64_in _ ⟨by omega, by omega⟩
theorem Nl.or_pow' (n : Nat) (x : Int) (h0 : 0 ≤ x) (hx : x < 2 ^ n) (hn : n ≤ 48) : bits .or .i64 (2 ^ n) x = 2 ^ n + x := by
  obtain ⟨y, rfl⟩ := Int.eq_ofNat_of_zero_le h0
  have e : (2 : Int) ^ n = ((2 ^ n : Nat) : Int) := by simp
  rw [e] at hx ⊢
  rw [or_pow n y (by omega) hn]; simp
def PowRel2 (n : Int) (p i : Value) : Prop := ∃ k : Nat, i = .int .i64 k ∧ p = .int .i64 (2 ^ k) ∧ (k : Int) ≤ n
theorem r_power (n : Int) (w : World) (h0 : 0 ≤ n) (h1 : n ≤ 48) :
    Calls Tryz.prog 35 #[.int .i64 n] w fun e w' => e = .returned (.int .i64 (2 ^ n.toNat)) ∧ w = w' := by
  go_enter Tryz.func35, Tryz.ntmps35
  go_wp2_with fail
  go_loop [3, 4] (fun p i => PowRel2 n p i) (fun _ i => (n - intOf i).toNat)
  case atStart => exact ⟨0, rfl, rfl, by omega⟩
  case round =>
    obtain ⟨k, rfl, rfl, hk⟩ := hrel
    have hp := pow48 (n := k) (by omega)
    have hs : (2 : Int) ^ (k + 1) = 2 * 2 ^ k := by rw [Int.pow_succ]; omega
    have HS := hid hs
    clear hs
    by_cases hlt : (k : Int) < n
    · go_wp2_with fail
      go_round
      case rel => exact ⟨k + 1, by go_num, by rw [HS.out], by omega⟩
      case measure => simp [intOf]; omega
    · have e : Hid (n.toNat = k) := by show _ = _; omega
      go_wp2_with fail
      go_ret
      exact ⟨by rw [e.out]; rfl, rfl⟩
theorem t_leaf (l x : Int) (w : World) (bl : In64 l) (bx : In64 x) :
    Calls Tryz.prog 58 #[.int .i64 l, .int .i64 x] w fun e w' => e = .returned (.tuple #[.int .i64 (leafV l x), .bool (leafB l x)]) ∧ w = w' := by
  obtain ⟨l1, l2⟩ := bl
  obtain ⟨x1, x2⟩ := bx
  by_cases h1 : 1 ≤ l
  · by_cases h2 : l ≤ 48
    · obtain ⟨n, rfl⟩ := Int.eq_ofNat_of_zero_le (show 0 ≤ l by omega)
      obtain ⟨b1, b2⟩ := pow48 (n := n) (by omega)
      have hn : n ≤ 48 := by omega
      by_cases h3 : 0 ≤ x <;> by_cases h4 : x < 2 ^ n
      all_goals
        go_enter Tryz.func58, Tryz.ntmps58
        go_wp2_with (go_at_call 112; go_in)
        go_ret2
        have hb : leafB (n : Int) x = decide (0 ≤ x ∧ x < 2 ^ n) := by
          unfold leafB
          simp only [Int.toNat_natCast]
          rw [decide_eq_decide]
          generalize (2 : Int) ^ n = M at *
          omega
        have hv : leafV (n : Int) x = if leafB (n : Int) x then 2 ^ n + x else 0 := by unfold leafV; simp only [Int.toNat_natCast]
        refine ⟨ret_ib ?_ ?_, rfl⟩
        · rw [hv, hb]
          first
            | (rw [if_pos (by simp [h3, h4]), or_pow' n x h3 h4 hn]; done)
            | (rw [if_neg (by simp only [decide_eq_true_eq]; generalize (2 : Int) ^ n = M at *; omega)]; done)
        · rw [hb]
          simp [h3, h4]
    · have e : leafB l x = false := by simp [leafB, h2]
      have e2 : leafV l x = 0 := by simp [leafV, e]
      rw [e, e2]
      clear e e2
      go_enter Tryz.func58, Tryz.ntmps58
      go_wp2_with (go_at_call 112; go_in)
      go_ret2
      exact ⟨rfl, rfl⟩
  · have e : leafB l x = false := by simp [leafB, h1]
    have e2 : leafV l x = 0 := by simp [leafV, e]
    rw [e, e2]
    clear e e2
    go_enter Tryz.func58, Tryz.ntmps58
    go_wp2_with (go_at_call 112; go_in)
    go_ret2
    exact ⟨rfl, rfl⟩
end Go.Proofs.YtdnlejboijkcfaaGreatDoor

/- Joining two rolls, and lowering (no program in sight). -/
namespace Go.Proofs.YtdnlejboijkcfaaGreatDoor
open Go.RowKit
namespace Nl
theorem mstep_spec {out : List (Int × Int)} {x : Int × Int} (h : Strict out) (h1 : 1 ≤ x.1) (h2 : 0 < x.2) (hle : ∀ y ∈ out, y.1 ≤ x.1) :
    Strict (mstep out x) ∧ (∀ y ∈ mstep out x, y.1 ≤ x.1) ∧ (∀ y ∈ mstep out x, y.1 = x.1 ∨ ∃ z ∈ out, z.1 = y.1) ∧ (mstep out x).length ≤ out.length + 1 ∧
      ∀ f : Int → Int → Int, (∀ i a b, f i (a + b) = f i a + f i b) → gsum f (mstep out x) = gsum f out + f x.1 x.2 := by
  unfold mstep
  rw [if_neg (by omega)]
  by_cases hc : 0 < out.length ∧ (out.getD (out.length - 1) (0, 0)).1 = x.1
  · rw [if_pos hc]
    have e := last_split hc.1
    have hx := hc.2
    generalize out.getD (out.length - 1) (0, 0) = y at *
    generalize out.dropLast = D at *
    subst e
    have hD := h.left
    have hp := List.pairwise_append.1 h.1
    have hy := h.2 y (by simp)
    refine ⟨⟨List.pairwise_append.2 ⟨hp.1, by simp, fun a ha b hb => ?_⟩, fun a ha => ?_⟩, fun a ha => ?_, fun a ha => ?_, by simp, fun f hf => ?_⟩
    · simp only [List.mem_singleton] at hb; subst hb; exact hp.2.2 a ha y (by simp)
    · rcases List.mem_append.1 ha with ha | ha
      · exact h.2 a (by simp [ha])
      · simp only [List.mem_singleton] at ha; subst ha; simp only; omega
    · rcases List.mem_append.1 ha with ha | ha
      · exact hle a (by simp [ha])
      · simp only [List.mem_singleton] at ha; subst ha; simp only; omega
    · rcases List.mem_append.1 ha with ha | ha
      · exact .inr ⟨a, by simp [ha], rfl⟩
      · simp only [List.mem_singleton] at ha; subst ha; exact .inl hx
    · rw [gsum_append, gsum_append]
      simp only [gsum, hf, hx]; omega
  · rw [if_neg hc]
    have hlt : ∀ y ∈ out, y.1 < x.1 := by
      intro y hy
      have hl : 0 < out.length := List.length_pos_of_mem hy
      have hne : (out.getD (out.length - 1) (0, 0)).1 ≠ x.1 := fun q => hc ⟨hl, q⟩
      have e := last_split hl
      have hm : out.getD (out.length - 1) (0, 0) ∈ out := getD_mem out _ (by omega)
      have hlast := hle _ hm
      rw [e] at hy
      have hs := h.1
      rw [e] at hs
      rcases List.mem_append.1 hy with hy | hy
      · have := (List.pairwise_append.1 hs).2.2 y hy _ (List.mem_singleton.2 rfl); omega
      · simp only [List.mem_singleton] at hy; subst hy; omega
    refine ⟨⟨List.pairwise_append.2 ⟨h.1, by simp, fun a ha b hb => ?_⟩, fun a ha => ?_⟩, fun a ha => ?_, fun a ha => ?_, by simp, fun f _ => ?_⟩
    · simp only [List.mem_singleton] at hb; subst hb; exact hlt a ha
    · rcases List.mem_append.1 ha with ha | ha
      · exact h.2 a ha
      · simp only [List.mem_singleton] at ha; subst ha; exact ⟨h1, h2⟩
    · rcases List.mem_append.1 ha with ha | ha
      · exact hle a ha
      · simp only [List.mem_singleton] at ha; subst ha; omega
    · rcases List.mem_append.1 ha with ha | ha
      · exact .inr ⟨a, ha, rfl⟩
      · simp only [List.mem_singleton] at ha; subst ha; exact .inl rfl
    · rw [gsum_append]; simp only [gsum]; omega
theorem pass_spec (S : List (Int × Int)) : ∀ out : List (Int × Int), Strict out → Srt S → (∀ x ∈ S, 1 ≤ x.1 ∧ 0 < x.2) → (∀ y ∈ out, ∀ x ∈ S, y.1 ≤ x.1) →
    ∃ zs, pass out S = some zs ∧ Strict zs ∧ (∀ z ∈ zs, (∃ x ∈ S, x.1 = z.1) ∨ ∃ y ∈ out, y.1 = z.1) ∧ zs.length ≤ out.length + S.length ∧
      ∀ f : Int → Int → Int, (∀ i a b, f i (a + b) = f i a + f i b) → gsum f zs = gsum f out + gsum f S := by
  induction S with
  | nil => intro out h _ _ _; exact ⟨out, rfl, h, fun z hz => .inr ⟨z, hz, rfl⟩, by simp, fun f _ => by simp [gsum]⟩
  | cons x r ih =>
    intro out h hs hp hl
    have hx := hp x (List.mem_cons_self ..)
    obtain ⟨m1, m2, m3, m4, m5⟩ := mstep_spec h hx.1 hx.2 (fun y hy => hl y hy x (List.mem_cons_self ..))
    obtain ⟨s1, s2⟩ := srt_tail hs
    obtain ⟨zs, z1, z2, z3, z4, z5⟩ := ih (mstep out x) m1 s1 (fun y hy => hp y (List.mem_cons_of_mem _ hy)) (fun y hy z hz => Int.le_trans (m2 y hy) (s2 z hz))
    refine ⟨zs, by rw [pass, if_neg (by omega)]; exact z1, z2, fun z hz => ?_, by simp only [List.length_cons]; omega, fun f hf => by rw [z5 f hf, m5 f hf]; simp only [gsum]; omega⟩
    rcases z3 z hz with ⟨a, ha, e⟩ | ⟨a, ha, e⟩
    · exact .inl ⟨a, List.mem_cons_of_mem _ ha, e⟩
    · rcases m3 a ha with q | ⟨b, hb, q⟩
      · exact .inl ⟨x, List.mem_cons_self .., by omega⟩
      · exact .inr ⟨b, hb, by omega⟩
theorem gsum_perm {f : Int → Int → Int} {xs ys : List (Int × Int)} (h : xs.Perm ys) : gsum f xs = gsum f ys := by
  induction h with
  | nil => rfl
  | cons x _ ih => simp only [gsum, ih]
  | swap x y l => simp only [gsum]; omega
  | trans _ _ ih1 ih2 => exact ih1.trans ih2
theorem foldL_spec {xs : List (Int × Int)} (hp : ∀ x ∈ xs, 1 ≤ x.1 ∧ 0 < x.2) (hs : sumL xs ≤ 72057594037927935) :
    ∃ zs, foldL xs = some zs ∧ Strict zs ∧ (∀ z ∈ zs, ∃ x ∈ xs, x.1 = z.1) ∧ zs.length ≤ xs.length ∧
      ∀ f : Int → Int → Int, (∀ i a b, f i (a + b) = f i a + f i b) → gsum f zs = gsum f xs := by
  have hpos : Pos xs := fun x hx => by have := (hp x hx).2; omega
  have ht : totOk xs = true := by unfold totOk; rw [totF_pos hpos (by omega)]; rfl
  have hsrt : Srt (sortL xs) := (sort_SS_aux xs [] List.Pairwise.nil).1
  obtain ⟨zs, z1, z2, z3, z4, z5⟩ := pass_spec (sortL xs) [] ⟨List.Pairwise.nil, fun _ h => absurd h (List.not_mem_nil)⟩ hsrt (fun x hx => hp x ((sortL_mem _ _).1 hx)) (fun _ h => absurd h (List.not_mem_nil))
  refine ⟨zs, by unfold foldL; rw [ht]; exact z1, z2, fun z hz => ?_, by rw [sortL_length] at z4; simpa using z4, fun f hf => ?_⟩
  · rcases z3 z hz with ⟨x, hx, e⟩ | ⟨y, hy, _⟩
    · exact ⟨x, (sortL_mem _ _).1 hx, e⟩
    · exact absurd hy (List.not_mem_nil)
  · rw [z5 f hf]
    have : gsum f (sortL xs) = gsum f xs := gsum_perm (sortL_perm xs)
    simp only [gsum]; omega
def joinL (xs ys : List (Int × Int)) : List (Int × Int) := (foldL (xs ++ ys)).getD []
theorem join_spec {l : Int} {xs ys : List (Int × Int)} (hx : Roll l xs) (hy : Roll l ys) (hs : sumL xs + sumL ys ≤ 72057594037927935) :
    foldL (xs ++ ys) = some (joinL xs ys) ∧ Roll l (joinL xs ys) ∧ (joinL xs ys).length ≤ xs.length + ys.length ∧ sumL (joinL xs ys) = sumL xs + sumL ys ∧
      ∀ f : Int → Int → Int, (∀ i a b, f i (a + b) = f i a + f i b) → gsum f (joinL xs ys) = gsum f xs + gsum f ys := by
  obtain ⟨zs, z1, z2, z3, z4, z5⟩ := foldL_spec (xs := xs ++ ys) (fun x h => by
    rcases List.mem_append.1 h with h | h
    · exact hx.strict.2 x h
    · exact hy.strict.2 x h) (by rw [sumL_append]; exact hs)
  have e : joinL xs ys = zs := by unfold joinL; rw [z1]; rfl
  rw [e]
  have z6 : ∀ f : Int → Int → Int, (∀ i a b, f i (a + b) = f i a + f i b) → gsum f zs = gsum f xs + gsum f ys := fun f hf => by rw [z5 f hf, gsum_append]
  have hsum : sumL zs = sumL xs + sumL ys := by
    rw [← gsum_sum, ← gsum_sum, ← gsum_sum]; exact z6 (fun _ c => c) (fun _ _ _ => rfl)
  refine ⟨z1, ⟨hx.l1, hx.l2, z2, by omega, fun z hz => ?_⟩, by rw [List.length_append] at z4; exact z4, hsum, z6⟩
  obtain ⟨x, hx', e⟩ := z3 z hz
  rw [← e]
  rcases List.mem_append.1 hx' with h | h
  · exact hx.ids x h
  · exact hy.ids x h
def lowL (l k : Int) (zs : List (Int × Int)) : List (Int × Int) := (runR l (capV (sumL zs) k) zs).1
theorem cap_le {n k K : Int} (hn : 0 ≤ n) (h1 : 1 ≤ k) (h2 : k ≤ K) : capV n K ≤ capV n k := by
  unfold capV
  rw [if_neg (by omega), if_neg (by omega)]
  refine (Int.le_ediv_iff_mul_le (by omega)).2 ?_
  have a := Int.ediv_mul_le n (show K ≠ 0 by omega)
  have b := Int.mul_le_mul_of_nonneg_left h2 (Int.ediv_nonneg hn (show 0 ≤ K by omega))
  omega
theorem low_spec {l k K : Int} {zs : List (Int × Int)} (d : Dg l K zs) (h1 : 1 ≤ k) (h2 : k ≤ K) :
    Dg l k (lowL l k zs) ∧ sumL (lowL l k zs) = sumL zs ∧ (lowL l k zs).length ≤ zs.length ∧ ((lowL l k zs).length : Int) ≤ 4 * k - 1 := by
  obtain ⟨f1, f2, f3, f4, f5⟩ := run_facts (most := capV (sumL zs) k) d.roll
  have h0 : 0 ≤ sumL zs := sumL_nonneg d.roll.strict.pos
  have hl := run_light (cap_nn (sumL zs) k) d.roll (light_mono (cap_le h0 h1 h2) d.light)
  have ht := tight_len (k := k) f1 h1 (by rw [f2]; exact f4)
  have := d.k2
  exact ⟨⟨f1, h1, by omega, by show lightB l (runR l (capV (sumL zs) k) zs).1 _ = true; rw [show sumL (lowL l k zs) = sumL zs from f2]; exact hl, by show ((runR l (capV (sumL zs) k) zs).1.length : Int) ≤ 8 * k; omega⟩, f2, f3, ht⟩
end Nl
end Go.Proofs.YtdnlejboijkcfaaGreatDoor
