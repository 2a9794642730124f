/- Texts laid together: Bg1, Bg2, Bg3, Ends, Made. -/
import Derived.Test.YthdljlclcepnhaaDgMath
import Derived.Test.YthdljlclcepnhaaDgTwig
import Derived.Test.YthdljlclcepnhaaPr8
/- Readings: memory, and what a bag holds (plain). -/
namespace Go.Proofs.Ythdljlclcepnhaa
open Go.RowKit Nl

section
variable {ops : Array Oper} {rest : List Oper} {o : Oper} {a : Act} {Q : Exit → Act → World → Prop} {w wr : World} {v : Value} {xs : List Nd} {B T : Nat}
end

namespace Nl
/-- A value's weight more, in readings by rising values. -/
def putR (x c : Int) : List (Int × Int) → List (Int × Int)
  | [] => [(x, c)]
  | y :: r => if y.1 = x then (x, y.2 + c) :: r else if x < y.1 then (x, c) :: y :: r else y :: putR x c r
/-- Readings by rising values, of a universe. -/
structure Bag (l : Int) (its : List (Int × Int)) : Prop where
  rise : its.Pairwise (fun a b => a.1 < b.1)
  pos : ∀ y ∈ its, 1 ≤ y.2
  val : ∀ y ∈ its, leafB l y.1 = true
  most : sumL its ≤ 72057594037927935
theorem Bag.nil (l : Int) : Bag l [] := ⟨List.Pairwise.nil, (fun _ h => absurd h (List.not_mem_nil)), (fun _ h => absurd h (List.not_mem_nil)), by simp [sumL]⟩
theorem Bag.pos' {l : Int} {its : List (Int × Int)} (b : Bag l its) : Pos its := fun y hy => by have := b.pos y hy; omega
theorem putR_mem {x c : Int} {its : List (Int × Int)} : ∀ z ∈ putR x c its, z.1 = x ∧ (z.2 = c ∨ ∃ y ∈ its, y.1 = x ∧ z.2 = y.2 + c) ∨ z ∈ its := by
  induction its with
  | nil => intro z hz; simp only [putR, List.mem_singleton] at hz; subst hz; exact .inl ⟨rfl, .inl rfl⟩
  | cons y r ih =>
    intro z hz
    simp only [putR] at hz
    split at hz
    · rename_i he
      rcases List.mem_cons.1 hz with rfl | hz
      · exact .inl ⟨rfl, .inr ⟨y, List.mem_cons_self .., he, rfl⟩⟩
      · exact .inr (List.mem_cons_of_mem _ hz)
    · split at hz
      · rcases List.mem_cons.1 hz with rfl | hz
        · exact .inl ⟨rfl, .inl rfl⟩
        · exact .inr hz
      · rcases List.mem_cons.1 hz with rfl | hz
        · exact .inr (List.mem_cons_self ..)
        · rcases ih z hz with ⟨h1, h2⟩ | h
          · refine .inl ⟨h1, ?_⟩
            rcases h2 with h2 | ⟨q, hq, e1, e2⟩
            · exact .inl h2
            · exact .inr ⟨q, List.mem_cons_of_mem _ hq, e1, e2⟩
          · exact .inr (List.mem_cons_of_mem _ h)
theorem putR_rise {x c : Int} {its : List (Int × Int)} (h : its.Pairwise (fun a b => a.1 < b.1)) : (putR x c its).Pairwise (fun a b => a.1 < b.1) := by
  induction its with
  | nil => simp [putR]
  | cons y r ih =>
    obtain ⟨h1, h2⟩ := List.pairwise_cons.1 h
    simp only [putR]
    split
    · rename_i he
      exact List.pairwise_cons.2 ⟨fun z hz => by have := h1 z hz; simp only; omega, h2⟩
    · split
      · rename_i hlt
        refine List.pairwise_cons.2 ⟨fun z hz => ?_, h⟩
        rcases List.mem_cons.1 hz with rfl | hz
        · exact hlt
        · have := h1 z hz; simp only; omega
      · refine List.pairwise_cons.2 ⟨fun z hz => ?_, ih h2⟩
        rcases putR_mem z hz with ⟨e, _⟩ | h3
        · omega
        · exact h1 z h3
theorem putR_gsum {f : Int → Int → Int} {x c : Int} (hf : ∀ a, f x (a + c) = f x a + f x c) (its : List (Int × Int)) : gsum f (putR x c its) = gsum f its + f x c := by
  induction its with
  | nil => simp [putR, gsum]
  | cons y r ih =>
    simp only [putR]
    split
    · rename_i he
      simp only [gsum, he, hf]; omega
    · split
      · simp only [gsum]; omega
      · simp only [gsum, ih]; omega
theorem putR_sum {x c : Int} (its : List (Int × Int)) : sumL (putR x c its) = sumL its + c := by
  rw [← gsum_sum, ← gsum_sum]; exact putR_gsum (f := fun _ c => c) (fun _ => rfl) its
theorem putR_length {x c : Int} (its : List (Int × Int)) : (putR x c its).length ≤ its.length + 1 := by
  induction its with
  | nil => simp [putR]
  | cons y r ih =>
    simp only [putR]
    split
    · simp
    · split
      · simp
      · simp only [List.length_cons]; omega
/-- B.Add: the readings then, and the error. -/
def badd (l : Int) (its : List (Int × Int)) (x c : Int) : List (Int × Int) × Int :=
  if leafB l x = false then (its, 3) else if c < 1 then (its, 4) else if 72057594037927935 - sumL its < c then (its, 5) else (putR x c its, 0)
theorem Bag.put {l : Int} {its : List (Int × Int)} (b : Bag l its) {x c : Int} (hx : leafB l x = true) (hc : 1 ≤ c) (hs : sumL its + c ≤ 72057594037927935) : Bag l (putR x c its) := by
  refine ⟨putR_rise b.rise, fun z hz => ?_, fun z hz => ?_, by rw [putR_sum]; exact hs⟩
  · rcases putR_mem z hz with ⟨_, h | ⟨y, hy, _, e⟩⟩ | h
    · omega
    · have := b.pos y hy; omega
    · exact b.pos z h
  · rcases putR_mem z hz with ⟨e, _⟩ | h
    · rw [e]; exact hx
    · exact b.val z h
theorem Bag.badd {l : Int} {its : List (Int × Int)} (b : Bag l its) (x c : Int) : Bag l (badd l its x c).1 ∧ (badd l its x c).1.length ≤ its.length + 1 := by
  unfold Nl.badd
  split
  · exact ⟨b, by simp⟩
  · rename_i h1
    split
    · exact ⟨b, by simp⟩
    · split
      · exact ⟨b, by simp⟩
      · exact ⟨b.put (by simpa using h1) (by omega) (by omega), putR_length _⟩
/-- What lies from lo to hi. -/
def betF (lo hi v c : Int) : Int := if lo ≤ v ∧ v ≤ hi then c else 0
def betV (lo hi : Int) (its : List (Int × Int)) : Int := gsum (betF lo hi) its
theorem bet_le {lo hi : Int} {its : List (Int × Int)} (hp : Pos its) : 0 ≤ betV lo hi its ∧ betV lo hi its ≤ sumL its := by
  rw [← gsum_sum]
  exact ⟨gsum_zero (fun x hx => by have := hp x hx; unfold betF; split <;> omega), gsum_le (fun x hx => by have := hp x hx; unfold betF; split <;> omega)⟩
end Nl
end Go.Proofs.Ythdljlclcepnhaa

/- The walks of the reference's bags: Total, Between, put, Add. -/
namespace Go.Proofs.Ythdljlclcepnhaa
open Go.RowKit Nl

def BTotRel (its : List Nd) (n i : Value) : Prop := ∃ (k : Nat) (m : Int), i = .int .i64 k ∧ n = .int .i64 m ∧ k ≤ its.length ∧ Hid (m + sumL (its.drop k) = sumL its)
def BBetRel (lo hi : Int) (its : List Nd) (n i : Value) : Prop := ∃ (k : Nat) (m : Int), i = .int .i64 k ∧ n = .int .i64 m ∧ k ≤ its.length ∧ Hid (m + betV lo hi (its.drop k) = betV lo hi its)
/-- put: what is done so far. -/
def BPutI (its : List Nd) (x c : Int) (k : Nat) (zs : List Nd) (b : Bool) : Prop := if b then zs ++ its.drop k = putR x c its ∧ ∀ y ∈ its.drop k, x < y.1 else zs ++ putR x c (its.drop k) = putR x c its
theorem Nl.put_eq {its : List (Int × Int)} {x c a d : Int} {k : Nat} {zs : List (Int × Int)} (hr : its.Pairwise (fun a b => a.1 < b.1)) (hk : k < its.length) (ex : its.getD k (0, 0) = (a, d)) (h : BPutI its x c k zs false) (ha : a = x) : BPutI its x c (k + 1) (zs ++ [(a, d + c)]) true := by
  have e := drop_at (d := ((0, 0) : Int × Int)) its k hk
  rw [ex] at e
  have hp := hr.sublist (List.drop_sublist k its)
  rw [e] at hp
  have h1 := (List.pairwise_cons.1 hp).1
  unfold BPutI at h ⊢
  simp only [if_true, Bool.false_eq_true, if_false] at h ⊢
  rw [e] at h
  simp only [putR, if_pos ha] at h
  subst ha
  exact ⟨by simpa using h, h1⟩
theorem Nl.put_gt {its : List (Int × Int)} {x c a d : Int} {k : Nat} {zs : List (Int × Int)} (hr : its.Pairwise (fun a b => a.1 < b.1)) (hk : k < its.length) (ex : its.getD k (0, 0) = (a, d)) (h : BPutI its x c k zs false) (ha : x < a) : BPutI its x c (k + 1) (zs ++ [(x, c)] ++ [(a, d)]) true := by
  have e := drop_at (d := ((0, 0) : Int × Int)) its k hk
  rw [ex] at e
  have hp := hr.sublist (List.drop_sublist k its)
  rw [e] at hp
  have h1 := (List.pairwise_cons.1 hp).1
  unfold BPutI at h ⊢
  simp only [if_true, Bool.false_eq_true, if_false] at h ⊢
  rw [e] at h
  simp only [putR, if_neg (show ¬ a = x by omega), if_pos ha] at h
  exact ⟨by simpa using h, fun y hy => by have := h1 y hy; simp only at this; omega⟩
theorem Nl.put_lt {its : List (Int × Int)} {x c a d : Int} {k : Nat} {zs : List (Int × Int)} (hk : k < its.length) (ex : its.getD k (0, 0) = (a, d)) (h : BPutI its x c k zs false) (ha : a < x) : BPutI its x c (k + 1) (zs ++ [(a, d)]) false := by
  have e := drop_at (d := ((0, 0) : Int × Int)) its k hk
  rw [ex] at e
  unfold BPutI at h ⊢
  simp only [Bool.false_eq_true, if_false] at h ⊢
  rw [e] at h
  simp only [putR, if_neg (show ¬ a = x by omega), if_neg (show ¬ x < a by omega)] at h
  simpa using h
theorem Nl.put_rest {its : List (Int × Int)} {x c a d : Int} {k : Nat} {zs : List (Int × Int)} (hk : k < its.length) (ex : its.getD k (0, 0) = (a, d)) (h : BPutI its x c k zs true) : BPutI its x c (k + 1) (zs ++ [(a, d)]) true ∧ x < a := by
  have e := drop_at (d := ((0, 0) : Int × Int)) its k hk
  rw [ex] at e
  unfold BPutI at h ⊢
  simp only [if_true] at h ⊢
  rw [e] at h
  exact ⟨⟨by simpa using h.1, fun y hy => h.2 y (List.mem_cons_of_mem _ hy)⟩, h.2 _ (List.mem_cons_self ..)⟩
theorem Nl.put_end {its : List (Int × Int)} {x c : Int} {k : Nat} {zs : List (Int × Int)} {b : Bool} (hk : ¬ k < its.length) (h : BPutI its x c k zs b) : (if b then zs else zs ++ [(x, c)]) = putR x c its := by
  unfold BPutI at h
  rw [List.drop_eq_nil_of_le (by omega)] at h
  cases b
  · simpa [putR] using h
  · simpa using h.1

end Go.Proofs.Ythdljlclcepnhaa

/- The walks of the reference's Add of a bag, of Ends, and of Above. -/
namespace Go.Proofs.Ythdljlclcepnhaa
open Go.RowKit Nl

def BAddPost (l : Int) (r : List Nd × Int) (v0 : Value) (w : World) (e : Ending) (w' : World) : Prop :=
  ∃ v, e = .returned (.tuple #[.agg #[.int .i64 l, v], .int .i64 r.2]) ∧ RdN w' v r.1 ∧ (v = v0 ∨ ∀ k, v.ownBlock = some k → w.heap.size ≤ k) ∧ Below w.heap.size w w'

end Go.Proofs.Ythdljlclcepnhaa

/- The ends of a node: plain, and the walk of the reference's Ends and of Above over nodes. -/
namespace Go.Proofs.Ythdljlclcepnhaa
open Go.RowKit Nl

namespace Nl
/-- How deep, as a number of steps. -/
def depN (id : Int) : Nat := (depV id).toNat
def endsLo (l id : Int) : Int := id * 2 ^ (l.toNat - depN id) - 2 ^ l.toNat
def endsHi (l id : Int) : Int := (id + 1) * 2 ^ (l.toNat - depN id) - 1 - 2 ^ l.toNat
theorem dep_pow {i : Nat} (h : 1 ≤ i) : depV (i : Int) = (depN (i : Int) : Int) ∧ 2 ^ depN (i : Int) ≤ i ∧ i < 2 ^ (depN (i : Int) + 1) := by
  obtain ⟨b1, b2⟩ := bitLen_spec i
  have b2 := b2 (by omega)
  have hb : bitLen i ≠ 0 := fun e => by rw [e] at b1; simp at b1; omega
  have e : depV (i : Int) = ((bitLen i - 1 : Nat) : Int) := by
    have hok : depOk (i : Int) = true := decide_eq_true (by omega)
    unfold depV; rw [hok]; simp only [if_true, Int.toNat_natCast]; omega
  have e2 : depN (i : Int) = bitLen i - 1 := by unfold depN; rw [e]; simp
  rw [e2]
  refine ⟨e, b2, ?_⟩
  rw [show bitLen i - 1 + 1 = bitLen i by omega]; exact b1
theorem right_dep {l : Int} {i : Nat} (hr : rightB l (i : Int) = true) : 1 ≤ i ∧ 1 ≤ l ∧ l ≤ 48 ∧ depN (i : Int) ≤ l.toNat ∧ 2 ^ depN (i : Int) ≤ i ∧ i < 2 ^ (depN (i : Int) + 1) := by
  have hr' := hr
  simp only [rightB, decide_eq_true_eq] at hr'
  obtain ⟨l1, l2, h1, h2⟩ := hr'
  obtain ⟨d1, d2, d3⟩ := dep_pow (i := i) (by omega)
  have e := rightB_dep (id := (i : Int)) ⟨l1, l2⟩ h1
  rw [hr] at e
  have := of_decide_eq_true e.symm
  exact ⟨by omega, l1, l2, by omega, d2, d3⟩
theorem above_ends {L d i x : Nat} (hd : d ≤ L) (h1 : 2 ^ d ≤ i) (h2 : i < 2 ^ (d + 1)) (hx : x < 2 ^ L) : (∃ n : Nat, (2 ^ L + x) / 2 ^ n = i) ↔ i * 2 ^ (L - d) ≤ 2 ^ L + x ∧ 2 ^ L + x < (i + 1) * 2 ^ (L - d) := by
  constructor
  · rintro ⟨n, hn⟩
    have hp : 0 < 2 ^ n := Nat.pow_pos (by omega)
    have hi := (Nat.div_eq_iff hp).1 hn
    have hu : 2 ^ L + x < (i + 1) * 2 ^ n := by rw [Nat.succ_mul]; omega
    have a1 : 2 ^ (d + n) ≤ i * 2 ^ n := by rw [Nat.pow_add]; exact Nat.mul_le_mul_right _ h1
    have a2 : (i + 1) * 2 ^ n ≤ 2 ^ (d + 1 + n) := by rw [Nat.pow_add]; exact Nat.mul_le_mul_right _ h2
    have a3 : 2 ^ (d + n) < 2 ^ (L + 1) := by rw [Nat.pow_succ 2 L]; omega
    have a4 : 2 ^ L < 2 ^ (d + 1 + n) := by omega
    have a5 := (Nat.pow_lt_pow_iff_right (a := 2) (by omega)).1 a3
    have a6 := (Nat.pow_lt_pow_iff_right (a := 2) (by omega)).1 a4
    obtain rfl : n = L - d := by omega
    exact ⟨hi.1, hu⟩
  · rintro ⟨g1, g2⟩
    refine ⟨L - d, (Nat.div_eq_iff (Nat.pow_pos (by omega))).2 ⟨g1, ?_⟩⟩
    rw [Nat.succ_mul] at g2
    have hp : 0 < 2 ^ (L - d) := Nat.pow_pos (by omega)
    omega
theorem above_leaf {l id v : Int} (hr : rightB l id = true) (hv : leafB l v = true) : aboveB id (2 ^ l.toNat + v) = decide (endsLo l id ≤ v ∧ v ≤ endsHi l id) := by
  have hr' := hr
  simp only [rightB, decide_eq_true_eq] at hr'
  simp only [leafB, decide_eq_true_eq] at hv
  obtain ⟨i, rfl⟩ := Int.eq_ofNat_of_zero_le (show 0 ≤ id by omega)
  obtain ⟨x, rfl⟩ := Int.eq_ofNat_of_zero_le (show 0 ≤ v by omega)
  obtain ⟨i1, l1, l2, d1, d2, d3⟩ := right_dep hr
  have eL : (2 : Int) ^ l.toNat = ((2 ^ l.toNat : Nat) : Int) := by simp
  have hx : x < 2 ^ l.toNat := by have := hv.2.2.2; rw [eL] at this; omega
  have key := above_ends d1 d2 d3 hx
  have hb : (1 : Int) ≤ 2 ^ l.toNat + (x : Int) := by rw [eL]; have : 1 ≤ 2 ^ l.toNat := Nat.one_le_two_pow; omega
  rw [Bool.eq_iff_iff, above_iff hb, decide_eq_true_eq]
  have eD : (2 : Int) ^ (l.toNat - depN (i : Int)) = ((2 ^ (l.toNat - depN (i : Int)) : Nat) : Int) := by simp
  unfold endsLo endsHi
  rw [eL, eD]
  have e1 : (∃ n : Nat, (((2 ^ l.toNat : Nat) : Int) + (x : Int)) / 2 ^ n = (i : Int)) ↔ ∃ n : Nat, (2 ^ l.toNat + x) / 2 ^ n = i := by
    constructor
    · rintro ⟨n, hn⟩
      refine ⟨n, ?_⟩
      have : (((2 ^ l.toNat + x) / 2 ^ n : Nat) : Int) = (i : Int) := by rw [← hn]; simp
      omega
    · rintro ⟨n, hn⟩
      exact ⟨n, by rw [← hn]; simp⟩
  rw [e1, key]
  generalize 2 ^ l.toNat = P at *
  generalize 2 ^ (l.toNat - depN (i : Int)) = D at *
  have m1 : ((i : Int) * (D : Int)) = ((i * D : Nat) : Int) := by simp
  have m2 : (((i : Int) + 1) * (D : Int)) = (((i + 1) * D : Nat) : Int) := by simp
  rw [m1, m2]
  generalize i * D = A at *
  generalize (i + 1) * D = B at *
  constructor
  · rintro ⟨g1, g2⟩; exact ⟨by omega, by omega⟩
  · rintro ⟨g1, g2⟩; exact ⟨by omega, by omega, by omega⟩
theorem held_bet {l id : Int} {its : List (Int × Int)} (hr : rightB l id = true) (hb : Bag l its) : betV (endsLo l id) (endsHi l id) its = heldV l id its := by
  unfold betV heldV
  refine gsum_congr (fun y hy => ?_)
  unfold betF heldF
  rw [above_leaf hr (hb.val y hy)]
  by_cases h : endsLo l id ≤ y.1 ∧ y.1 ≤ endsHi l id
  · rw [if_pos h, if_pos (decide_eq_true h)]
  · rw [if_neg h, if_neg (fun q => h (of_decide_eq_true q))]
end Nl

/-- On the way down. -/
def EndsRel (i L d : Nat) (lo hi dd : Value) : Prop := ∃ (j a b : Nat), lo = .int .i64 a ∧ hi = .int .i64 b ∧ dd = .int .i64 ((d + j : Nat) : Int) ∧ d + j ≤ L ∧ Hid (a = i * 2 ^ j) ∧ Hid (b + 1 = (i + 1) * 2 ^ j) ∧ a ≤ b ∧ b < 562949953421312
def EndsPost (l id : Int) (w : World) (e : Ending) (w' : World) : Prop := e = .returned (.tuple #[.int .i64 (endsLo l id), .int .i64 (endsHi l id), .bool true]) ∧ w = w'
theorem Nl.ends_step {i L d j b : Nat} (hi : i < 2 ^ (d + 1)) (hj : d + j ≤ L) (hL : L ≤ 48) (h : b + 1 = (i + 1) * 2 ^ j) : b < 562949953421312 := by
  have h1 : (i + 1) * 2 ^ j ≤ 2 ^ (d + 1) * 2 ^ j := Nat.mul_le_mul_right _ hi
  rw [← Nat.pow_add] at h1
  have h2 : 2 ^ (d + 1 + j) ≤ 2 ^ 49 := Nat.pow_le_pow_right (by omega) (by omega)
  have h3 : (2 : Nat) ^ 49 = 562949953421312 := rfl
  omega

set_option maxRecDepth 100000 in
set_option maxHeartbeats 2000000 in
theorem r_ends (l id : Int) (w : World) (hr : rightB l id = true) :
    Calls Try.prog 27 #[.int .i64 l, .int .i64 id] w (EndsPost l id w) := by
  have hr' := hr
  simp only [rightB, decide_eq_true_eq] at hr'
  obtain ⟨l1, l2, i1, i2⟩ := hr'
  obtain ⟨L, rfl⟩ := Int.eq_ofNat_of_zero_le (show 0 ≤ l by omega)
  obtain ⟨i, rfl⟩ := Int.eq_ofNat_of_zero_le (show 0 ≤ id by omega)
  obtain ⟨-, -, -, d1, d2, d3⟩ := right_dep hr
  have ed := (dep_pow (i := i) (by omega)).1
  have hL : L ≤ 48 := by omega
  obtain ⟨b1, b2⟩ := pow48 (n := L) hL
  have hi63 : (i : Int) ≤ 9223372036854775807 := by simp only [Int.toNat_natCast] at i2; omega
  have Dp := hid (r_depth i w (by omega) hi63)
  have Rt := hid (r_right L i w (by omega) (by omega) (by omega) hi63)
  have Pw := hid (r_power L w (by omega) l2)
  rw [ed] at Dp
  rw [hr] at Rt
  have hE : Hid (endsLo (L : Int) (i : Int) = (i : Int) * 2 ^ (L - depN (i : Int)) - 2 ^ L ∧ endsHi (L : Int) (i : Int) = ((i : Int) + 1) * 2 ^ (L - depN (i : Int)) - 1 - 2 ^ L) := ⟨by unfold endsLo; simp, by unfold endsHi; simp⟩
  have hok : depOk (i : Int) = true := decide_eq_true i1
  rw [hok] at Dp
  generalize depN (i : Int) = d at *
  simp only [Int.toNat_natCast] at d1 Pw
  have D3 := hid d3
  obtain ⟨P, eP⟩ : ∃ P, (2 : Int) ^ L = P := ⟨_, rfl⟩
  rw [eP] at Pw b1 b2 hE
  have R0 : Hid (EndsRel i L d (.int .i64 i) (.int .i64 i) (.int .i64 d)) := ⟨0, i, i, rfl, rfl, by simp, by omega, by show _ = _; simp, by show _ = _; simp, Nat.le_refl _, ends_step (L := L) (j := 0) d3 (by omega) hL (by simp)⟩
  have hdL : d ≤ L := by omega
  clear eP d3 d2 d1 ed hr i2 hok
  go_enter Try.func27, Try.ntmps27
  go_wp2_with fail
  refine Rt.out.mono ?_
  rintro e w' ⟨rfl, rfl⟩
  go_wp2_with fail
  refine Dp.out.mono ?_
  rintro e w' ⟨rfl, rfl⟩
  go_wp2_with fail
  go_loop [7, 8, 9] (fun lo hi dd => EndsRel i L d lo hi dd) (fun _ _ dd => L - (intOf dd).toNat)
  case atStart => exact R0.out
  case round =>
    obtain ⟨j, a, b, rfl, rfl, rfl, hj, ha, hb, hab, hb49⟩ := hrel
    by_cases hlt : d + j < L
    · have ha2 : Hid (2 * a = i * 2 ^ (j + 1)) := by show _ = _; rw [ha.out, Nat.pow_succ]; rw [Nat.mul_left_comm, Nat.mul_comm 2]
      have hb2 : Hid (2 * b + 1 + 1 = (i + 1) * 2 ^ (j + 1)) := by show _ = _; rw [Nat.pow_succ, ← Nat.mul_assoc, ← hb.out]; omega
      have hb3 := ends_step D3.out (show d + (j + 1) ≤ L by omega) hL hb2.out
      go_wp2_with fail
      go_round
      case rel => exact ⟨j + 1, 2 * a, 2 * b + 1, by go_num, by go_num, by go_num, by omega, ha2, hb2, by omega, hb3⟩
      case measure => simp [intOf]; omega
    · obtain rfl : L = d + j := by omega
      have e1 : Hid ((a : Int) - P = endsLo ((d + j : Nat) : Int) (i : Int)) := by
        show _ = _; rw [hE.out.1, ha.out, show d + j - d = j by omega]; simp
      have e2 : Hid ((b : Int) - P = endsHi ((d + j : Nat) : Int) (i : Int)) := by
        show _ = _
        have h := hb.out
        have h' : (b : Int) = ((i : Int) + 1) * 2 ^ j - 1 := by
          have : ((b + 1 : Nat) : Int) = (((i + 1) * 2 ^ j : Nat) : Int) := by rw [h]
          simp at this; omega
        rw [hE.out.2, h', show d + j - d = j by omega]
      clear hE
      go_wp2_with fail
      refine Pw.out.mono ?_
      rintro e w' ⟨rfl, rfl⟩
      go_wp2_with fail
      refine Pw.out.mono ?_
      rintro e w' ⟨rfl, rfl⟩
      go_wp2_with fail
      exact bodyPost_ret (v := .tuple #[.int .i64 ((a : Int) - P), .int .i64 ((b : Int) - P), .bool true]) (by simp [results, Try.results27, go_sem]) rfl ⟨by rw [e1.out, e2.out], rfl⟩
set_option maxRecDepth 100000 in
set_option maxHeartbeats 2000000 in
theorem r_ends_no (l id : Int) (w : World) (bl : In64 l) (bi : In64 id) (hr : rightB l id = false) :
    Calls Try.prog 27 #[.int .i64 l, .int .i64 id] w fun e w' => e = .returned (.tuple #[.int .i64 0, .int .i64 0, .bool false]) ∧ w = w' := by
  have Rt := hid (r_right l id w bl.1 bl.2 bi.1 bi.2)
  rw [hr] at Rt
  clear hr
  go_enter Try.func27, Try.ntmps27
  go_wp2_with fail
  refine Rt.out.mono ?_
  rintro e w' ⟨rfl, rfl⟩
  go_wp2_with fail
  exact bodyPost_ret (v := .tuple #[.int .i64 0, .int .i64 0, .bool false]) (by simp [results, Try.results27, go_sem]) rfl ⟨rfl, rfl⟩
end Go.Proofs.Ythdljlclcepnhaa

/- The walk of the reference's Above over nodes. -/
namespace Go.Proofs.Ythdljlclcepnhaa
open Go.RowKit Nl

theorem Nl.above_le_sum {id : Int} {zs : List (Int × Int)} (hp : Pos zs) : 0 ≤ aboveV id zs ∧ aboveV id zs ≤ sumL zs := by
  rw [← gsum_sum]
  exact ⟨gsum_zero (fun x hx => by have := hp x hx; unfold aboveF; split <;> omega), gsum_le (fun x hx => by have := hp x hx; unfold aboveF; split <;> omega)⟩
def AbvRel (id : Int) (zs : List Nd) (n i : Value) : Prop := ∃ (k : Nat) (m : Int), i = .int .i64 k ∧ n = .int .i64 m ∧ k ≤ zs.length ∧ Hid (m + aboveV id (zs.drop k) = aboveV id zs)

end Go.Proofs.Ythdljlclcepnhaa
