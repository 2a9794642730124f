/- Texts laid together. -/
import Derived.Test.YtlciofheonbkiaaGreatP34
import Derived.Test.YtlciofheonbkiaaGreatP12
import Derived.Laws.StructEq
import Derived.Test.YtlciofheonbkiaaGreatP13
/- The walk of sheet.Node. -/
namespace Go.Proofs.YtlciofheonbkiaaGreat
set_option maxHeartbeats 8000000
set_option maxRecDepth 100000
open Go.RowKit Sh Nl
theorem Sh.leaf_rep {l x : Int} (h : leafB l x = true) : ∃ n a : Nat, l = (n : Int) ∧ x = (a : Int) ∧ 1 ≤ n ∧ n ≤ 48 ∧ a < 2 ^ n := by
  have h := of_decide_eq_true h
  obtain ⟨n, rfl⟩ := Int.eq_ofNat_of_zero_le (show 0 ≤ l by omega)
  obtain ⟨a, rfl⟩ := Int.eq_ofNat_of_zero_le (show 0 ≤ x by omega)
  refine ⟨n, a, rfl, rfl, by omega, by omega, ?_⟩
  have h3 := h.2.2.2
  rw [Int.toNat_natCast] at h3
  exact_mod_cast h3
theorem Sh.up_right {n x j : Nat} (h1 : 1 ≤ n) (h2 : n ≤ 48) (hx : x < 2 ^ n) (hj : j ≤ n) : rightB (n : Int) (upV (n : Int) (x : Int) j) = true := by
  obtain ⟨e1, e2⟩ := up_rep hx hj
  rw [e1]
  clear e1
  generalize x / 2 ^ j = r at *
  refine decide_eq_true ⟨by omega, by omega, ?_, ?_⟩
  · have : 1 ≤ 2 ^ (n - j) := Nat.one_le_two_pow
    generalize 2 ^ (n - j) = p at *
    omega
  · rw [Int.toNat_natCast]
    have h3 : 2 ^ (n - j) ≤ 2 ^ n := Nat.pow_le_pow_right (by omega) (by omega)
    have c1 : (2 : Int) ^ n = ((2 ^ n : Nat) : Int) := by simp
    rw [c1]
    generalize 2 ^ (n - j) = p at *
    generalize 2 ^ n = q at *
    omega
theorem Sh.hit_leaf {n x j : Nat} {hi : Int} (h1 : 1 ≤ n) (h2 : n ≤ 48) (hx : x < 2 ^ n) (hj : j ≤ n) (h : hitB (x : Int) hi j = true) : leafB (n : Int) hi = true := by
  obtain ⟨h3, h4⟩ := (up_hit hi hx hj).2 h
  obtain ⟨e1, e2⟩ := up_ends hx hj
  obtain ⟨-, e3⟩ := up_rep hx hj
  rw [e2] at h4
  have hs : 2 ^ n = 2 ^ (n - j) * 2 ^ j := by rw [← Nat.pow_add]; congr 1; omega
  have hb : (x / 2 ^ j + 1) * 2 ^ j ≤ 2 ^ (n - j) * 2 ^ j := Nat.mul_le_mul_right _ e3
  rw [← hs, Nat.add_mul, Nat.one_mul] at hb
  have hp : 1 ≤ 2 ^ j := Nat.one_le_two_pow
  have c1 : (2 : Int) ^ n = ((2 ^ n : Nat) : Int) := by simp
  have c2 : (2 : Int) ^ j = ((2 ^ j : Nat) : Int) := by simp
  rw [c2] at h4
  refine decide_eq_true ⟨by omega, by omega, ?_, ?_⟩
  · generalize x / 2 ^ j * 2 ^ j = u at *
    omega
  · rw [Int.toNat_natCast, c1]
    generalize x / 2 ^ j * 2 ^ j = u at *
    omega
def NodePost (L lo hi : Int) (w : World) (e : Ending) (w' : World) : Prop := e = .returned (.tuple #[.int .i64 (nodeV L lo hi), .bool (nodeB L lo hi)]) ∧ Below w.heap.size w w'
theorem Sh.node_no {L lo hi : Int} {w w' : World} (h : leafB L lo = false ∨ ∀ j, j ≤ L.toNat → hitB lo hi j = false) (hb : Below w.heap.size w w') : NodePost L lo hi w (.returned (.tuple #[.int .i64 0, .bool false])) w' := by
  obtain ⟨e1, e2⟩ := node_none h
  exact ⟨by rw [e1, e2], hb⟩
theorem Sh.node_yes {n x j : Nat} {hi : Int} {w w' : World} (h1 : 1 ≤ n) (h2 : n ≤ 48) (hx : x < 2 ^ n) (hj : j ≤ n) (h : hitB (x : Int) hi j = true) (hb : Below w.heap.size w w') : NodePost (n : Int) (x : Int) hi w (.returned (.tuple #[.int .i64 (upV (n : Int) (x : Int) j), .bool true])) w' := by
  have hl : leafB (n : Int) (x : Int) = true := by
    refine decide_eq_true ⟨by omega, by omega, by omega, ?_⟩
    rw [Int.toNat_natCast]
    exact_mod_cast hx
  obtain ⟨e1, e2⟩ := node_some hl (by rw [Int.toNat_natCast]; exact hj) h
  exact ⟨by rw [e1, e2], hb⟩
theorem s_node (L lo hi : Int) (w : World) (bL : In64 L) (bl : In64 lo) (bh : In64 hi) :
    Calls Tryz.prog 192 #[.int .i64 L, .int .i64 lo, .int .i64 hi] w (NodePost L lo hi w) := by
  have LF1 := hid (t_leaf L lo w bL bl)
  have LF2 := hid (t_leaf L hi w bL bh)
  cases h1 : leafB L lo with
  | false =>
    have P := hid (node_no (w := w) (w' := w) (lo := lo) (hi := hi) (.inl h1) (Below.refl _ _))
    rw [h1] at LF1
    clear h1
    generalize leafV L lo = v1 at *
    generalize leafV L hi = v2 at *
    generalize leafB L hi = b2 at *
    go_enter Tryz.func192, Tryz.ntmps192
    go_wp2_with fail
    refine LF1.out.mono ?_
    rintro e w' ⟨rfl, rfl⟩
    go_wp2_with fail
    refine LF2.out.mono ?_
    rintro e w' ⟨rfl, rfl⟩
    go_wp2_with fail
    go_ret2
    exact P.out
  | true =>
    obtain ⟨n, x, rfl, rfl, hn1, hn, hx⟩ := Sh.leaf_rep h1
    cases h2 : leafB (n : Int) hi with
    | false =>
      have P := hid (node_no (L := (n : Int)) (lo := (x : Int)) (hi := hi) (w := w) (w' := w) (.inr (fun j hj => by
        cases h : hitB (x : Int) hi j with
        | false => rfl
        | true =>
          rw [Int.toNat_natCast] at hj
          rw [hit_leaf hn1 hn hx hj h] at h2
          exact absurd h2 (by simp))) (Below.refl _ _))
      rw [h1] at LF1
      rw [h2] at LF2
      clear h1 h2
      generalize leafV (n : Int) (x : Int) = v1 at *
      generalize leafV (n : Int) hi = v2 at *
      go_enter Tryz.func192, Tryz.ntmps192
      go_wp2_with fail
      refine LF1.out.mono ?_
      rintro e w' ⟨rfl, rfl⟩
      go_wp2_with fail
      refine LF2.out.mono ?_
      rintro e w' ⟨rfl, rfl⟩
      go_wp2_with fail
      go_ret2
      exact P.out
    | true =>
      obtain ⟨n', y, hn', rfl, -, -, hy⟩ := Sh.leaf_rep h2
      obtain rfl : n = n' := by omega
      have e1 : leafV (n : Int) (x : Int) = upV (n : Int) (x : Int) 0 := by
        unfold leafV upV; rw [if_pos h1, Int.pow_zero, Int.ediv_one]
      have e2 : leafV (n : Int) (y : Int) = upV (n : Int) (y : Int) 0 := by
        unfold leafV upV; rw [if_pos h2, Int.pow_zero, Int.ediv_one]
      rw [h1, e1] at LF1
      rw [h2, e2] at LF2
      have MT := hid (t_meet w hx hy hn)
      clear h1 h2 e1 e2
      go_enter Tryz.func192, Tryz.ntmps192
      go_wp2_with fail
      refine LF1.out.mono ?_
      rintro e w' ⟨rfl, rfl⟩
      go_wp2_with fail
      refine LF2.out.mono ?_
      rintro e w' ⟨rfl, rfl⟩
      go_wp2_with fail
      refine MT.out.mono ?_
      rintro e w' ⟨k, hk, hke, hkm, rfl, rfl⟩
      have EN := hid (t_ends w (up_right hn1 hn hx hk))
      have UH := hid (up_hit (y : Int) hx hk)
      have NO := hid (fun W (hno : hitB (x : Int) (y : Int) k = false) hb => node_no (L := (n : Int)) (lo := (x : Int)) (hi := (y : Int)) (w := w) (w' := W) (.inr (fun j hj => by
        cases h : hitB (x : Int) (y : Int) j with
        | false => rfl
        | true =>
          rw [Int.toNat_natCast] at hj
          rw [node_meet (n := n) hke hkm j hj h, hno] at h
          exact absurd h (by simp))) hb)
      have YES := hid (fun W hh hb => node_yes (hi := (y : Int)) (w := w) (w' := W) hn1 hn hx hk hh hb)
      clear LF1 LF2 MT
      generalize upV (n : Int) (x : Int) k = u at *
      generalize upV (n : Int) (x : Int) 0 = u0 at *
      generalize upV (n : Int) (y : Int) 0 = u1 at *
      go_wp2_with fail
      refine EN.out.mono ?_
      rintro e W ⟨rfl, hb⟩
      generalize endsLo (n : Int) u = a at *
      generalize endsHi (n : Int) u = b at *
      by_cases q1 : a = (x : Int)
      · by_cases q2 : b = (y : Int)
        · have P := YES.out W (UH.out.1 ⟨q1, q2⟩) hb
          clear YES NO UH EN
          subst q1 q2
          go_wp2_with fail
          go_ret2
          exact P
        · have hq : ¬ (a = (x : Int) ∧ b = (y : Int)) := fun q => q2 q.2
          have P := NO.out W (by simpa using fun q => hq (UH.out.2 q)) hb
          have z1 : (a != (x : Int)) = false := by simpa using q1
          have z2 : (b != (y : Int)) = true := by simpa using q2
          clear YES NO UH EN hq
          go_wp2_with fail
          go_ret2
          exact P
      · have hq : ¬ (a = (x : Int) ∧ b = (y : Int)) := fun q => q1 q.1
        have P := NO.out W (by simpa using fun q => hq (UH.out.2 q)) hb
        have z1 : (a != (x : Int)) = true := by simpa using q1
        clear YES NO UH EN hq
        go_wp2_with fail
        go_ret2
        exact P
end Go.Proofs.YtlciofheonbkiaaGreat
