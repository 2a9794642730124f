/- The walks of the reference's layer 6: Total, Find, Same. -/
import Derived.Test.YtejoecoenehooaaNd
import Derived.Test.YtejoecoenehooaaNdMath
import Derived.Laws.StructEq
namespace Go.Proofs.Ytejoecoenehooaa
open Go.RowKit Nl

theorem ret_ib {k : IntKind} {a c : Int} {b d : Bool} (h1 : a = c) (h2 : b = d) : Ending.returned (.tuple #[.int k a, .bool b]) = .returned (.tuple #[.int k c, .bool d]) := by rw [h1, h2]
theorem ret_int {k : IntKind} {a b : Int} (h : a = b) : Ending.returned (.int k a) = .returned (.int k b) := by rw [h]
theorem ret_bool {a b : Bool} (h : a = b) : Ending.returned (.bool a) = .returned (.bool b) := by rw [h]

def TotRel (xs : List Nd) (n i : Value) : Prop := ∃ (k : Nat) (m : Int), i = .int .i64 k ∧ n = .int .i64 m ∧ k ≤ xs.length ∧ 0 ≤ m ∧ m ≤ 72057594037927935 ∧ Hid (totF 0 xs = totF m (xs.drop k))

set_option maxHeartbeats 1000000 in
theorem r_total {v : Value} {xs : List Nd} (w : World) (hr : RdN w v xs) (hl : xs.length < 2097152) :
    Calls Try.prog 97 #[v] w fun e w' => e = .returned (.tuple #[.int .i64 (totV xs), .bool (totOk xs)]) ∧ w = w' := by
  obtain ⟨p, cap, rfl⟩ := hr.val
  go_enter Try.func97, Try.ntmps97
  go_wp2_with fail
  go_loop [4, 5] (fun n i => TotRel xs n i) (fun _ i => xs.length - (intOf i).toNat)
  case atStart => exact ⟨0, 0, rfl, rfl, by omega, by omega, by omega, rfl⟩
  case round =>
    obtain ⟨k, m, rfl, rfl, hk, hm0, hm1, ht⟩ := hrel
    by_cases h1 : k < xs.length
    · obtain ⟨g, off, a, c, rfl, ex, hg, c1, c2⟩ := hr.at h1
      have ht' : Hid (totF 0 xs = if c < 0 ∨ 72057594037927935 - m < c then none else totF (m + c) (xs.drop (k + 1))) := by
        have := ht.out; rw [drop_at (d := ((0, 0) : Nd)) xs k h1, ex] at this; exact this
      clear ht ex hr
      by_cases h2 : c < 0
      · go_wp2_with fail
        go_ret2
        have e := ht'.out
        rw [if_pos (.inl h2)] at e
        exact ⟨ret_ib (by simp [totV, e]) (by simp [totOk, e]), rfl⟩
      · by_cases h3 : 72057594037927935 - m < c
        · go_wp2_with fail
          go_ret2
          have e := ht'.out
          rw [if_pos (.inr h3)] at e
          exact ⟨ret_ib (by simp [totV, e]) (by simp [totOk, e]), rfl⟩
        · go_wp2_with fail
          go_round
          case rel => exact ⟨k + 1, _, by go_num, rfl, by omega, by omega, by omega, by have e := ht'.out; rw [if_neg (by omega)] at e; exact e⟩
          case measure => simp [intOf]; omega
    · go_wp2_with fail
      go_ret2
      have e := ht.out
      rw [List.drop_eq_nil_of_le (by omega)] at e
      exact ⟨ret_ib (by simp [totV, e, totF]) (by simp [totOk, e, totF]), rfl⟩

def FindRel (xs : List Nd) (id : Int) (i : Value) : Prop := ∃ k : Nat, i = .int .i64 k ∧ k ≤ xs.length ∧ Hid (findL id xs = findL id (xs.drop k))

set_option maxHeartbeats 1000000 in
theorem r_find {v : Value} {xs : List Nd} (id : Int) (w : World) (hr : RdN w v xs) (hl : xs.length < 2097152) :
    Calls Try.prog 142 #[v, .int .i64 id] w fun e w' => e = .returned (.int .i64 (findL id xs)) ∧ w = w' := by
  obtain ⟨p, cap, rfl⟩ := hr.val
  go_enter Try.func142, Try.ntmps142
  go_wp2_with fail
  go_loop [5] (fun i => FindRel xs id i) (fun i => xs.length - (intOf i).toNat)
  case atStart => exact ⟨0, rfl, by omega, rfl⟩
  case round =>
    obtain ⟨k, rfl, hk, ht⟩ := hrel
    by_cases h1 : k < xs.length
    · obtain ⟨g, off, a, c, rfl, ex, hg, c1, c2⟩ := hr.at h1
      have ht' : Hid (findL id xs = if a = id then c else findL id (xs.drop (k + 1))) := by
        have := ht.out; rw [drop_at (d := ((0, 0) : Nd)) xs k h1, ex] at this; exact this
      clear ht ex hr
      by_cases h2 : a = id
      · have h3 : (a == id) = true := by simpa using h2
        have H2 := hid h2
        clear h2
        go_wp2_with fail
        go_ret
        exact ⟨ret_int (by rw [ht'.out, if_pos H2.out]), rfl⟩
      · have h3 : (a == id) = false := by simpa using h2
        have H2 := hid h2
        clear h2
        go_wp2_with fail
        go_round
        case rel => exact ⟨k + 1, by go_num, by omega, by have e := ht'.out; rw [if_neg H2.out] at e; exact e⟩
        case measure => simp [intOf]; omega
    · go_wp2_with fail
      go_ret
      have e := ht.out
      rw [List.drop_eq_nil_of_le (by omega)] at e
      exact ⟨ret_int (by rw [e]; rfl), rfl⟩

def SameRel (xs ys : List Nd) (i : Value) : Prop := ∃ k : Nat, i = .int .i64 k ∧ k ≤ xs.length ∧ Hid (decide (xs = ys) = decide (xs.drop k = ys.drop k))

theorem node_eq (a b c d : Int) (w : World) : (Op.equalIn 10000 100 (.agg #[.int .i64 a, .int .i64 b]) (.agg #[.int .i64 c, .int .i64 d])).run Try.prog w = .ok (a == c && b == d) w := by
  rw [run_equalIn_struct w 9999 100 _ _ (by kernel_rfl) (by kernel_rfl)]
  simp only [Program.fieldsOf, Try.underlying100]
  by_cases h1 : a = c <;> by_cases h2 : b = d <;> simp [Op.eqFields, go_sem, h1, h2]

theorem same_step {xs ys : List Nd} {k : Nat} {a b c d : Int} (h1 : k < xs.length) (h2 : k < ys.length) (e1 : xs.getD k (0, 0) = (a, b)) (e2 : ys.getD k (0, 0) = (c, d)) :
    decide (xs.drop k = ys.drop k) = ((a == c && b == d) && decide (xs.drop (k + 1) = ys.drop (k + 1))) := by
  rw [drop_at (d := ((0, 0) : Nd)) xs k h1, drop_at (d := ((0, 0) : Nd)) ys k h2, e1, e2]
  by_cases c1 : a = c <;> by_cases c2 : b = d <;> simp [c1, c2]

set_option maxHeartbeats 1000000 in
theorem r_same {va vb : Value} {xs ys : List Nd} (w : World) (ha : RdN w va xs) (hb : RdN w vb ys) (hl : xs.length < 2097152) (_hl2 : ys.length < 2097152) :
    Calls Try.prog 29 #[va, vb] w fun e w' => e = .returned (.bool (decide (xs = ys))) ∧ ∃ n, w' = w.drewN n := by
  obtain ⟨pa, ca, rfl⟩ := ha.val
  obtain ⟨pb, cb, rfl⟩ := hb.val
  by_cases hn : xs.length = ys.length
  · have hn1 : ((xs.length : Int) != (ys.length : Int)) = false := by simp [hn]
    have Hn := hid hn
    clear hn
    go_enter Try.func29, Try.ntmps29
    go_wp2_with fail
    go_loopw [5] (fun i wr => SameRel xs ys i ∧ ∃ n, wr = w.drewN n) (fun i _ => xs.length - (intOf i).toNat)
    case atStart => exact ⟨⟨0, rfl, by omega, rfl⟩, 0, rfl⟩
    case round =>
      obtain ⟨⟨k, rfl, hk, ht⟩, nw, rfl⟩ := hrel
      by_cases h1 : k < xs.length
      · have h2 : k < ys.length := by have := Hn.out; omega
        obtain ⟨g, off, a, b, rfl, ex, hg, c1, c2⟩ := ha.at h1
        obtain ⟨g', off', c, d, rfl, ey, hg', c3, c4⟩ := hb.at h2
        have hst := hid (same_step h1 h2 ex ey)
        have hne := node_eq a b c d
        obtain ⟨t, et⟩ : ∃ t, (a == c && b == d) = t := ⟨_, rfl⟩
        rw [et] at hne hst
        clear ex ey ha hb et
        cases t
        · go_wp2_with fail
          go_quiet (fail)
          go_wp2_with fail
          go_ret
          refine ⟨ret_bool ?_, _, by rw [World.drewN_drewN]⟩
          have := ht.out; rw [hst.out] at this
          rw [this]; rfl
        · go_wp2_with fail
          go_quiet (fail)
          go_wp2_with fail
          go_roundw
          case rel => exact ⟨⟨k + 1, by go_num, by omega, by show _ = _; rw [ht.out, hst.out, Bool.true_and]⟩, _, rfl⟩
          case measure => simp [intOf]; omega
      · go_wp2_with fail
        go_ret
        refine ⟨ret_bool ?_, _, rfl⟩
        have e := ht.out
        have := Hn.out
        rw [List.drop_eq_nil_of_le (by omega), List.drop_eq_nil_of_le (by omega)] at e
        rw [e]; simp
  · have hn1 : ((xs.length : Int) != (ys.length : Int)) = true := by simp; omega
    have Hn := hid hn
    clear hn
    go_enter Try.func29, Try.ntmps29
    go_wp2_with fail
    go_ret
    refine ⟨ret_bool ?_, 0, rfl⟩
    have h : xs ≠ ys := fun e => Hn.out (by rw [e])
    simp [h]
end Go.Proofs.Ytejoecoenehooaa
