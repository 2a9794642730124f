/- The walk of PlanTables. -/
import Derived.Test.YtaihjcefgokjkaaPa6m
namespace Go.Proofs.Ytaihjcefgokjkaa
open Go.RowKit Rk

namespace Rk
/-- A table's row. -/
def rowT (l n : Int) (j : Nat) : T3 := (2 ^ j, bytesV (2 ^ j), errV l (2 ^ j) n)
def tabL (l n : Int) : Nat → List T3
  | 0 => []
  | j + 1 => tabL l n j ++ [rowT l n j]
theorem tab_len (l n : Int) (j : Nat) : (tabL l n j).length = j := by
  induction j with
  | zero => rfl
  | succ j ih => simp [tabL, ih]
theorem tab_err {l n : Int} (h1 : 1 ≤ l ∧ l ≤ 48) (h2 : 0 ≤ n ∧ n ≤ 72057594037927935) : errOk l 1 n = true := by
  simp [errOk, uniB, isK, h1, h2]
theorem tab_err_no {l n : Int} (h : ¬ ((1 ≤ l ∧ l ≤ 48) ∧ 0 ≤ n ∧ n ≤ 72057594037927935)) : errOk l 1 n = false := by
  simp only [errOk, uniB, isK, Bool.and_eq_false_iff, decide_eq_false_iff_not]
  omega
end Rk
theorem row_info1 : (Try.prog.info? 42).map (fun i => (i.zero, i.size, i.bytes)) = some (some (.agg #[.int .i64 0, .int .i64 0, .int .i64 0]), 3, 24) := by kernel_rfl
theorem row_info2 : (Try.prog.info? 43).map (fun i => (i.zero, i.size, i.bytes)) = some (some (.agg #[.int .i64 0, .int .i64 0, .int .i64 0]), 3, 24) := by kernel_rfl
theorem none_lt3 {B : Nat} : ∀ k, Value.ownBlock (.slice none 0 0) = some k → B ≤ k := fun k hk => by simp [Value.ownBlock] at hk
theorem below_grown3 {w w' : World} {row : Option Nat} {B : Nat} (hg : w.grownBy w' row) (hB : B ≤ w.heap.size) (h : ∀ k, row = some k → B ≤ k) : Below B w w' := (Below.refl _ _).grown hg hB h

def TabRel (E : TypeId) (l n : Int) (N : Nat) (w : World) (o i : Value) (wr : World) : Prop := ∃ j : Nat, i = .int .i64 j ∧ j ≤ N ∧ Own3 E wr w.heap.size o (tabL l n j) ∧ Below w.heap.size w wr
def TabRel2 (E : TypeId) (l n : Int) (N : Nat) (w : World) (o k i : Value) (wr : World) : Prop := ∃ j : Nat, i = .int .i64 j ∧ j ≤ N ∧ k = .int .i64 (2 ^ j) ∧ Own3 E wr w.heap.size o (tabL l n j) ∧ Below w.heap.size w wr
def TabPost (E : TypeId) (l n : Int) (N : Nat) (w : World) (e : Ending) (w' : World) : Prop := ∃ v, e = .returned (.tuple #[v, .int .i64 0]) ∧ Own3 E w' w.heap.size v (tabL l n N) ∧ Below w.heap.size w w'

set_option maxRecDepth 100000 in
set_option maxHeartbeats 2000000 in
theorem pa_table (l n : Int) (N : Nat) (w : World) (hl : 1 ≤ l ∧ l ≤ 48) (hn : 0 ≤ n ∧ n ≤ 72057594037927935) (h1 : 1 ≤ N) (h2 : N ≤ 21) :
    Calls Try.prog 15 #[.int .i64 l, .int .i64 n, .int .i64 N] w (TabPost 42 l n N w) := by
  obtain ⟨l1, l2⟩ := hl
  obtain ⟨n1, n2⟩ := hn
  have E0 := fun W : World => pa_error l 1 n W ⟨by omega, by omega⟩ ⟨by omega, by omega⟩ ⟨by omega, by omega⟩
  rw [tab_err ⟨l1, l2⟩ ⟨n1, n2⟩] at E0
  have E1 := hid E0
  have PB := hid (fun (W : World) k => pa_bytes k W)
  have PE := hid (fun (W : World) (k : Int) (hk : 1 ≤ k) (hk2 : k ≤ 281474976710656) => pa_error l k n W ⟨by omega, by omega⟩ ⟨by omega, by omega⟩ ⟨by omega, by omega⟩)
  clear E0
  go_enter Try.func15, Try.ntmps15
  go_wp2_with fail
  refine (E1.out _).mono ?_
  rintro e w' ⟨rfl, rfl⟩
  go_wp2_with fail
  go_loopw [10, 30] (fun o i wr => TabRel 42 l n N w o i wr) (fun _ i _ => N - (intOf i).toNat)
  case atStart => exact ⟨0, rfl, Nat.zero_le _, Own3.nil _ _ _, Below.refl _ _⟩
  case round =>
    obtain ⟨j, rfl, hj, own, hbl⟩ := hrel
    obtain ⟨po, co, rfl⟩ := own.val
    have hwr := hbl.size
    by_cases hlt : j < N
    · obtain ⟨p1, p2⟩ := pow48 (n := j) (by omega)
      have hj48 : j ≤ 48 := by omega
      have hlen := tab_len l n j
      have BB := hid (fun W : World => PB.out W (2 ^ j))
      have EE := hid (fun W : World => PE.out W (2 ^ j) p1 p2)
      have est : tabL l n (j + 1) = tabL l n j ++ [(2 ^ j, bytesV (2 ^ j), errV l (2 ^ j) n)] := rfl
      generalize bytesV (2 ^ j) = bv at *
      generalize errV l (2 ^ j) n = ev at *
      obtain ⟨M, eM⟩ : ∃ M, tabL l n j = M := ⟨_, rfl⟩
      rw [eM] at own est hlen
      have EST := hid est
      have HLN := hid hlen
      have own2 := own.alloc (.cells #[.int .i64 (2 ^ j), .int .i64 bv, .int .i64 ev] 42)
      have hbl2 : Below w.heap.size w (wr.alloc (.cells #[.int .i64 (2 ^ j), .int .i64 bv, .int .i64 ev] 42)) := hbl.alloc hwr _
      have hs2 : (wr.alloc (.cells #[.int .i64 (2 ^ j), .int .i64 bv, .int .i64 ev] 42)).heap.size = wr.heap.size + 1 := by simp
      clear est hlen PB PE own hbl
      rw [eM]
      clear eM
      go_wp2_with fail
      refine (BB.out _).mono ?_
      rintro e w' ⟨rfl, rfl⟩
      go_wp2_with fail
      refine (EE.out _).mono ?_
      rintro e w' ⟨rfl, rfl⟩
      go_wp2_with (at_builtin; refine append3 (wr := wr.alloc (.cells #[.int .i64 (2 ^ j), .int .i64 bv, .int .i64 ev] 42)) (x := 2 ^ j) (y := bv) (z := ev) 35 42 Try.underlying35 row_info1 _ _ own2 (by have := HLN.out; omega) (by omega) rfl rfl rfl rfl (by simp [go_sem]) ?_; intro v3 w3 ho3 hg3)
      go_roundw
      case rel => exact ⟨j + 1, by go_num, by omega, by rw [EST.out]; exact ho3, hbl2.trans (below_grown3 hg3 (by omega) own2.lt)⟩
      case measure => simp [intOf]; omega
    · have ej : j = N := by omega
      subst ej
      go_wp2_with fail
      go_ret2
      exact ⟨_, rfl, own, hbl⟩

set_option maxRecDepth 100000 in
set_option maxHeartbeats 2000000 in
theorem r_table (l n : Int) (N : Nat) (w : World) (hl : 1 ≤ l ∧ l ≤ 48) (hn : 0 ≤ n ∧ n ≤ 72057594037927935) (h1 : 1 ≤ N) (h2 : N ≤ 21) :
    Calls Try.prog 16 #[.int .i64 l, .int .i64 n, .int .i64 N] w (TabPost 43 l n N w) := by
  obtain ⟨l1, l2⟩ := hl
  obtain ⟨n1, n2⟩ := hn
  have U0 := fun W : World => r_isL l W
  rw [show uniB l = true from decide_eq_true ⟨l1, l2⟩] at U0
  have U := hid U0
  have PB := hid (fun (W : World) k => r_bytes k W)
  have PE := hid (fun (W : World) (k : Int) (hk : 1 ≤ k) (hk2 : k ≤ 281474976710656) => r_error l k n W ⟨by omega, by omega⟩ ⟨by omega, by omega⟩ ⟨by omega, by omega⟩)
  clear U0
  go_enter Try.func16, Try.ntmps16
  go_wp2_with fail
  refine (U.out _).mono ?_
  rintro e w' ⟨rfl, rfl⟩
  go_wp2_with fail
  go_loopw [8, 9, 10] (fun o k i wr => TabRel2 43 l n N w o k i wr) (fun _ _ i _ => N - (intOf i).toNat)
  case atStart => exact ⟨0, rfl, Nat.zero_le _, rfl, Own3.nil _ _ _, Below.refl _ _⟩
  case round =>
    obtain ⟨j, rfl, hj, rfl, own, hbl⟩ := hrel
    obtain ⟨po, co, rfl⟩ := own.val
    have hwr := hbl.size
    by_cases hlt : j < N
    · obtain ⟨p1, p2⟩ := pow48 (n := j) (by omega)
      have hj48 : j ≤ 48 := by omega
      have hlen := tab_len l n j
      have BB := hid (fun W : World => PB.out W (2 ^ j))
      have EE := hid (fun W : World => PE.out W (2 ^ j) p1 p2)
      have hs : (2 : Int) ^ (j + 1) = 2 * 2 ^ j := by rw [Int.pow_succ]; omega
      have est : tabL l n (j + 1) = tabL l n j ++ [(2 ^ j, bytesV (2 ^ j), errV l (2 ^ j) n)] := rfl
      have HS := hid hs
      generalize bytesV (2 ^ j) = bv at *
      generalize errV l (2 ^ j) n = ev at *
      obtain ⟨M, eM⟩ : ∃ M, tabL l n j = M := ⟨_, rfl⟩
      rw [eM] at own est hlen
      have EST := hid est
      have HLN := hid hlen
      clear est hlen PB PE hs
      rw [eM]
      clear eM
      go_wp2_with fail
      refine (BB.out _).mono ?_
      rintro e w' ⟨rfl, rfl⟩
      go_wp2_with fail
      refine (EE.out _).mono ?_
      rintro e w' ⟨rfl, rfl⟩
      go_wp2_with (at_builtin; refine append3 (wr := wr) (x := 2 ^ j) (y := bv) (z := ev) 38 43 Try.underlying38 row_info2 _ _ own (by have := HLN.out; omega) (by omega) rfl rfl rfl rfl (by simp [go_sem]) ?_; intro v3 w3 ho3 hg3)
      go_roundw
      case rel => exact ⟨j + 1, by go_num, by omega, by rw [HS.out], by rw [EST.out]; exact ho3, hbl.trans (below_grown3 hg3 (by omega) own.lt)⟩
      case measure => simp [intOf]; omega
    · have ej : j = N := by omega
      subst ej
      go_wp2_with fail
      go_ret2
      exact ⟨_, rfl, own, hbl⟩

def tabB (l n r : Int) : Prop := (1 ≤ l ∧ l ≤ 48) ∧ (0 ≤ n ∧ n ≤ 72057594037927935) ∧ 1 ≤ r ∧ r ≤ 21
set_option maxRecDepth 100000 in
set_option maxHeartbeats 1000000 in
theorem pa_table_no (l n r : Int) (w : World) (bl : In64 l) (bn : In64 n) (h : ¬ tabB l n r) :
    Calls Try.prog 15 #[.int .i64 l, .int .i64 n, .int .i64 r] w fun e w' => e = .returned (.tuple #[.slice none 0 0, .int .i64 2]) ∧ w = w' := by
  have E0 := fun W : World => pa_error l 1 n W bl ⟨by omega, by omega⟩ bn
  by_cases h1 : (1 ≤ l ∧ l ≤ 48) ∧ 0 ≤ n ∧ n ≤ 72057594037927935
  · rw [tab_err h1.1 h1.2] at E0
    have E1 := hid E0
    have hr : r < 1 ∨ (1 ≤ r ∧ 21 < r) := by
      by_cases q : r < 1
      · exact .inl q
      · exact .inr ⟨by omega, by
          by_cases q2 : 21 < r
          · exact q2
          · exact absurd ⟨h1.1, h1.2, by omega, by omega⟩ h⟩
    clear E0 h h1
    rcases hr with q | ⟨q1, q2⟩
    all_goals
      go_enter Try.func15, Try.ntmps15
      go_wp2_with fail
      refine (E1.out _).mono ?_
      rintro e w' ⟨rfl, rfl⟩
      go_wp2_with fail
      go_ret2
      exact ⟨rfl, rfl⟩
  · rw [tab_err_no h1] at E0
    have E1 := hid E0
    clear E0 h h1
    go_enter Try.func15, Try.ntmps15
    go_wp2_with fail
    refine (E1.out _).mono ?_
    rintro e w' ⟨rfl, rfl⟩
    go_wp2_with fail
    go_ret2
    exact ⟨rfl, rfl⟩
set_option maxRecDepth 100000 in
set_option maxHeartbeats 1000000 in
theorem r_table_no (l n r : Int) (w : World) (h : ¬ tabB l n r) :
    Calls Try.prog 16 #[.int .i64 l, .int .i64 n, .int .i64 r] w fun e w' => e = .returned (.tuple #[.slice none 0 0, .int .i64 2]) ∧ w = w' := by
  have U0 := fun W : World => r_isL l W
  by_cases h1 : 1 ≤ l ∧ l ≤ 48
  · rw [show uniB l = true from decide_eq_true h1] at U0
    have U := hid U0
    have hr : n < 0 ∨ (0 ≤ n ∧ 72057594037927935 < n) ∨ (0 ≤ n ∧ n ≤ 72057594037927935 ∧ r < 1) ∨ (0 ≤ n ∧ n ≤ 72057594037927935 ∧ 1 ≤ r ∧ 21 < r) := by
      by_cases q : 0 ≤ n ∧ n ≤ 72057594037927935
      · by_cases q2 : 1 ≤ r ∧ r ≤ 21
        · exact absurd ⟨h1, q, q2⟩ h
        · omega
      · omega
    clear U0 h h1
    rcases hr with q | ⟨q1, q2⟩ | ⟨q1, q2, q3⟩ | ⟨q1, q2, q3, q4⟩
    all_goals
      go_enter Try.func16, Try.ntmps16
      go_wp2_with fail
      refine (U.out _).mono ?_
      rintro e w' ⟨rfl, rfl⟩
      go_wp2_with fail
      go_ret2
      exact ⟨rfl, rfl⟩
  · rw [show uniB l = false from decide_eq_false h1] at U0
    have U := hid U0
    clear U0 h h1
    go_enter Try.func16, Try.ntmps16
    go_wp2_with fail
    refine (U.out _).mono ?_
    rintro e w' ⟨rfl, rfl⟩
    go_wp2_with fail
    go_ret2
    exact ⟨rfl, rfl⟩

def CmpRel (N : Nat) (w2 : World) (i : Value) (wr : World) : Prop := ∃ j : Nat, i = .int .i64 j ∧ j ≤ N ∧ Below w2.heap.size w2 wr
set_option maxRecDepth 100000 in
set_option maxHeartbeats 4000000 in
theorem PlanTables_walk (l n r : Int) (w : World) (bl : In64 l) (bn : In64 n) (_br : In64 r) :
    Calls Try.prog 4 #[.int .i64 l, .int .i64 n, .int .i64 r] w fun e w' => e = .returned (.bool true) ∧ Below w.heap.size w w' := by
  have A := hid (fun W : World => pa_alive W)
  by_cases h : tabB l n r
  · obtain ⟨hl, hn, h1, h2⟩ := h
    obtain ⟨N, rfl⟩ := Int.eq_ofNat_of_zero_le (show 0 ≤ r by omega)
    have PT := hid (fun W : World => pa_table l n N W hl hn (by omega) (by omega))
    have RT := hid (fun W : World => r_table l n N W hl hn (by omega) (by omega))
    have hlen := tab_len l n N
    have hN : N ≤ 21 := by omega
    have hN1 : 1 ≤ N := by omega
    clear bl bn hl hn h1 h2
    go_enter Try.func4, Try.ntmps4
    go_wp2_with fail
    refine (PT.out _).mono ?_
    rintro e w1 ⟨v1, rfl, o1, hb1⟩
    have hs1 := hb1.size
    go_wp2_with fail
    refine (RT.out _).mono ?_
    rintro e w2 ⟨v2, rfl, o2, hb2⟩
    clear PT RT
    generalize tabL l n N = Z at *
    have hs2 := hb2.size
    have o12 := o1.below hb2 (Nat.le_refl _)
    have hbw2 := hb1.trans (hb2.mono hs1)
    rcases o12.shape with ⟨-, hz⟩ | ⟨g1, c1, rfl, hg1, hgl1, hc1, hat1⟩
    · rw [hz] at hlen; simp at hlen; omega
    rcases o2.shape with ⟨-, hz⟩ | ⟨g2, c2, rfl, hg2, hgl2, hc2, hat2⟩
    · rw [hz] at hlen; simp at hlen; omega
    have HL := hid hlen
    have hZ21 : Z.length ≤ 21 := by omega
    have hq : ((Z.length : Int) != (Z.length : Int)) = false := by simp
    clear o1 o2 o12 hb1 hb2 hlen
    go_wp2_with fail
    go_loopw [38] (fun i wr => CmpRel Z.length w2 i wr) (fun i _ => Z.length - (intOf i).toNat)
    case atStart => exact ⟨0, rfl, Nat.zero_le _, Below.refl _ _⟩
    case round =>
      obtain ⟨j, rfl, hj, hbl⟩ := hrel
      by_cases hlt : j < Z.length
      · obtain ⟨a0, a1, a2⟩ := hat1 j hlt
        obtain ⟨b0, b1, b2⟩ := hat2 j hlt
        rw [← hbl.cell (by exact hgl1)] at a0 a1 a2
        rw [← hbl.cell (by exact hgl2)] at b0 b1 b2
        obtain ⟨⟨x, y, z⟩, ez⟩ : ∃ t, Z.getD j (0, 0, 0) = t := ⟨_, rfl⟩
        rw [ez] at a0 a1 a2 b0 b1 b2
        simp only at a0 a1 a2 b0 b1 b2
        have q1 : (x != x) = false := by simp
        have q2 : (y != y) = false := by simp
        have q3 : (z != z) = false := by simp
        have hbd := below_drewN hbl 1
        clear hat1 hat2 ez A
        go_wp2_with fail
        go_region
        go_wp2_with fail
        go_roundw
        case rel => exact ⟨j + 1, by go_num, by omega, hbd⟩
        case measure => simp [intOf]; omega
      · go_wp2_with fail
        refine (A.out _).mono ?_
        rintro e w3 ⟨rfl, hb3⟩
        go_wp2_with fail
        go_ret
        exact ⟨rfl, hbw2.trans ((hbl.trans (hb3.mono hbl.size)).mono (by omega))⟩
  · have PT := hid (fun W : World => pa_table_no l n r W bl bn h)
    have RT := hid (fun W : World => r_table_no l n r W h)
    clear bl bn h
    go_enter Try.func4, Try.ntmps4
    go_wp2_with fail
    refine (PT.out _).mono ?_
    rintro e w' ⟨rfl, rfl⟩
    go_wp2_with fail
    refine (RT.out _).mono ?_
    rintro e w' ⟨rfl, rfl⟩
    go_wp2_with fail
    go_loopw [38] (fun i wr => i = .int .i64 0 ∧ w = wr) (fun _ _ => 0)
    case atStart => exact ⟨rfl, rfl⟩
    case round =>
      obtain ⟨rfl, rfl⟩ := hrel
      go_wp2_with fail
      refine (A.out _).mono ?_
      rintro e w3 ⟨rfl, hb3⟩
      go_wp2_with fail
      go_ret
      exact ⟨rfl, hb3⟩
end Go.Proofs.Ytaihjcefgokjkaa
