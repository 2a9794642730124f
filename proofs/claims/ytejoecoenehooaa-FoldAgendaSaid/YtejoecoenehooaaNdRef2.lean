/- The walks of the reference's layer 6: put, Sorted, Fold. -/
import Derived.Test.YtejoecoenehooaaNdRef1
namespace Go.Proofs.Ytejoecoenehooaa
open Go.RowKit Nl

/-- Nodes in new memory. -/
def IsNodes (xs : List Nd) (w : World) (e : Ending) (w' : World) : Prop := ∃ v, e = .returned v ∧ OwnN w' w.heap.size v xs ∧ Below w.heap.size w w'

theorem none_lt {B : Nat} : ∀ k, Value.ownBlock (.slice none 0 0) = some k → B ≤ k := fun k hk => by simp [Value.ownBlock] at hk

set_option maxRecDepth 100000 in
set_option maxHeartbeats 1000000 in
theorem r_put {v : Value} {xs : List Nd} {B0 : Nat} (k : Nat) (a b : Int) (w : World) (ho : OwnN w B0 v xs) (hn : xs.length < 1048576) (hk : k ≤ xs.length) :
    Calls Try.prog 155 #[v, .int .i64 k, .agg #[.int .i64 a, .int .i64 b]] w (IsNodes (xs.take k ++ (a, b) :: xs.drop k) w) := by
  rcases ho.shape with ⟨rfl, rfl⟩ | ⟨g, cap, rfl, _, hg, hc, hcells⟩
  · obtain rfl : k = 0 := by simpa using hk
    have hA : RdN w (.slice none 0 0) [] := RdN.nil _
    have hB := hA
    have hlB : ∀ g', Value.ownBlock (.slice none 0 0) = some g' → g' < w.heap.size := fun g' q => by simp [Value.ownBlock] at q
    go_enter Try.func155, Try.ntmps155
    go_wp2_with (first
      | (at_builtin; refine appendsN (B := w.heap.size + 1) _ _ (OwnN.nil _ _) (hA.alloc (.cells #[.int .i64 a, .int .i64 b] 100)) (by simp <;> omega) (by simp) rfl rfl rfl rfl ?_; intro v1 w1 ho1 hg1
         have hs1 : w.heap.size + 1 ≤ w1.heap.size := by have := hg1.size; simpa using this
         have hx0 : w1.cell? ⟨w.heap.size, 0, none⟩ = some (.int .i64 a) := cell_grown (by simp) hg1 none_lt (Nat.lt_succ_self _)
         have hx1 : w1.cell? ⟨w.heap.size, 1, none⟩ = some (.int .i64 b) := cell_grown (by simp) hg1 none_lt (Nat.lt_succ_self _))
      | (at_builtin; refine appendN (wr := w1) (b := a) (c := b) _ _ ho1 (by simp <;> omega) hs1 rfl rfl rfl rfl rfl ?_; intro v2 w2 ho2 hg2 hnn
         have hs2 := hg2.size
         have hB1 := (hB.alloc (.cells #[.int .i64 a, .int .i64 b] 100)).grown hg1 (fun g' hg' => by simp [Value.ownBlock])
         have hB2 := hB1.grown hg2 (fun g' hg' => ne_row ho1.lt (Nat.lt_succ_of_lt (hlB g' hg'))))
      | (at_builtin; refine appendsN _ _ ho2 hB2 (by simp <;> omega) (by omega) rfl rfl rfl rfl ?_; intro v3 w3 ho3 hg3
         have hs3 := hg3.size))
    go_ret
    refine ⟨_, rfl, ?_, ?_⟩
    · have h := ho3.mono (B' := w.heap.size) (by omega)
      simpa using h
    · exact ((Below.refl _ _).alloc (Nat.le_refl _) _).trans (((below_grown hg1 (by simp) none_lt).trans (below_grown hg2 (by omega) (fun k hk => by have := ho1.lt k hk; omega))).trans (below_grown hg3 (by omega) (fun k hk => by have := ho2.lt k hk; omega)))
  · have hr : RdN w (.slice (some ⟨g, 0, none⟩) xs.length cap) xs := ho.rd
    have hA := hr.take k hk
    clear hcells
    by_cases hck : k < cap
    · have hB := hr.drop k hk
      rw [Nat.zero_add] at hB
      have hlB : ∀ g', Value.ownBlock (.slice (some ⟨g, k * 2, none⟩) (xs.length - k) (cap - k)) = some g' → g' < w.heap.size := fun g' q => by simp [Value.ownBlock] at q; omega
      go_enter Try.func155, Try.ntmps155
      go_wp2_with (first
        | (at_builtin; refine appendsN (B := w.heap.size + 1) _ _ (OwnN.nil _ _) (hA.alloc (.cells #[.int .i64 a, .int .i64 b] 100)) (by simp <;> omega) (by simp) rfl rfl rfl rfl ?_; intro v1 w1 ho1 hg1
           have hs1 : w.heap.size + 1 ≤ w1.heap.size := by have := hg1.size; simpa using this
           have hx0 : w1.cell? ⟨w.heap.size, 0, none⟩ = some (.int .i64 a) := cell_grown (by simp) hg1 none_lt (Nat.lt_succ_self _)
           have hx1 : w1.cell? ⟨w.heap.size, 1, none⟩ = some (.int .i64 b) := cell_grown (by simp) hg1 none_lt (Nat.lt_succ_self _))
        | (at_builtin; refine appendN (wr := w1) (b := a) (c := b) _ _ ho1 (by simp <;> omega) hs1 rfl rfl rfl rfl rfl ?_; intro v2 w2 ho2 hg2 hnn
           have hs2 := hg2.size
           have hB1 := (hB.alloc (.cells #[.int .i64 a, .int .i64 b] 100)).grown hg1 (fun g' hg' => by simp [Value.ownBlock])
           have hB2 := hB1.grown hg2 (fun g' hg' => ne_row ho1.lt (Nat.lt_succ_of_lt (hlB g' hg'))))
        | (at_builtin; refine appendsN _ _ ho2 hB2 (by simp <;> omega) (by omega) rfl rfl rfl rfl ?_; intro v3 w3 ho3 hg3
           have hs3 := hg3.size))
      go_ret
      refine ⟨_, rfl, ?_, ?_⟩
      · have h := ho3.mono (B' := w.heap.size) (by omega)
        simpa using h
      · exact ((Below.refl _ _).alloc (Nat.le_refl _) _).trans (((below_grown hg1 (by simp) none_lt).trans (below_grown hg2 (by omega) (fun k hk => by have := ho1.lt k hk; omega))).trans (below_grown hg3 (by omega) (fun k hk => by have := ho2.lt k hk; omega)))
    · obtain rfl : k = cap := by omega
      obtain rfl : k = xs.length := by omega
      have hB : RdN w (.slice (some ⟨g, 0, none⟩) 0 0) [] := RdN.none hg
      have hlB : ∀ g', Value.ownBlock (.slice (some ⟨g, 0, none⟩) 0 0) = some g' → g' < w.heap.size := fun g' q => by simp [Value.ownBlock] at q; omega
      go_enter Try.func155, Try.ntmps155
      go_wp2_with (first
        | (at_builtin; refine appendsN (B := w.heap.size + 1) _ _ (OwnN.nil _ _) (hA.alloc (.cells #[.int .i64 a, .int .i64 b] 100)) (by simp <;> omega) (by simp) rfl rfl rfl rfl ?_; intro v1 w1 ho1 hg1
           have hs1 : w.heap.size + 1 ≤ w1.heap.size := by have := hg1.size; simpa using this
           have hx0 : w1.cell? ⟨w.heap.size, 0, none⟩ = some (.int .i64 a) := cell_grown (by simp) hg1 none_lt (Nat.lt_succ_self _)
           have hx1 : w1.cell? ⟨w.heap.size, 1, none⟩ = some (.int .i64 b) := cell_grown (by simp) hg1 none_lt (Nat.lt_succ_self _))
        | (at_builtin; refine appendN (wr := w1) (b := a) (c := b) _ _ ho1 (by simp <;> omega) hs1 rfl rfl rfl rfl rfl ?_; intro v2 w2 ho2 hg2 hnn
           have hs2 := hg2.size
           have hB1 := (hB.alloc (.cells #[.int .i64 a, .int .i64 b] 100)).grown hg1 (fun g' hg' => by simp [Value.ownBlock])
           have hB2 := hB1.grown hg2 (fun g' hg' => ne_row ho1.lt (Nat.lt_succ_of_lt (hlB g' hg'))))
        | (at_builtin; refine appendsN _ _ ho2 hB2 (by simp <;> omega) (by omega) rfl rfl rfl rfl ?_; intro v3 w3 ho3 hg3
           have hs3 := hg3.size))
      go_ret
      refine ⟨_, rfl, ?_, ?_⟩
      · have h := ho3.mono (B' := w.heap.size) (by omega)
        simpa using h
      · exact ((Below.refl _ _).alloc (Nat.le_refl _) _).trans (((below_grown hg1 (by simp) none_lt).trans (below_grown hg2 (by omega) (fun k hk => by have := ho1.lt k hk; omega))).trans (below_grown hg3 (by omega) (fun k hk => by have := ho2.lt k hk; omega)))

def SortRel (w : World) (xs : List Nd) (out i : Value) (wr : World) : Prop := ∃ k : Nat, i = .int .i64 k ∧ k ≤ xs.length ∧ OwnN wr w.heap.size out (sortL (xs.take k)) ∧ Below w.heap.size w wr
def BackRel (ys : List Nd) (id : Int) (wo : World) (at_ : Value) (wr : World) : Prop := ∃ j : Nat, at_ = .int .i64 j ∧ j ≤ ys.length ∧ Hid (back ys id ys.length = back ys id j) ∧ ∃ n, wr = wo.drewN n

set_option maxRecDepth 100000 in
set_option maxHeartbeats 1000000 in
theorem r_sorted {v : Value} {xs : List Nd} (w : World) (hr : RdN w v xs) (hl : xs.length < 1048576) :
    Calls Try.prog 143 #[v] w (IsNodes (sortL xs) w) := by
  obtain ⟨p, cap, rfl⟩ := hr.val
  go_enter Try.func143, Try.ntmps143
  go_wp2_with fail
  go_loopw [3, 4] (fun out i wr => SortRel w xs out i wr) (fun _ i _ => xs.length - (intOf i).toNat)
  case atStart => exact ⟨0, rfl, by omega, by simp [sortL]; exact OwnN.nil _ _, Below.refl _ _⟩
  case round =>
    obtain ⟨k, rfl, hk, hown, hbl⟩ := hrel
    have hwr := hbl.size
    by_cases h1 : k < xs.length
    · obtain ⟨wo, rfl⟩ : ∃ wo : World, wo = wr := ⟨_, rfl⟩
      have hr' := hr.below hbl (Nat.le_refl _)
      obtain ⟨g, off, a, c, rfl, ex, hg, c1, c2⟩ := hr'.at h1
      obtain ⟨ys, ey⟩ : ∃ ys, sortL (xs.take k) = ys := ⟨_, rfl⟩
      have hyl : ys.length = k := by rw [← ey, sortL_length]; simp; omega
      have hnext : Hid (sortL (xs.take (k + 1)) = insL ys (a, c)) := by
        show _ = _
        rw [take_at (d := ((0, 0) : Nd)) xs k h1, ex, sortL_snoc, ey]
      rw [ey] at hown
      have hyl' : ys.length < 1048576 := by omega
      have Hyl := hid hyl
      clear hr' hr ey ex hyl
      obtain ⟨p2, cap2, rfl⟩ := hown.val
      go_wp2_with fail
      go_loopw [5] (fun at_ wr => BackRel ys a wo at_ wr) (fun at_ _ => (intOf at_).toNat)
      case atStart => exact ⟨ys.length, rfl, by omega, rfl, 0, rfl⟩
      case round =>
        obtain ⟨j, rfl, hj, hbk, nw, rfl⟩ := hrel
        by_cases h2 : 0 < j
        · obtain ⟨j', rfl⟩ : ∃ j', j = j' + 1 := ⟨j - 1, by omega⟩
          have h3 : j' < ys.length := by omega
          obtain ⟨g2, off2, b, d, rfl, ey, hg2, c3, c4⟩ := hown.rd.at h3
          have hb' : Hid (back ys a (j' + 1) = if a < b then back ys a j' else j' + 1) := by show _ = _; rw [back, ey]
          clear ey
          by_cases h4 : a < b
          · go_wp2_with fail
            go_quiet (fail)
            go_wp2_with fail
            go_roundw
            case rel => exact ⟨j', by go_num, by omega, by show _ = _; rw [hbk.out, hb'.out, if_pos h4], _, rfl⟩
            case measure => simp [intOf]
          · go_wp2_with fail
            go_quiet (fail)
            go_wp2_with fail
            refine (r_put (j' + 1) a c _ (hown.drewN _) hyl' (by omega)).mono ?_
            rintro e w3 ⟨v3, rfl, ho3, hb3⟩
            have hs3 := hb3.size
            go_wp2_with fail
            go_roundw
            case rel =>
              refine ⟨k + 1, by go_num, by omega, ?_, (below_drewN hbl _).trans (hb3.mono (by simp; omega))⟩
              have e := hbk.out
              rw [hb'.out, if_neg (by omega)] at e
              rw [hnext.out]
              unfold insL
              rw [e]
              exact ho3.mono (by simp; omega)
            case measure => simp [intOf]; omega
        · obtain rfl : j = 0 := by omega
          have h3 : decide ((0 : Int) < ((0 : Nat) : Int)) = false := by simp
          go_wp2_with fail
          go_quiet (fail)
          go_wp2_with fail
          refine (r_put (0) a c _ (hown.drewN _) hyl' (by omega)).mono ?_
          rintro e w3 ⟨v3, rfl, ho3, hb3⟩
          have hs3 := hb3.size
          go_wp2_with fail
          go_roundw
          case rel =>
            refine ⟨k + 1, by go_num, by omega, ?_, (below_drewN hbl _).trans (hb3.mono (by simp; omega))⟩
            have e := hbk.out
            rw [show back ys a 0 = 0 from rfl] at e
            rw [hnext.out]
            unfold insL
            rw [e]
            exact ho3.mono (by simp; omega)
          case measure => simp [intOf]; omega
    · go_wp2_with fail
      go_ret
      refine ⟨_, rfl, ?_, hbl⟩
      rw [List.take_of_length_le (by omega)] at hown; exact hown
end Go.Proofs.Ytejoecoenehooaa
