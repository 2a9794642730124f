/- The walks of the reference's table: New, find, Slots2, Nodes, put, way, Get, Walk. -/
import Derived.Test.YtbbkfjbaocpknaaHtMath
import Derived.Test.YtbbkfjbaocpknaaPbRef1
import Derived.Test.YtbbkfjbaocpknaaProbe9
namespace Go.Proofs.Ytbbkfjbaocpknaa
open Go.RowKit Nl

def HFindRel (n H D : Nat) (i c : Value) : Prop := ∃ j : Nat, i = .int .i64 (((H + j) % n : Nat) : Int) ∧ c = .int .i64 ((j : Int) + 1) ∧ j ≤ D
set_option maxRecDepth 100000 in
set_option maxHeartbeats 1000000 in
theorem h_find {w : World} {l : Int} {b : Nat} {v : Value} {xs : List Nd} (id : Int) (hr : RdN w v xs) (T : Tab b xs) (hb1 : 1 ≤ b) (hb : b ≤ 40) {e : Nat} (he : e < xs.length) (hs : stopB xs id e = true) (bi : 1 ≤ id ∧ id ≤ 9223372036854775807) :
    Calls Try.prog 31 #[.agg #[.int .i64 l, .int .i64 b, v], .int .i64 id] w fun e w' => e = .returned (.tuple #[.int .i64 (lookI xs b id : Nat), .int .i64 ((lookD xs b id : Nat) + 1)]) ∧ Below w.heap.size w w' := by
  obtain ⟨p, cap, rfl⟩ := hr.val
  obtain ⟨s1, s2, s3, s4⟩ := look_spec T id he hs
  have hlen40 : xs.length ≤ 1099511627776 := by
    have h40 : 2 ^ b ≤ 2 ^ 40 := Nat.pow_le_pow_right (by omega) hb
    have h41 : (2 : Nat) ^ 40 = 1099511627776 := rfl
    rw [T.len]; omega
  have h0 := T.pos_len
  have hhome := T.home id
  have HV := hid (homeV_nat (b := b) hb1 (by omega) bi.1)
  have hI : Hid (lookI xs b id = (homeA b id + lookD xs b id) % xs.length) := rfl
  have Pos := hid T.pos
  have S2 := hid s2
  have S4 := hid s4
  generalize lookD xs b id = D at *
  generalize lookI xs b id = I at *
  generalize homeA b id = H at *
  obtain ⟨N, eN⟩ : ∃ N, xs.length = N := ⟨_, rfl⟩
  rw [eN] at hr hlen40 h0 hhome hI s1
  have EN := hid eN
  have hba : Below w.heap.size w (w.alloc (.cells #[.int .i64 l, .int .i64 b, .slice p N cap] 31)) := (Below.refl _ _).alloc (Nat.le_refl _) _
  have X := Blk.new w #[.int .i64 l, .int .i64 b, .slice p N cap] 31
  have hr1 := hr.below hba (Nat.le_refl _)
  clear s2 s4 hs s3 he hr T
  rw [eN]
  clear eN
  go_enter Try.func31, Try.ntmps31
  go_wp2_with fail
  refine (r_home b id _ (by omega) (by omega) (by omega) bi.2).mono ?_
  rintro e w' ⟨rfl, rfl⟩
  rw [HV.out]
  generalize (w.alloc (.cells #[.int .i64 l, .int .i64 b, .slice p N cap] 31)) = w1 at *
  have x2 : w1.cell? ⟨w.heap.size, 2, none⟩ = some (.slice p N cap) := X.cell 2
  go_wp2_with fail
  go_loop [6, 7] (fun i c => HFindRel N H D i c) (fun _ c => D + 2 - (intOf c).toNat)
  case atStart => exact ⟨0, by rw [Nat.add_zero, Nat.mod_eq_of_lt hhome], rfl, by omega⟩
  case round =>
    obtain ⟨j, rfl, rfl, hj⟩ := hrel
    have hq : (H + j) % N < N := Nat.mod_lt _ h0
    have hqx : (H + j) % N < xs.length := by rw [EN.out]; exact hq
    obtain ⟨g, off, a, c, rfl, ex, hg, q1, q2⟩ := hr1.at hqx
    have hca : cntA xs ((H + j) % N) = c := by unfold cntA; rw [ex]
    have hia : idA xs ((H + j) % N) = a := by unfold idA; rw [ex]
    have Sj : Hid (j < D → 0 < c ∧ a ≠ id) := fun q => by have := S4.out j q; rw [EN.out, hca, hia] at this; exact this
    have SD : Hid (j = D → c ≤ 0 ∨ a = id) := fun q => by
      subst q; have := S2.out; rw [hI.out] at this; have := stopB_iff.1 this; rwa [hca, hia] at this
    have hnext : Hid (((H + j) % N + 1) % N = (H + (j + 1)) % N) := add_mod_next
    have hIj : Hid (j = D → (H + j) % N = I) := fun q => by subst q; exact hI.out.symm
    clear hca hia ex hqx
    generalize (H + j) % N = q at *
    have hmod : Hid (((q : Int) + 1) % (N : Int) = (((q + 1) % N : Nat) : Int)) := by show _ = _; simp
    by_cases h1 : 0 < c ∧ a ≠ id
    · have hlt : j < D := by
        by_cases e : j = D
        · rcases SD.out e with h | h
          · omega
          · exact absurd h h1.2
        · omega
      obtain ⟨h1, h2⟩ := h1
      have hne : (a != id) = true := by simpa using h2
      clear h2
      as_aux_lemma =>
        go_wp2_with fail
        go_round
        case rel => exact ⟨j + 1, by rw [hmod.out, hnext.out], by go_num, by omega⟩
        case measure => simp [intOf]; omega
    · have hD : j = D := by
        by_cases e : j < D
        · exact absurd (Sj.out e) h1
        · omega
      have h3 : c ≤ 0 ∨ (0 < c ∧ a = id) := by
        by_cases h : 0 < c
        · right; exact ⟨h, by by_cases q : a = id; exact q; exact absurd ⟨h, q⟩ h1⟩
        · left; omega
      have HD := hid hD
      clear h1 hD
      rcases h3 with h3 | ⟨h3, h4⟩
      · as_aux_lemma =>
          go_wp2_with fail
          go_ret2
          refine ⟨?_, hba⟩
          have e1 := HD.out
          have e2 := hIj.out e1
          subst e1 e2
          rfl
      · have hne : (a != id) = false := by simpa using h4
        clear h4
        as_aux_lemma =>
          go_wp2_with fail
          go_ret2
          refine ⟨?_, hba⟩
          have e1 := HD.out
          have e2 := hIj.out e1
          subst e1 e2
          rfl
end Go.Proofs.Ytbbkfjbaocpknaa
