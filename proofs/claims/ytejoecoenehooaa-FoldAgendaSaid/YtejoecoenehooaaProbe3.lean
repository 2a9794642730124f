/- The walk of the probe's look. -/
import Derived.Test.YtejoecoenehooaaProbe2
namespace Go.Proofs.Ytejoecoenehooaa
open Go.RowKit Nl

theorem homeV_nat {b : Nat} {id : Int} (h1 : 1 ≤ b) (h2 : b ≤ 62) (h3 : 1 ≤ id) : homeV (b : Int) id = (homeA b id : Int) := by
  unfold homeV homeA
  rw [if_neg (by omega)]; rfl
def LookRel (w : World) (n H D : Nat) (i c : Value) (wr : World) : Prop := ∃ j : Nat, i = .int .i64 (((H + j) % n : Nat) : Int) ∧ c = .int .i64 ((j : Int) + 1) ∧ j ≤ D ∧ Below w.heap.size w wr

set_option maxRecDepth 100000 in
set_option maxHeartbeats 1000000 in
theorem p_look {w : World} {g h : Nat} {l u t : Int} {b : Nat} {xs : List Nd} (id : Int) (d : Pn w g h l b u t xs) (T : Tab b xs) (hb1 : 1 ≤ b) (hb : b ≤ 40) {e : Nat} (he : e < xs.length) (hs : stopB xs id e = true) (bi : 1 ≤ id ∧ id ≤ 9223372036854775807) :
    Calls Try.prog 145 #[.pointer (some ⟨g, 0, none⟩), .int .i64 id] w fun e w' => e = .returned (.tuple #[.int .i64 (lookI xs b id : Nat), .int .i64 ((lookD xs b id : Nat) + 1)]) ∧ Below w.heap.size w w' := by
  have c1 : w.cell? ⟨g, 1, none⟩ = some (.int .i64 b) := d.c1
  have hlg := d.lg
  obtain ⟨s1, s2, s3, s4⟩ := look_spec T id he hs
  have hlen40 : xs.length ≤ 1099511627776 := by
    have h40 : 2 ^ b ≤ 2 ^ 40 := Nat.pow_le_pow_right (by omega) hb
    have h41 : (2 : Nat) ^ 40 = 1099511627776 := rfl
    rw [T.len]; omega
  have h0 := T.pos_len
  have hhome := T.home id
  have HV := hid (homeV_nat (b := b) hb1 (by omega) bi.1)
  have hI : Hid (lookI xs b id = (homeA b id + lookD xs b id) % xs.length) := rfl
  have Pos := hid T.pos
  have S2 := hid s2
  have S4 := hid s4
  have Len := hid T.len
  generalize lookD xs b id = D at *
  generalize lookI xs b id = I at *
  generalize homeA b id = H at *
  clear s2 s4 hs
  go_enter Try.func145, Try.ntmps145
  go_wp2_with fail
  go_step3
  go_wp2_with fail
  refine (p_home b id w (by omega) (by omega) (by omega) bi.2).mono ?_
  rintro e w' ⟨rfl, rfl⟩
  rw [HV.out]
  go_wp2_with fail
  go_step3
  go_wp2_with fail
  go_loopw [6, 7] (fun i c wr => LookRel w xs.length H D i c wr) (fun _ c _ => D + 2 - (intOf c).toNat)
  case atStart => exact ⟨0, by rw [Nat.add_zero, Nat.mod_eq_of_lt hhome], rfl, by omega, Below.refl _ _⟩
  case round =>
    obtain ⟨j, rfl, rfl, hj, hbl⟩ := hrel
    have hwr := hbl.size
    have d2 := d.below hbl (Nat.le_refl _)
    obtain ⟨capc4, c4⟩ := d2.c4
    have hq : (H + j) % xs.length < xs.length := Nat.mod_lt _ h0
    obtain ⟨q1, q2⟩ := d2.at hq
    have hnext : Hid (((H + j) % xs.length + 1) % xs.length = (H + (j + 1)) % xs.length) := add_mod_next
    have Sj : Hid (j < D → 0 < cntA xs ((H + j) % xs.length) ∧ idA xs ((H + j) % xs.length) ≠ id) := S4.out j
    have SD : Hid (j = D → cntA xs ((H + j) % xs.length) ≤ 0 ∨ idA xs ((H + j) % xs.length) = id) := fun q => by
      subst q; have := S2.out; rw [hI.out] at this; exact stopB_iff.1 this
    have Pj := hid (Pos.out ((H + j) % xs.length))
    have hIj : Hid (j = D → (H + j) % xs.length = I) := fun q => by subst q; exact hI.out.symm
    generalize (H + j) % xs.length = q at *
    generalize cntA xs q = x at *
    generalize idA xs q = y at *
    by_cases h1 : x = 0
    · have hD : j = D := by
        by_cases q : j < D
        · have := (Sj.out q).1; omega
        · omega
      have hx : (x == 0) = true := by simpa using h1
      have HD := hid hD
      clear h1 hD
      as_aux_lemma =>
        go_wp2_with fail
        try rw [Exit.noGoto_ret]
        go_ret2
        refine ⟨?_, hbl.trans (((Below.refl _ _).alloc (Nat.le_refl _) _).mono hwr)⟩
        have e1 := HD.out
        have e2 := hIj.out e1
        subst e1 e2
        rfl
    · have hx : (x == 0) = false := by simpa using h1
      have H1 := hid h1
      clear h1
      by_cases h2 : y = id
      · have hD : j = D := by
          by_cases q : j < D
          · exact absurd h2 (Sj.out q).2
          · omega
        have hy : (y == id) = true := by simpa using h2
        have HD := hid hD
        have H2 := hid h2
        clear h2 hD
        as_aux_lemma =>
          go_wp2_with fail
          try rw [Exit.noGoto_ret]
          go_ret2
          refine ⟨?_, hbl.trans (((Below.refl _ _).alloc (Nat.le_refl _) _).mono hwr)⟩
          have e1 := HD.out
          have e2 := hIj.out e1
          subst e1 e2
          rfl
      · have hy : (y == id) = false := by simpa using h2
        have hlt : j < D := by
          by_cases q : j = D
          · rcases SD.out q with h | h
            · have := Pj.out; have := H1.out; omega
            · exact absurd h h2
          · omega
        clear h2
        have hba : Below wr.heap.size wr (wr.alloc (.cells #[.int .i64 y, .int .i64 x] 100)) := (Below.refl _ _).alloc (Nat.le_refl _) _
        have d3 := d2.below hba (Nat.le_refl _)
        as_aux_lemma =>
          go_wp2_with fail
          refine (p_next d3 Len.out hb q hq).mono ?_
          rintro e w' ⟨rfl, rfl⟩
          rw [hnext.out]
          go_wp2_with fail
          go_roundw
          case rel => exact ⟨j + 1, rfl, by go_num, by omega, hbl.trans (hba.mono hwr)⟩
          case measure => simp [intOf]; omega
end Go.Proofs.Ytejoecoenehooaa
