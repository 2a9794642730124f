/- The walks of roll.Total, roll.Right and the reference's Right. -/
import Derived.Test.YtejoecoenehooaaPool3
import Derived.Test.YtejoecoenehooaaOpenNodes
namespace Go.Proofs.Ytejoecoenehooaa
open Go.RowKit Nl

def OTotRel (w : World) (xs : List Nd) (n i : Value) (wr : World) : Prop :=
  ∃ (k : Nat) (t : Int), i = .int .i64 k ∧ n = .int .i64 t ∧ k ≤ xs.length ∧ 0 ≤ t ∧ t ≤ 72057594037927935 ∧ Hid (totF 0 xs = totF t (xs.drop k)) ∧ Below w.heap.size w wr

set_option maxRecDepth 100000 in
set_option maxHeartbeats 1000000 in
theorem o_total {v : Value} {xs : List Nd} (w : World) (hr : RdN w v xs) (hn : NB xs) (hl : xs.length ≤ 9223372036854775807) :
    Calls Try.prog 120 #[v] w fun e w' => e = .returned (.tuple #[.int .i64 (totV xs), .bool (totOk xs)]) ∧ Below w.heap.size w w' := by
  obtain ⟨p, cap, rfl⟩ := hr.val
  have HV : Hid (totV xs = (totF 0 xs).getD 0) := rfl
  have HO : Hid (totOk xs = (totF 0 xs).isSome) := rfl
  generalize totV xs = V at *
  generalize totOk xs = O at *
  go_enter Try.func120, Try.ntmps120
  go_wp2_with fail
  go_loopw [4, 11] (fun n i wr => OTotRel w xs n i wr) (fun _ i _ => xs.length - (intOf i).toNat)
  case atStart => exact ⟨0, 0, rfl, rfl, by omega, by omega, by omega, rfl, Below.refl _ _⟩
  case round =>
    obtain ⟨k, t, rfl, rfl, hk, ht0, ht1, hT, hbl⟩ := hrel
    have hwr := hbl.size
    by_cases h1 : k < xs.length
    · have hr2 := hr.below hbl (Nat.le_refl _)
      obtain ⟨g, off, a, c, rfl, ex, hg, c1, c2⟩ := hr2.at h1
      obtain ⟨⟨a1, a2⟩, ⟨b1, b2⟩⟩ := hn.at h1 ex
      have hT2 : Hid (totF 0 xs = if c < 0 ∨ 72057594037927935 - t < c then none else totF (t + c) (xs.drop (k + 1))) := by
        show _ = _
        rw [hT.out, drop_at (d := ((0, 0) : Nd)) xs k h1, ex, totF]
      have hba : Below wr.heap.size wr (wr.alloc (.cells #[.int .i64 a, .int .i64 c] 100)) := (Below.refl _ _).alloc (Nat.le_refl _) _
      have hbl2 := hbl.trans (hba.mono hwr)
      clear ex hr2 hT
      obtain ⟨o, eo⟩ : ∃ o, addOk t c = o := ⟨_, rfl⟩
      have Eo := hid eo
      cases o
      · have hx : c < 0 ∨ 72057594037927935 - t < c := by simp only [addOk, decide_eq_false_iff_not] at eo; omega
        clear eo
        as_aux_lemma =>
          go_wp2_with fail
          refine (add_any t c _ (by omega) (by omega) b1 b2).mono ?_
          rintro e w' ⟨rfl, rfl⟩
          rw [Eo.out]
          go_wp2_with fail
          go_ret2
          have e := hT2.out
          rw [if_pos hx] at e
          refine ⟨ret_ib ?_ ?_, hbl2⟩
          · rw [HV.out, e]; rfl
          · rw [HO.out, e]; rfl
      · have ev : addV t c = t + c := by unfold addV; rw [eo]; rfl
        have hc0 : 0 ≤ c := by simp only [addOk, decide_eq_true_eq] at eo; omega
        have Ev := hid ev
        clear eo ev
        by_cases h2 : 72057594037927935 < t + c
        · as_aux_lemma =>
            go_wp2_with fail
            refine (add_any t c _ (by omega) (by omega) b1 b2).mono ?_
            rintro e w' ⟨rfl, rfl⟩
            rw [Eo.out, Ev.out]
            go_wp2_with fail
            go_ret2
            have e := hT2.out
            rw [if_pos (.inr (by omega))] at e
            refine ⟨ret_ib ?_ ?_, hbl2⟩
            · rw [HV.out, e]; rfl
            · rw [HO.out, e]; rfl
        · as_aux_lemma =>
            go_wp2_with fail
            refine (add_any t c _ (by omega) (by omega) b1 b2).mono ?_
            rintro e w' ⟨rfl, rfl⟩
            rw [Eo.out, Ev.out]
            go_wp2_with fail
            go_roundw
            case rel =>
              have e := hT2.out
              rw [if_neg (by omega)] at e
              exact ⟨k + 1, t + c, by go_num, rfl, by omega, by omega, by omega, e, hbl2⟩
            case measure => simp [intOf]; omega
    · have e : totF 0 xs = some t := by rw [hT.out, List.drop_of_length_le (by omega)]; rfl
      have E := hid e
      clear e
      go_wp2_with fail
      go_ret2
      refine ⟨ret_ib ?_ ?_, hbl⟩
      · rw [HV.out, E.out]; rfl
      · rw [HO.out, E.out]; rfl

def ORightRel (w : World) (l : Int) (xs : List Nd) (la i : Value) (wr : World) : Prop :=
  ∃ (k : Nat) (t : Int), i = .int .i64 k ∧ la = .int .i64 t ∧ k ≤ xs.length ∧ In64 t ∧ Hid (risesF l 0 xs = risesF l t (xs.drop k)) ∧ Below w.heap.size w wr

theorem root_right (l : Int) : rightB l 1 = decide (1 ≤ l ∧ l ≤ 48) := by
  unfold rightB
  rw [decide_eq_decide]
  constructor
  · rintro ⟨h1, h2, _⟩; exact ⟨h1, h2⟩
  · rintro ⟨h1, h2⟩
    refine ⟨h1, h2, by omega, ?_⟩
    obtain ⟨n, rfl⟩ := Int.eq_ofNat_of_zero_le (show 0 ≤ l by omega)
    have := (pow48 (n := n) (by omega)).1
    simp only [Int.toNat_natCast]; omega

set_option maxRecDepth 100000 in
set_option maxHeartbeats 1000000 in
theorem o_right {v : Value} {xs : List Nd} (l : Int) (w : World) (hr : RdN w v xs) (hn : NB xs) (hl : xs.length ≤ 9223372036854775807) (bl : In64 l) :
    Calls Try.prog 76 #[.int .i64 l, v] w fun e w' => e = .returned (.bool (rollB l xs)) ∧ Below w.heap.size w w' := by
  have T := fun W (q : Below w.heap.size w W) => hid (o_total W (hr.below q (Nat.le_refl _)) hn hl)
  obtain ⟨p, cap, rfl⟩ := hr.val
  obtain ⟨bl1, bl2⟩ := bl
  have HR : Hid (rollB l xs = (risesF l 0 xs && totOk xs && rightB l 1)) := by show _ = _; rw [root_right]; rfl
  generalize rollB l xs = R at *
  go_enter Try.func76, Try.ntmps76
  go_wp2_with fail
  go_loopw [5, 12] (fun la i wr => ORightRel w l xs la i wr) (fun _ i _ => xs.length - (intOf i).toNat)
  case atStart => exact ⟨0, 0, rfl, rfl, by omega, ⟨by omega, by omega⟩, rfl, Below.refl _ _⟩
  case round =>
    obtain ⟨k, t, rfl, rfl, hk, ⟨ht0, ht1⟩, hT, hbl⟩ := hrel
    have hwr := hbl.size
    by_cases h1 : k < xs.length
    · have hr2 := hr.below hbl (Nat.le_refl _)
      obtain ⟨g, off, a, c, rfl, ex, hg, c1, c2⟩ := hr2.at h1
      obtain ⟨⟨a1, a2⟩, ⟨b1, b2⟩⟩ := hn.at h1 ex
      have hT2 : Hid (risesF l 0 xs = if a ≤ t ∨ rightB l a = false ∨ c < 1 then false else risesF l a (xs.drop (k + 1))) := by
        show _ = _
        rw [hT.out, drop_at (d := ((0, 0) : Nd)) xs k h1, ex, risesF]
      have hba : Below wr.heap.size wr (wr.alloc (.cells #[.int .i64 a, .int .i64 c] 100)) := (Below.refl _ _).alloc (Nat.le_refl _) _
      have hbl2 := hbl.trans (hba.mono hwr)
      clear ex hr2 hT T
      by_cases h2 : a ≤ t
      · as_aux_lemma =>
          go_wp2_with fail
          go_ret
          have e := hT2.out
          rw [if_pos (.inl h2)] at e
          exact ⟨ret_bool (by rw [HR.out, e]; rfl), hbl2⟩
      · obtain ⟨r, er⟩ : ∃ r, rightB l a = r := ⟨_, rfl⟩
        have Er := hid er
        clear er
        cases r
        · as_aux_lemma =>
            go_wp2_with fail
            refine (twig_right l a _ bl1 bl2 a1 a2).mono ?_
            rintro e w' ⟨rfl, rfl⟩
            rw [Er.out]
            go_wp2_with fail
            go_ret
            have e := hT2.out
            rw [if_pos (.inr (.inl Er.out))] at e
            exact ⟨ret_bool (by rw [HR.out, e]; rfl), hbl2⟩
        · by_cases h3 : c < 1
          · as_aux_lemma =>
              go_wp2_with fail
              refine (twig_right l a _ bl1 bl2 a1 a2).mono ?_
              rintro e w' ⟨rfl, rfl⟩
              rw [Er.out]
              go_wp2_with fail
              go_ret
              have e := hT2.out
              rw [if_pos (.inr (.inr h3))] at e
              exact ⟨ret_bool (by rw [HR.out, e]; rfl), hbl2⟩
          · as_aux_lemma =>
              go_wp2_with fail
              refine (twig_right l a _ bl1 bl2 a1 a2).mono ?_
              rintro e w' ⟨rfl, rfl⟩
              rw [Er.out]
              go_wp2_with fail
              go_roundw
              case rel =>
                have e := hT2.out
                rw [if_neg (by rw [Er.out]; simp; omega)] at e
                exact ⟨k + 1, a, by go_num, rfl, by omega, ⟨a1, a2⟩, e, hbl2⟩
              case measure => simp [intOf]; omega
    · have e : risesF l 0 xs = true := by rw [hT.out, List.drop_of_length_le (by omega)]; rfl
      have E := hid e
      clear e
      obtain ⟨o, eo⟩ : ∃ o, totOk xs = o := ⟨_, rfl⟩
      have Eo := hid eo
      clear eo
      go_wp2_with fail
      refine (T _ hbl).out.mono ?_
      rintro e w2 ⟨rfl, hb2⟩
      rw [Eo.out]
      have hb3 := hbl.trans (hb2.mono hwr)
      cases o
      · go_wp2_with fail
        go_ret
        exact ⟨ret_bool (by rw [HR.out, E.out, Eo.out]; rfl), hb3⟩
      · go_wp2_with fail
        refine (twig_right l 1 _ bl1 bl2 (by decide) (by decide)).mono ?_
        rintro e w' ⟨rfl, rfl⟩
        go_wp2_with fail
        go_ret
        exact ⟨ret_bool (by rw [HR.out, E.out, Eo.out]; simp), hb3⟩

/-- The number ahead of place k. -/
def lastOf (xs : List Nd) (k : Nat) : Int := if k = 0 then 0 else (xs.getD (k - 1) (0, 0)).1
def RRightRel (l : Int) (xs : List Nd) (w : World) (i : Value) (wr : World) : Prop :=
  ∃ k : Nat, i = .int .i64 k ∧ k ≤ xs.length ∧ Hid (risesF l 0 xs = risesF l (lastOf xs k) (xs.drop k)) ∧ Hid (∃ n, wr = w.drewN n)

set_option maxRecDepth 100000 in
set_option maxHeartbeats 2000000 in
theorem r_rightN {v : Value} {xs : List Nd} (l : Int) (w : World) (hr : RdN w v xs) (hn : NB xs) (hl : xs.length < 1048576) (bl : In64 l) :
    Calls Try.prog 36 #[.int .i64 l, v] w fun e w' => e = .returned (.bool (rollB l xs)) ∧ Below w.heap.size w w' := by
  obtain ⟨bl1, bl2⟩ := bl
  have T := fun (W : World) (q : RdN W v xs) => hid (r_total W q (by omega : xs.length < 2097152))
  obtain ⟨p, cap, rfl⟩ := hr.val
  have HR : Hid (rollB l xs = (risesF l 0 xs && totOk xs && decide (1 ≤ l ∧ l ≤ 48))) := rfl
  generalize rollB l xs = R at *
  go_enter Try.func36, Try.ntmps36
  go_wp2_with fail
  go_loopw [5] (fun i wr => RRightRel l xs w i wr) (fun i _ => xs.length - (intOf i).toNat)
  case atStart => exact ⟨0, rfl, by omega, rfl, 0, rfl⟩
  case round =>
    obtain ⟨k, rfl, hk, hT, hD⟩ := hrel
    have hrw : RdN wr (.slice p xs.length cap) xs := by obtain ⟨n, e⟩ := hD.out; rw [e]; exact hr.drewN n
    have hbl : Below w.heap.size w wr := by obtain ⟨n, e⟩ := hD.out; rw [e]; exact below_drewN (Below.refl _ _) n
    have HDn : ∀ n, ∃ m, wr.drewN n = w.drewN m := fun n => by obtain ⟨m, e⟩ := hD.out; exact ⟨m + n, by rw [e, World.drewN_drewN]⟩
    have HD := hid HDn
    clear HDn hD
    by_cases h1 : k < xs.length
    · obtain ⟨g, off, a, c, rfl, ex, hg, c1, c2⟩ := hrw.at h1
      obtain ⟨⟨a1, a2⟩, ⟨b1, b2⟩⟩ := hn.at h1 ex
      have hT2 : Hid (risesF l 0 xs = if a ≤ lastOf xs k ∨ rightB l a = false ∨ c < 1 then false else risesF l a (xs.drop (k + 1))) := by
        show _ = _
        rw [hT.out, drop_at (d := ((0, 0) : Nd)) xs k h1, ex, risesF]
      have hla : Hid (lastOf xs (k + 1) = a) := by show _ = _; unfold lastOf; rw [if_neg (by omega)]; simp only [Nat.add_sub_cancel]; rw [ex]
      obtain ⟨r, er⟩ : ∃ r, rightB l a = r := ⟨_, rfl⟩
      have Er := hid er
      have RT := hid (fun W : World => r_right l a W bl1 bl2 a1 a2)
      rw [er] at RT
      have i0 : (0 : Int) ≤ (k : Int) := by omega
      have i1 : (k : Int) < (xs.length : Int) := by omega
      cases r
      · clear er ex hT T
        as_aux_lemma =>
          go_wp2_with fail
          go_quiet ((go_at_call 96; exact Calls.quiet_of_same (cells_home (RT.out _))))
          go_wp2_with fail
          go_ret
          have e := hT2.out
          rw [if_pos (.inr (.inl Er.out))] at e
          exact ⟨ret_bool (by rw [HR.out, e]; rfl), below_drewN hbl _⟩
      · have hr1 := right_pos er
        clear er
        by_cases h3 : c < 1
        · have hd : decide (c < 1) = true := by simpa using h3
          clear ex hT T
          as_aux_lemma =>
            go_wp2_with fail
            go_quiet ((go_at_call 96; exact Calls.quiet_of_same (cells_home (RT.out _))))
            go_wp2_with fail
            go_ret
            have e := hT2.out
            rw [if_pos (.inr (.inr h3))] at e
            exact ⟨ret_bool (by rw [HR.out, e]; rfl), below_drewN hbl _⟩
        · have hd : decide (c < 1) = false := by simpa using h3
          by_cases h4 : 0 < k
          · have hd4 : decide ((0 : Int) < (k : Int)) = true := by simpa using h4
            obtain ⟨g', off', a', c', hpp, ex', hg', c1', c2'⟩ := hrw.at (k := k - 1) (by omega)
            simp only [Option.some.injEq, Addr.mk.injEq, and_true] at hpp
            obtain ⟨rfl, rfl⟩ := hpp
            have hlk : Hid (lastOf xs k = a') := by show _ = _; unfold lastOf; rw [if_neg (by omega), ex']
            have ek : (((k - 1 : Nat)) : Int) = (k : Int) - 1 := by omega
            have Ek := hid ek
            have i2 : (0 : Int) ≤ (k : Int) - 1 := by omega
            have i3 : (k : Int) - 1 < (xs.length : Int) := by omega
            have i4 : IntKind.i64.wrap ((k : Int) - 1) = (k : Int) - 1 := IntWalk.i64_in _ (by omega)
            have i5 : ((k : Int) - 1).toNat = k - 1 := by omega
            by_cases h5 : a ≤ a'
            · have hd5 : decide (a ≤ a') = true := by simpa using h5
              clear ex ex' hT T ek
              as_aux_lemma =>
                go_wp2_with fail
                go_quiet ((go_at_call 96; exact Calls.quiet_of_same (cells_home (RT.out _))))
                go_wp2_with fail
                go_ret
                have e := hT2.out
                rw [if_pos (.inl (by rw [hlk.out]; exact h5))] at e
                exact ⟨ret_bool (by rw [HR.out, e]; rfl), below_drewN hbl _⟩
            · have hd5 : decide (a ≤ a') = false := by simpa using h5
              clear ex ex' hT T ek
              as_aux_lemma =>
                go_wp2_with fail
                go_quiet ((go_at_call 96; exact Calls.quiet_of_same (cells_home (RT.out _))))
                go_wp2_with fail
                go_roundw
                case rel =>
                  have e := hT2.out
                  rw [if_neg (by rw [Er.out, hlk.out]; simp; omega)] at e
                  exact ⟨k + 1, by go_num, by omega, by rw [hla.out]; exact e, HD.out _⟩
                case measure => simp [intOf]; omega
          · obtain rfl : k = 0 := by omega
            simp only [Nat.zero_mul, Nat.add_zero] at c1 c2
            have hd4 : decide ((0 : Int) < ((0 : Nat) : Int)) = false := by simp
            have hlk : Hid (lastOf xs 0 = 0) := by show _ = _; unfold lastOf; rw [if_pos rfl]
            clear ex hT T
            as_aux_lemma =>
              go_wp2_with fail
              go_quiet ((go_at_call 96; exact Calls.quiet_of_same (cells_home (RT.out _))))
              go_wp2_with fail
              go_roundw
              case rel =>
                have e := hT2.out
                rw [if_neg (by rw [Er.out, hlk.out]; simp; omega)] at e
                exact ⟨1, by go_num, by omega, by rw [hla.out]; exact e, HD.out _⟩
              case measure => simp [intOf]; omega
    · have e : risesF l 0 xs = true := by rw [hT.out, List.drop_of_length_le (by omega)]; rfl
      have E := hid e
      clear e
      obtain ⟨o, eo⟩ : ∃ o, totOk xs = o := ⟨_, rfl⟩
      have Eo := hid eo
      clear eo
      go_wp2_with fail
      refine (T wr hrw).out.mono ?_
      rintro e w2 ⟨rfl, rfl⟩
      rw [Eo.out]
      cases o
      · go_wp2_with fail
        go_ret
        exact ⟨ret_bool (by rw [HR.out, E.out, Eo.out]; rfl), hbl⟩
      · rcases (by omega : l < 1 ∨ (1 ≤ l ∧ 48 < l) ∨ (1 ≤ l ∧ l ≤ 48)) with h1 | ⟨h1, h2⟩ | ⟨h1, h2⟩
        all_goals
          go_wp2_with (go_at_call 98; go_in)
          go_ret
          refine ⟨ret_bool ?_, hbl⟩
          rw [HR.out, E.out, Eo.out]
          simp <;> omega
end Go.Proofs.Ytejoecoenehooaa
