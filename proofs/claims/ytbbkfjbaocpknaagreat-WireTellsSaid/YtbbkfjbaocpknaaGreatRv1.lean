/- The walk of vary.Get: a number is read. -/
import Derived.Test.YtbbkfjbaocpknaaGreatRvMath
import Derived.Test.YtbbkfjbaocpknaaGreatWA
import Derived.Deep.LoopGhost
import Derived.WalkMore
import Derived.Laws.BitsAllLaws
namespace Go.Proofs.YtbbkfjbaocpknaaGreat
open Go.RowKit Vy

/-- What comes of reading a number: what is wrong, or the number and how many bytes it has. -/
def GetP (s : ByteArray) (w : World) (e : Ending) (w' : World) : Prop :=
  w = w' ∧ ((∃ er : Int, e = .returned (.tuple #[.int .i64 0, .int .i64 0, .int .i64 er]) ∧ 1 ≤ er ∧ er ≤ 100 ∧ getF s.data.toList = none) ∨
    ∃ n size : Nat, e = .returned (.tuple #[.int .i64 n, .int .i64 size, .int .i64 0]) ∧ size ≤ s.size ∧ 1 ≤ size ∧ getF s.data.toList = some (n, s.data.toList.drop size) ∧ n ≤ 9223372036854775807)
theorem Vy.sdrop {s : ByteArray} {j : Nat} (h : j < s.size) : s.data.toList.drop j = s[j] :: s.data.toList.drop (j + 1) := by
  have h' : j < s.data.toList.length := by simpa using h
  rw [List.drop_eq_getElem_cons h']
  rfl
theorem Vy.stake {s : ByteArray} {j : Nat} (h : j < s.size) : s.data.toList.take (j + 1) = s.data.toList.take j ++ [s[j]] := by
  have h' : j < s.data.toList.length := by simpa using h
  rw [List.take_succ_eq_append_getElem h']
  rfl
theorem Vy.slen {s : ByteArray} {j : Nat} (h : j ≤ s.size) : (s.data.toList.take j).length = j := by
  have h' : j ≤ s.data.toList.length := by simpa using h
  rw [List.length_take]; omega
theorem Vy.scut {s : ByteArray} {j : Nat} (h : j < s.size) : s.data.toList = s.data.toList.take j ++ s[j] :: s.data.toList.drop (j + 1) := by
  rw [← Vy.sdrop h, List.take_append_drop]
theorem Vy.cont_snoc {a : List UInt8} {c : UInt8} (h : contB a) (hc : 128 ≤ c.toNat) : contB (a ++ [c]) := fun x hx => by
  rcases List.mem_append.1 hx with hx | hx
  · exact h x hx
  · obtain rfl := by simpa using hx
    exact hc
theorem Vy.and127 (c : UInt8) : bits .and .u8 (c.toNat : Int) 127 = ((c.toNat % 128 : Nat) : Int) := by
  rw [show (127 : Int) = ((127 : Nat) : Int) from rfl, u8_and_nat _ _ (UInt8.toNat_lt c) (by decide), nat_mask7]
theorem Vy.or_top (n d at' : Nat) (hn : n < 128 ^ at') (hd : d < 128) (h : at' ≤ 8) (D : Int) (hD : D = (d : Int)) : bits .or .i64 (n : Int) (wrap64 (D * 2 ^ (7 * at'))) = ((n + d * 128 ^ at' : Nat) : Int) := by
  subst hD
  have e : (2 : Nat) ^ (7 * at') = 128 ^ at' := by rw [Nat.pow_mul]
  have e2 : (d : Int) * 2 ^ (7 * at') = ((d * 2 ^ (7 * at') : Nat) : Int) := by simp
  have h1 : 128 ^ at' ≤ 128 ^ 8 := Nat.pow_le_pow_right (by decide) h
  have h2 : d * 128 ^ at' ≤ 127 * 128 ^ at' := Nat.mul_le_mul_right _ (by omega)
  rw [e2, IntWalk.wrap64_in ((d * 2 ^ (7 * at') : Nat) : Int) ⟨by omega, by rw [e]; omega⟩]
  show IntKind.i64.wrap ((BitVec.ofInt 64 (n : Int) ||| BitVec.ofInt 64 ((d * 2 ^ (7 * at') : Nat) : Int)).toNat : Int) = _
  rw [BitVec.toNat_or, ofInt_u64 _ (by omega), ofInt_u64 _ (by rw [e]; omega)]
  rw [Nat.or_comm, nat_join (7 * at') _ _ (by rw [Nat.mul_mod_left]) (by rw [e]; exact hn), e, Nat.add_comm]
  exact IntWalk.i64_in _ ⟨by omega, by omega⟩
set_option maxRecDepth 100000 in
set_option maxHeartbeats 1000000 in
theorem v_get (s : ByteArray) (w : World) : Calls Tryz.prog 162 #[.string s] w (GetP s w) := by
  go_enter Tryz.func162, Tryz.ntmps162
  go_wp2_with fail
  go_step3
  go_wp2_with fail
  go_step3
  go_wp2_with fail
  go_loopg [2, 5] 9 (fun gn n i wr => wr = w ∧ ∃ k : Nat, n = .int .i64 (valL (s.data.toList.take k) : Nat) ∧ i = .int .i64 k ∧ k ≤ s.size ∧ k ≤ 9 ∧ 9 - k ≤ gn ∧ Hid (contB (s.data.toList.take k)))
  case atStart => exact ⟨rfl, 0, rfl, rfl, Nat.zero_le _, by omega, by omega, fun _ h => by simp at h⟩
  case round =>
    obtain ⟨rfl, k, rfl, rfl, hk, hk9, hgn, hc⟩ := hrel
    by_cases h9 : k = 9
    · subst h9
      have hl := slen hk
      have P : Hid (GetP s wr (.returned (.tuple #[.int .i64 0, .int .i64 0, .int .i64 10])) wr) := ⟨rfl, .inl ⟨10, rfl, by decide, by decide, by
        rw [← List.take_append_drop 9 s.data.toList]; exact getF_nine hc.out hl⟩⟩
      clear hc hl
      generalize valL (s.data.toList.take 9) = vv at *
      go_wp2_with fail
      go_ret3
      exact P.out
    · have z9 : ((k : Int) == 9) = false := by simp; omega
      by_cases hz : k = s.size
      · have P : Hid (GetP s wr (.returned (.tuple #[.int .i64 0, .int .i64 0, .int .i64 9])) wr) := ⟨rfl, .inl ⟨9, rfl, by decide, by decide, by
          have e : s.data.toList.take k = s.data.toList := by rw [hz]; exact List.take_of_length_le (by simp)
          rw [← e]; exact getF_none (getA_short hc.out)⟩⟩
        have zz : ((k : Int) == (s.size : Int)) = true := by simp [hz]
        clear hc hz
        generalize valL (s.data.toList.take k) = vv at *
        go_wp2_with fail
        go_ret3
        exact P.out
      · have hlt : k < s.size := by omega
        have zz : ((k : Int) == (s.size : Int)) = false := by simp; omega
        have hcut := scut hlt
        have hl := slen hk
        have hv := val_lt (s.data.toList.take k)
        rw [hl] at hv
        have hcb : s[k].toNat < 256 := s[k].toNat_lt
        by_cases hlow : s[k].toNat < 128
        · have z1 : decide ((s[k].toNat : Int) < 128) = true := decide_eq_true (by omega)
          by_cases h0 : 0 < k ∧ s[k].toNat = 0
          · have P : Hid (GetP s wr (.returned (.tuple #[.int .i64 0, .int .i64 0, .int .i64 10])) wr) := ⟨rfl, .inl ⟨10, rfl, by decide, by decide, by
              rw [hcut]; exact getF_none (getA_zero hc.out h0.2 (by intro e; rw [e] at hl; simp at hl; omega))⟩⟩
            have z2 : decide ((0 : Int) < (k : Int)) = true := decide_eq_true (by omega)
            have z3 : ((s[k].toNat : Int) == 0) = true := by simp [h0.2]
            clear hc hcut
            generalize valL (s.data.toList.take k) = vv at *
            go_wp2_with fail
            go_ret3
            exact P.out
          · have E := getF_end (r := s.data.toList.drop (k + 1)) hc.out hlow (by
              by_cases hk0 : k = 0
              · left; rw [hk0]; rfl
              · right; intro h; exact h0 ⟨by omega, h⟩) (by rw [hl]; omega)
            rw [← hcut, hl] at E
            have OT := or_top (valL (s.data.toList.take k)) s[k].toNat k hv hlow (by omega) _ rfl
            have P : Hid (GetP s wr (.returned (.tuple #[.int .i64 ((valL (s.data.toList.take k) : Int) + (s[k].toNat : Int) * 128 ^ k), .int .i64 ((k : Int) + 1), .int .i64 0])) wr) := ⟨rfl, .inr ⟨_, k + 1, by rw [show ((valL (s.data.toList.take k) + s[k].toNat * 128 ^ k : Nat) : Int) = (valL (s.data.toList.take k) : Int) + (s[k].toNat : Int) * 128 ^ k by simp]; rfl, by omega, by omega, E.1, E.2⟩⟩
            clear hc hcut E
            generalize valL (s.data.toList.take k) = vv at *
            by_cases hk0 : 0 < k
            · have z2 : decide ((0 : Int) < (k : Int)) = true := decide_eq_true (by omega)
              have z3 : ((s[k].toNat : Int) == 0) = false := by simp; omega
              go_wp2_with fail
              go_ret3
              exact P.out
            · have z2 : decide ((0 : Int) < (k : Int)) = false := decide_eq_false (by omega)
              go_wp2_with fail
              go_ret3
              exact P.out
        · have z1 : decide ((s[k].toNat : Int) < 128) = false := decide_eq_false (by omega)
          have OT := or_top (valL (s.data.toList.take k)) (s[k].toNat % 128) k hv (by omega) (by omega) ((s[k].toNat : Int) % 128) (by omega)
          have AN := and127 s[k]
          have R : Hid (valL (s.data.toList.take k) + (s[k].toNat % 128) * 128 ^ k = valL (s.data.toList.take (k + 1)) ∧ contB (s.data.toList.take (k + 1))) := by
            refine ⟨?_, ?_⟩
            · rw [stake hlt, val_snoc, hl]
            · rw [stake hlt]; exact cont_snoc hc.out (by omega)
          clear hc hcut
          generalize valL (s.data.toList.take k) = vv at *
          go_wp2_with fail
          go_roundg (9 - (k + 1))
          case rel => exact ⟨rfl, k + 1, by rw [← R.out.1]; go_num, by go_num, by omega, by omega, Nat.le_refl _, R.out.2⟩
          case measure => omega
end Go.Proofs.YtbbkfjbaocpknaaGreat
