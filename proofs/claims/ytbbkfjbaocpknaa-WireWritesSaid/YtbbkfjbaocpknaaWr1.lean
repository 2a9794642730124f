/- The walks of vary.one and the reference's One: a number's bytes. -/
import Derived.Test.YtbbkfjbaocpknaaVyMath
import Derived.Test.YtbbkfjbaocpknaaNu2
import Derived.Deep.LoopGhost
import Derived.Laws.BitsAllLaws
namespace Go.Proofs.Ytbbkfjbaocpknaa
open Go.RowKit Vy

theorem Vy.low_byte {m : Nat} (h : m < 128) : ((UInt8.ofNat m).toNat : Int) = m := by rw [of_low (by omega)]
set_option maxRecDepth 100000 in
theorem Vy.or_byte (m : Nat) : (m % 256) ||| 128 = 128 + m % 128 := by
  have h : ∀ x : Fin 256, x.val ||| 128 = 128 + x.val % 128 := by decide
  have := h ⟨m % 256, Nat.mod_lt _ (by decide)⟩
  simp only at this
  rw [this]
  omega
theorem Vy.big_byte (m : Nat) : ((UInt8.ofNat (128 + m % 128)).toNat : Int) = 128 + (m : Int) % 128 := by rw [of_low (by omega)]; omega
theorem Vy.or_bits (m : Nat) : ((UInt8.ofNat (128 + m % 128)).toNat : Int) = bits BinOp.or IntKind.u8 ((m : Int) % 256) 128 := by
  have e : (m : Int) % 256 = ((m % 256 : Nat) : Int) := by simp
  rw [e, show (128 : Int) = ((128 : Nat) : Int) from rfl, u8_or_nat _ _ (Nat.mod_lt _ (by decide)) (by decide), or_byte, of_low (by omega)]
def OnePost (B : Nat) (xs : List UInt8) (w : World) (e : Ending) (w' : World) : Prop := ∃ v', e = .returned v' ∧ OwnU w' B v' xs ∧ Below B w w'
set_option maxRecDepth 100000 in
set_option maxHeartbeats 1000000 in
theorem v_one {w : World} {B : Nat} {v : Value} {xs : List UInt8} (N : Nat) (hN : N ≤ 9223372036854775807) (ho : OwnU w B v xs) (hB : B ≤ w.heap.size) (hl : xs.length ≤ 1000000) :
    Calls Try.prog 61 #[v, .int .i64 N] w (OnePost B (xs ++ vyL N) w) := by
  have hb9 := vy_len9 (n := N) hN
  go_enter Try.func61, Try.ntmps61
  go_wp2_with fail
  go_loopg [0, 1] N (fun gn b n wr => ∃ (m : Nat) (ys : List UInt8), n = .int .i64 m ∧ m ≤ N ∧ m ≤ gn ∧ OwnU wr B b ys ∧ Hid (ys ++ vyL m = xs ++ vyL N) ∧ Below B w wr)
  case atStart => exact ⟨N, xs, rfl, Nat.le_refl _, Nat.le_refl _, ho, rfl, Below.refl _ _⟩
  case round =>
    obtain ⟨m, ys, rfl, hm, hgn, hown, hl2, hbl⟩ := hrel
    have hwr := hbl.size
    have hyl : ys.length ≤ 1000009 := by
      have := congrArg List.length hl2.out
      rw [List.length_append, List.length_append] at this
      omega
    obtain ⟨p, cap, rfl⟩ := hown.val
    by_cases h1 : m < 128
    · have q0 : decide ((128 : Int) ≤ (m : Int)) = false := decide_eq_false (by omega)
      have cb := low_byte h1
      have hw := IntWalk.u8_in (m : Int) ⟨by omega, by omega⟩
      have E := hid (show ys ++ [UInt8.ofNat m] = xs ++ vyL N by rw [← hl2.out, vy_low h1])
      clear hl2
      go_wp2_with (at_builtin; refine appendU cb (wr := wr) _ _ hown (by omega) (by omega) rfl rfl rfl rfl rfl ?_; intro g cap' w3 ho3 hg3 hgb hgl)
      go_ret
      rw [E.out] at ho3
      exact ⟨_, rfl, by simpa using ho3, hbl.grown hg3 (by omega) hown.lt⟩
    · have q0 : decide ((128 : Int) ≤ (m : Int)) = true := decide_eq_true (by omega)
      have cb := big_byte m
      have E := hid (show (ys ++ [UInt8.ofNat (128 + m % 128)]) ++ vyL (m / 128) = xs ++ vyL N by rw [← hl2.out, vy_big h1]; simp)
      clear hl2
      go_wp2_with (at_builtin; refine appendU (or_bits m) (wr := wr) _ _ hown (by omega) (by omega) rfl rfl rfl rfl rfl ?_; intro g cap' w3 ho3 hg3 hgb hgl)
      go_roundg (m / 128)
      case rel => exact ⟨m / 128, _, by go_num, by omega, by omega, by simpa using ho3, E, hbl.grown hg3 (by omega) hown.lt⟩
      case measure => omega
set_option maxRecDepth 100000 in
set_option maxHeartbeats 1000000 in
theorem r_one {w : World} (N : Nat) (hN : N ≤ 9223372036854775807) :
    Calls Try.prog 40 #[.int .i64 N] w fun e w' => e = .returned (.string ⟨(vyL N).toArray⟩) ∧ Below w.heap.size w w' := by
  have hb9 := vy_len9 (n := N) hN
  go_enter Try.func40, Try.ntmps40
  go_wp2_with fail
  go_loopg [0, 3] N (fun gn n b wr => ∃ (m : Nat) (ys : List UInt8), n = .int .i64 m ∧ m ≤ N ∧ m ≤ gn ∧ OwnU wr w.heap.size b ys ∧ Hid (ys ++ vyL m = vyL N) ∧ Below w.heap.size w wr)
  case atStart => exact ⟨N, [], rfl, Nat.le_refl _, Nat.le_refl _, OwnU.nil _ _, rfl, Below.refl _ _⟩
  case round =>
    obtain ⟨m, ys, rfl, hm, hgn, hown, hl2, hbl⟩ := hrel
    have hwr := hbl.size
    have hyl : ys.length ≤ 9 := by
      have := congrArg List.length hl2.out
      rw [List.length_append] at this
      omega
    obtain ⟨p, cap, rfl⟩ := hown.val
    by_cases h1 : m < 128
    · have q0 : decide ((127 : Int) < (m : Int)) = false := decide_eq_false (by omega)
      have cb := low_byte h1
      have hw := IntWalk.u8_in (m : Int) ⟨by omega, by omega⟩
      have E := hid (show ys ++ [UInt8.ofNat m] = vyL N by rw [← hl2.out, vy_low h1])
      clear hl2
      go_wp2_with (at_builtin; refine appendU cb (wr := wr) _ _ hown (by omega) (by omega) rfl rfl rfl rfl rfl ?_; intro g cap' w3 ho3 hg3 hgb hgl; rw [E.out] at ho3; have CV := own_string ho3)
      go_ret
      exact ⟨rfl, hbl.grown hg3 (by omega) hown.lt⟩
    · have q0 : decide ((127 : Int) < (m : Int)) = true := decide_eq_true (by omega)
      have cb : ((UInt8.ofNat (128 + m % 128)).toNat : Int) = (128 + (m : Int) % 128) := big_byte m
      have hw := IntWalk.u8_in (128 + (m : Int) % 128) ⟨by omega, by omega⟩
      have E := hid (show (ys ++ [UInt8.ofNat (128 + m % 128)]) ++ vyL (m / 128) = vyL N by rw [← hl2.out, vy_big h1]; simp)
      clear hl2
      go_wp2_with (at_builtin; refine appendU cb (wr := wr) _ _ hown (by omega) (by omega) rfl rfl rfl rfl rfl ?_; intro g cap' w3 ho3 hg3 hgb hgl)
      go_roundg (m / 128)
      case rel => exact ⟨m / 128, _, by go_num, by omega, by omega, by simpa using ho3, E, hbl.grown hg3 (by omega) hown.lt⟩
      case measure => omega
end Go.Proofs.Ytbbkfjbaocpknaa
