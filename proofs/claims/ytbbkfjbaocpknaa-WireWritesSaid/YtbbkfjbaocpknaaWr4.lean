/- The walks of the reference's seal: More, Of, Bytes, Seal. -/
import Derived.Test.YtbbkfjbaocpknaaWr3
namespace Go.Proofs.Ytbbkfjbaocpknaa
open Go.RowKit Vy

set_option maxRecDepth 100000 in
set_option maxHeartbeats 1000000 in
theorem r_more {w : World} {a b : Nat} (s : ByteArray) (ha : a < 65521) (hb : b < 65521) (hs : s.size ≤ 1000000) :
    Calls Try.prog 103 #[.int .i64 a, .int .i64 b, .string s] w fun e w' => e = .returned (.tuple #[.int .i64 ((sumP a b s.data.toList s.size).1 : Nat), .int .i64 ((sumP a b s.data.toList s.size).2 : Nat)]) ∧ w = w' := by
  have SL := hid (fun m => sumP_lt (t := s.data.toList) ha hb m)
  go_enter Try.func103, Try.ntmps103
  go_wp2_with fail
  go_loop [0, 1, 8] (fun x y i => ∃ m L H : Nat, i = .int .i64 m ∧ m ≤ s.size ∧ x = .int .i64 L ∧ y = .int .i64 H ∧ Hid ((sumP a b s.data.toList m).1 = L ∧ (sumP a b s.data.toList m).2 = H) ∧ L < 65521 ∧ H < 65521) (fun _ _ i => s.size - (intOf i).toNat)
  case atStart => exact ⟨0, a, b, rfl, Nat.zero_le _, rfl, rfl, ⟨rfl, rfl⟩, ha, hb⟩
  case round =>
    obtain ⟨m, L, H, rfl, hm, rfl, rfl, hR, hL, hH⟩ := hrel
    by_cases hlt : m < s.size
    · have z1 : decide ((m : Int) < (s.size : Int)) = true := decide_eq_true (by omega)
      have hcb : s[m].toNat < 256 := s[m].toNat_lt
      obtain ⟨c, hc⟩ : ∃ c : Nat, s[m].toNat = c := ⟨_, rfl⟩
      have NX : Hid ((sumP a b s.data.toList (m + 1)).1 = (L + c) % 65521 ∧ (sumP a b s.data.toList (m + 1)).2 = (H + (L + c) % 65521) % 65521) := by
        obtain ⟨r1, r2⟩ := hR.out
        constructor
        · simp only [sumP]; rw [r1, at_byte hlt, hc]
        · simp only [sumP]; rw [r1, r2, at_byte hlt, hc]
      have k1 : (L + c) % 65521 < 65521 := Nat.mod_lt _ (by decide)
      have k2 : (H + (L + c) % 65521) % 65521 < 65521 := Nat.mod_lt _ (by decide)
      clear hR
      go_wp2_with fail
      go_round
      case rel => exact ⟨m + 1, _, _, by go_num, by omega, by go_num, by go_num, NX.out, k1, k2⟩
      case measure => simp [intOf]; omega
    · obtain rfl : m = s.size := by omega
      have z1 : decide ((s.size : Int) < (s.size : Int)) = false := decide_eq_false (by omega)
      go_wp2_with fail
      go_ret2
      exact ⟨by simp [hR.out.1, hR.out.2], rfl⟩
set_option maxRecDepth 100000 in
theorem r_sof {w : World} (s : ByteArray) (hs : s.size ≤ 1000000) :
    Calls Try.prog 74 #[.string s] w fun e w' => e = .returned (.tuple #[.int .i64 ((sumP 1 0 s.data.toList s.size).1 : Nat), .int .i64 ((sumP 1 0 s.data.toList s.size).2 : Nat)]) ∧ w = w' := by
  have MR := hid (r_more (w := w) (a := 1) (b := 0) s (by decide) (by decide) hs)
  generalize (sumP 1 0 s.data.toList s.size).1 = A at *
  generalize (sumP 1 0 s.data.toList s.size).2 = Z at *
  go_enter Try.func74, Try.ntmps74
  go_wp2_with fail
  refine MR.out.mono ?_
  rintro e w' ⟨rfl, rfl⟩
  go_wp2_with fail
  go_ret2
  exact ⟨rfl, rfl⟩
set_option maxRecDepth 100000 in
set_option maxHeartbeats 1000000 in
theorem r_sbytes {w : World} {a b : Nat} (ha : a < 65521) (hb : b < 65521) :
    Calls Try.prog 75 #[.int .i64 a, .int .i64 b] w fun e w' => e = .returned (.string ⟨(sbytes (a, b)).toArray⟩) ∧ Below w.heap.size w w' := by
  have e0 : (b : Int) / 256 = ((UInt8.ofNat (b / 256)).toNat : Int) := by rw [byte_of]; omega
  have e1 : (b : Int) % 256 = ((UInt8.ofNat (b % 256)).toNat : Int) := by rw [byte_of]; omega
  have e2 : (a : Int) / 256 = ((UInt8.ofNat (a / 256)).toNat : Int) := by rw [byte_of]; omega
  have e3 : (a : Int) % 256 = ((UInt8.ofNat (a % 256)).toNat : Int) := by rw [byte_of]; omega
  have CV := bytes_string (Blk.new w #[.int .u8 ((b : Int) / 256), .int .u8 ((b : Int) % 256), .int .u8 ((a : Int) / 256), .int .u8 ((a : Int) % 256)] 5) (sbytes (a, b)) (by rw [e0, e1, e2, e3]; rfl) 4
  have hb2 := (Below.refl w.heap.size w).alloc (Nat.le_refl _) (.cells #[.int .u8 ((b : Int) / 256), .int .u8 ((b : Int) % 256), .int .u8 ((a : Int) / 256), .int .u8 ((a : Int) % 256)] 5)
  have hS : (sbytes (a, b)).length = 4 := rfl
  rw [hS] at CV
  generalize sbytes (a, b) = S at *
  clear e0 e1 e2 e3
  go_enter Try.func75, Try.ntmps75
  go_wp2_with fail
  go_ret
  exact ⟨rfl, hb2⟩
set_option maxRecDepth 100000 in
set_option maxHeartbeats 1000000 in
theorem r_seal {w : World} (t : List UInt8) (ht : t.length ≤ 1000000) :
    Calls Try.prog 43 #[.string ⟨t.toArray⟩] w fun e w' => e = .returned (.string ⟨(sealL t).toArray⟩) ∧ Below w.heap.size w w' := by
  have OF := hid (r_sof (w := w) ⟨t.toArray⟩ (by show t.toArray.size ≤ 1000000; simpa using ht))
  have e1 : (⟨t.toArray⟩ : ByteArray).data.toList = t := by simp
  have e2 : (⟨t.toArray⟩ : ByteArray).size = t.length := by show t.toArray.size = t.length; simp
  rw [e1, e2] at OF
  obtain ⟨h1, h2⟩ := sumP_lt (a := 1) (b := 0) (t := t) (by decide) (by decide) t.length
  have SB := hid (fun W => r_sbytes (w := W) h1 h2)
  have E := hid (show t ++ sbytes ((sumP 1 0 t t.length).1, (sumP 1 0 t t.length).2) = sealL t from rfl)
  obtain ⟨A, eA⟩ : ∃ A, (sumP 1 0 t t.length).1 = A := ⟨_, rfl⟩
  obtain ⟨Z, eZ⟩ : ∃ Z, (sumP 1 0 t t.length).2 = Z := ⟨_, rfl⟩
  rw [eA, eZ] at OF SB E
  have hn : ¬ 9223372036854775807 < t.length + (sbytes (A, Z)).length := by simp [sbytes]; omega
  clear e1 e2 eA eZ h1 h2
  go_enter Try.func43, Try.ntmps43
  go_wp2_with fail
  refine OF.out.mono ?_
  rintro e w2 ⟨rfl, rfl⟩
  clear OF
  go_wp2_with fail
  refine (SB.out _).mono ?_
  rintro e w3 ⟨rfl, hb4⟩
  generalize sbytes (A, Z) = S at *
  go_wp2_with fail
  go_ret
  exact ⟨by first | (rw [bs_app, E.out]; done) | (simp [bs_app, E.out]; done), hb4⟩
end Go.Proofs.Ytbbkfjbaocpknaa
