/- The walks of the probe: next, way, right, look. -/
import Derived.Test.YtejoecoenehooaaPbMath4
namespace Go.Proofs.Ytejoecoenehooaa
open Go.RowKit Nl

/-- A probe: its block, its slots' block. -/
def Pn (w : World) (g h : Nat) (l : Int) (b : Nat) (u t : Int) (xs : List Nd) : Prop :=
  ∃ (cap : Nat) (rest : List Value), Blk w g #[.int .i64 l, .int .i64 b, .int .i64 u, .int .i64 t, .slice (some ⟨h, 0, none⟩) xs.length (xs.length + cap)] 151 ∧ Blk w h (ncells xs ++ rest).toArray 100 ∧ g ≠ h
section
variable {w : World} {g h : Nat} {l u t : Int} {b : Nat} {xs : List Nd}
theorem Pn.mk (h1 : Blk w g #[.int .i64 l, .int .i64 b, .int .i64 u, .int .i64 t, .slice (some ⟨h, 0, none⟩) xs.length xs.length] 151) (h2 : Blk w h (ncells xs).toArray 100) (h3 : g ≠ h) : Pn w g h l b u t xs :=
  ⟨0, [], h1, by rw [List.append_nil]; exact h2, h3⟩
theorem Pn.c0 (d : Pn w g h l b u t xs) : w.cell? ⟨g, 0, none⟩ = some (.int .i64 l) := by obtain ⟨cap, rest, d1, d2, d3⟩ := d; exact d1.cell 0
theorem Pn.c1 (d : Pn w g h l b u t xs) : w.cell? ⟨g, 1, none⟩ = some (.int .i64 b) := by obtain ⟨cap, rest, d1, d2, d3⟩ := d; exact d1.cell 1
theorem Pn.c2 (d : Pn w g h l b u t xs) : w.cell? ⟨g, 2, none⟩ = some (.int .i64 u) := by obtain ⟨cap, rest, d1, d2, d3⟩ := d; exact d1.cell 2
theorem Pn.c3 (d : Pn w g h l b u t xs) : w.cell? ⟨g, 3, none⟩ = some (.int .i64 t) := by obtain ⟨cap, rest, d1, d2, d3⟩ := d; exact d1.cell 3
theorem Pn.c4 (d : Pn w g h l b u t xs) : ∃ cap, w.cell? ⟨g, 4, none⟩ = some (.slice (some ⟨h, 0, none⟩) xs.length cap) := by obtain ⟨cap, rest, d1, d2, d3⟩ := d; exact ⟨_, d1.cell 4⟩
theorem Pn.fg (d : Pn w g h l b u t xs) (j : Nat) : w.frozen? ⟨g, j, none⟩ = false := by obtain ⟨cap, rest, d1, d2, d3⟩ := d; exact d1.free j
theorem Pn.fh (d : Pn w g h l b u t xs) (j : Nat) : w.frozen? ⟨h, j, none⟩ = false := by obtain ⟨cap, rest, d1, d2, d3⟩ := d; exact d2.free j
theorem Pn.lg (d : Pn w g h l b u t xs) : g < w.heap.size := by obtain ⟨cap, rest, d1, d2, d3⟩ := d; exact d1.lt
theorem Pn.lh (d : Pn w g h l b u t xs) : h < w.heap.size := by obtain ⟨cap, rest, d1, d2, d3⟩ := d; exact d2.lt
theorem Pn.ne (d : Pn w g h l b u t xs) : g ≠ h := by obtain ⟨cap, rest, d1, d2, d3⟩ := d; exact d3
theorem Pn.tch {w' : World} {g' h' : Nat} (d : Pn w g h l b u t xs) (tc : Tch g' h' w w') (e1 : g ≠ g') (e2 : g ≠ h') (e3 : h ≠ g') (e4 : h ≠ h') : Pn w' g h l b u t xs := by
  obtain ⟨cap, rest, d1, d2, d3⟩ := d; exact ⟨cap, rest, d1.tch tc e1 e2, d2.tch tc e3 e4, d3⟩
theorem Pn.below {w' : World} {B : Nat} (d : Pn w g h l b u t xs) (bl : Below B w w') (hB : w.heap.size ≤ B) : Pn w' g h l b u t xs := by
  obtain ⟨cap, rest, d1, d2, d3⟩ := d; exact ⟨cap, rest, d1.below bl hB, d2.below bl hB, d3⟩
theorem Pn.drewN (d : Pn w g h l b u t xs) (n : Nat) : Pn (w.drewN n) g h l b u t xs := d
theorem Pn.drew (d : Pn w g h l b u t xs) : Pn w.drew g h l b u t xs := d
theorem ncells_rest (rest : List Value) {k : Nat} (hk : k < xs.length) : (ncells xs ++ rest)[k * 2]? = some (.int .i64 (idA xs k)) ∧ (ncells xs ++ rest)[k * 2 + 1]? = some (.int .i64 (cntA xs k)) := by
  obtain ⟨g1, g2⟩ := ncells_get xs k hk
  have hl := ncells_length xs
  rw [List.getElem?_append_left (by omega), List.getElem?_append_left (by omega)]
  exact ⟨g1, g2⟩
theorem Pn.rd (d : Pn w g h l b u t xs) : ∃ cap, w.cell? ⟨g, 4, none⟩ = some (.slice (some ⟨h, 0, none⟩) xs.length cap) ∧ RdN w (.slice (some ⟨h, 0, none⟩) xs.length cap) xs := by
  obtain ⟨cap, rest, d1, d2, d3⟩ := d
  refine ⟨_, d1.cell 4, .inr (.inr ⟨h, 0, _, rfl, d2.lt, Nat.le_add_right _ _, fun k hk => ?_⟩)⟩
  obtain ⟨g1, g2⟩ := ncells_rest (xs := xs) rest hk
  rw [Nat.zero_add]
  exact ⟨(d2.cell _).trans (by simpa [idA] using g1), (d2.cell _).trans (by simpa [cntA] using g2)⟩
theorem Pn.at (d : Pn w g h l b u t xs) {k : Nat} (hk : k < xs.length) : w.cell? ⟨h, k * 2, none⟩ = some (.int .i64 (idA xs k)) ∧ w.cell? ⟨h, k * 2 + 1, none⟩ = some (.int .i64 (cntA xs k)) := by
  obtain ⟨cap, rest, d1, d2, d3⟩ := d
  obtain ⟨g1, g2⟩ := ncells_rest (xs := xs) rest hk
  exact ⟨(d2.cell _).trans (by simpa using g1), (d2.cell _).trans (by simpa using g2)⟩
end

theorem i64_and_pow (n : Int) (b : Nat) (hb : b ≤ 40) : bits .and .i64 n (((2 ^ b : Nat) : Int) - 1) = n % ((2 ^ b : Nat) : Int) := by
  have h40 : 2 ^ b ≤ 2 ^ 40 := Nat.pow_le_pow_right (by omega) hb
  have h41 : (2 : Nat) ^ 40 = 1099511627776 := rfl
  have h1 : 1 ≤ 2 ^ b := Nat.one_le_two_pow
  have hd : ((2 ^ b : Nat) : Int) ∣ ((2 ^ 64 : Nat) : Int) := Int.natCast_dvd_natCast.2 (Nat.pow_dvd_pow 2 (by omega))
  have hm : (BitVec.ofInt 64 (((2 ^ b : Nat) : Int) - 1)).toNat = 2 ^ b - 1 := by
    rw [BitVec.toNat_ofInt]
    have h64 : ((2 ^ 64 : Nat) : Int) = 18446744073709551616 := rfl
    rw [h64]; omega
  have key : (BitVec.ofInt 64 n &&& BitVec.ofInt 64 (((2 ^ b : Nat) : Int) - 1)).toNat = (n % ((2 ^ 64 : Nat) : Int)).toNat % 2 ^ b := by
    rw [BitVec.toNat_and, BitVec.toNat_ofInt, hm, Nat.and_two_pow_sub_one_eq_mod]
  show IntKind.i64.wrap ((BitVec.ofInt 64 n &&& BitVec.ofInt 64 (((2 ^ b : Nat) : Int) - 1)).toNat : Nat) = n % ((2 ^ b : Nat) : Int)
  rw [key]
  have h2 : (((n % ((2 ^ 64 : Nat) : Int)).toNat % 2 ^ b : Nat) : Int) = n % ((2 ^ b : Nat) : Int) := by
    rw [Int.natCast_emod, Int.toNat_of_nonneg (Int.emod_nonneg _ (by decide)), Int.emod_emod_of_dvd n hd]
  rw [h2, IntKind.wrap_i64]
  have h3 := Int.emod_nonneg n (show ((2 ^ b : Nat) : Int) ≠ 0 by omega)
  have h4 := Int.emod_lt_of_pos n (show (0 : Int) < ((2 ^ b : Nat) : Int) by omega)
  omega
theorem and_next {n b : Nat} (hl : n = 2 ^ b) (hb : b ≤ 40) (i : Nat) : bits .and .i64 ((i : Int) + 1) ((n : Int) - 1) = (((i + 1) % n : Nat) : Int) := by
  subst hl
  rw [i64_and_pow _ b hb]; simp
theorem and_way {n b : Nat} (hl : n = 2 ^ b) (hb : b ≤ 40) {i j : Nat} (hi : i < n) (hj : j < n) : bits .and .i64 ((j : Int) - i) ((n : Int) - 1) = ((way n i j : Nat) : Int) := by
  subst hl
  rw [i64_and_pow _ b hb]
  rcases way_cases hi hj with ⟨h1, h2⟩ | ⟨h1, h2⟩
  · rw [h2, Int.emod_eq_of_lt (by omega) (by omega)]; omega
  · rw [h2, ← Int.add_emod_right, Int.emod_eq_of_lt (by omega) (by omega)]; omega

set_option maxRecDepth 100000 in
set_option maxHeartbeats 1000000 in
theorem p_next {w : World} {g h : Nat} {l u t : Int} {b : Nat} {xs : List Nd} (d : Pn w g h l b u t xs) (hl : xs.length = 2 ^ b) (hb : b ≤ 40) (i : Nat) (hi : i < xs.length) :
    Calls Try.prog 146 #[.pointer (some ⟨g, 0, none⟩), .int .i64 i] w fun e w' => e = .returned (.int .i64 ((i + 1) % xs.length : Nat)) ∧ w = w' := by
  obtain ⟨capc4, c4⟩ := d.c4
  have h40 : 2 ^ b ≤ 2 ^ 40 := Nat.pow_le_pow_right (by omega) hb
  have h41 : (2 : Nat) ^ 40 = 1099511627776 := rfl
  have hlen : xs.length ≤ 1099511627776 := by omega
  clear h40 h41
  have Hl := hid hl
  clear hl
  go_enter Try.func146, Try.ntmps146
  go_wp2
  go_ret
  exact ⟨ret_int (and_next Hl.out hb i), rfl⟩
set_option maxRecDepth 100000 in
set_option maxHeartbeats 1000000 in
theorem p_way {w : World} {g h : Nat} {l u t : Int} {b : Nat} {xs : List Nd} (d : Pn w g h l b u t xs) (hl : xs.length = 2 ^ b) (hb : b ≤ 40) (i j : Nat) (hi : i < xs.length) (hj : j < xs.length) :
    Calls Try.prog 148 #[.pointer (some ⟨g, 0, none⟩), .int .i64 i, .int .i64 j] w fun e w' => e = .returned (.int .i64 (way xs.length i j : Nat)) ∧ w = w' := by
  obtain ⟨capc4, c4⟩ := d.c4
  have h40 : 2 ^ b ≤ 2 ^ 40 := Nat.pow_le_pow_right (by omega) hb
  have h41 : (2 : Nat) ^ 40 = 1099511627776 := rfl
  have hlen : xs.length ≤ 1099511627776 := by omega
  clear h40 h41
  have Hl := hid hl
  clear hl
  go_enter Try.func148, Try.ntmps148
  go_wp2
  go_ret
  exact ⟨ret_int (and_way Hl.out hb hi hj), rfl⟩

set_option maxRecDepth 100000 in
set_option maxHeartbeats 1000000 in
theorem p_right {w : World} {g h : Nat} {l u t : Int} {b : Nat} {xs : List Nd} (id : Int) (d : Pn w g h l b u t xs) (hl : 1 ≤ l ∧ l ≤ 48) (bi : -9223372036854775808 ≤ id ∧ id ≤ 9223372036854775807) :
    Calls Try.prog 144 #[.pointer (some ⟨g, 0, none⟩), .int .i64 id] w fun e w' => e = .returned (.bool (rightB l id)) ∧ w = w' := by
  have c0 : w.cell? ⟨g, 0, none⟩ = some (.int .i64 l) := d.c0
  go_enter Try.func144, Try.ntmps144
  go_wp2_with fail
  refine (twig_right l id w (by omega) (by omega) bi.1 bi.2).mono ?_
  rintro e w' ⟨rfl, rfl⟩
  go_wp2_with fail
  go_ret
  exact ⟨rfl, rfl⟩
end Go.Proofs.Ytejoecoenehooaa
