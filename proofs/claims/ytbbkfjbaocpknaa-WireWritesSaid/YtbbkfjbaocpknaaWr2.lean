/- The walks of vary.Put, vary.Rises, and the reference's Rises. -/
import Derived.Test.YtbbkfjbaocpknaaWr1
import Derived.Test.YtbbkfjbaocpknaaBF
namespace Go.Proofs.Ytbbkfjbaocpknaa
open Go.RowKit Vy

theorem Vy.ws_at {l : List Int} {j : Nat} {a : Int} (h : l.getD j 0 = a) : wsL l (j + 1) = wsL l j ++ vyL a.toNat := by rw [wsL, h]
theorem Vy.gaps_at {l : List Int} {j : Nat} {a : Int} (h : l.getD j 0 = a) : gapsL l (j + 1) = gapsL l j ++ vyL (a - lastI l j).toNat := by rw [gapsL, h]
/-- Numbers that may be put. -/
def Cnt (l : List Int) : Prop := ∀ j, 0 ≤ l.getD j 0 ∧ l.getD j 0 ≤ 9223372036854775807
/-- Numbers that rise. -/
def Rise (l : List Int) : Prop := ∀ j, j < l.length → lastI l j < l.getD j 0
theorem Vy.last_bd {l : List Int} (h : Cnt l) (j : Nat) : 0 ≤ lastI l j ∧ lastI l j ≤ 9223372036854775807 := by
  cases j with
  | zero => exact ⟨Int.le_refl _, by show (0 : Int) ≤ 9223372036854775807; decide⟩
  | succ j => exact h j
set_option maxRecDepth 100000 in
set_option maxHeartbeats 1000000 in
theorem v_put {w : World} {v : Value} {l : List Int} (hr : RdI w v l) (hc : Cnt l) (hl : l.length ≤ 10000) :
    Calls Try.prog 34 #[v] w fun e w' => e = .returned (.tuple #[.string ⟨(wsL l l.length).toArray⟩, .int .i64 0]) ∧ Below w.heap.size w w' := by
  have hws := fun j => ws_len (fun j => (hc j).2) (l := l) j
  obtain ⟨p, cap, rfl⟩ := hr.val
  have ON := hid (fun (W : World) (N : Nat) (hN : N ≤ 9223372036854775807) (v : Value) (xs : List UInt8) (ho : OwnU W w.heap.size v xs) (hB : w.heap.size ≤ W.heap.size) (hl : xs.length ≤ 1000000) => v_one N hN ho hB hl)
  go_enter Try.func34, Try.ntmps34
  go_wp2_with fail
  go_loopg [4, 9] l.length (fun gn b i wr => ∃ j : Nat, i = .int .i64 j ∧ j ≤ l.length ∧ l.length - j ≤ gn ∧ OwnU wr w.heap.size b (wsL l j) ∧ Below w.heap.size w wr)
  case atStart => exact ⟨0, rfl, Nat.zero_le _, Nat.le_refl _, OwnU.nil _ _, Below.refl _ _⟩
  case round =>
    obtain ⟨j, rfl, hj, hgn, hown, hbl⟩ := hrel
    have hwr := hbl.size
    have hlen := hws j
    by_cases hlt : j < l.length
    · obtain ⟨gs, off, a, hp, hac, hgs, q0⟩ := (hr.below hbl (Nat.le_refl _)).at hlt
      subst hp
      have hb := hc j
      rw [hac] at hb
      have st := hid (ws_at hac)
      obtain ⟨n, rfl⟩ := Int.eq_ofNat_of_zero_le hb.1
      have z0 : decide ((j : Int) < (l.length : Int)) = true := decide_eq_true (by omega)
      have L1 := hid (ON.out wr n (by omega) _ _ hown hwr (by omega))
      clear hws hc
      go_wp2_with fail
      refine L1.out.mono ?_
      rintro e w2 ⟨v2, rfl, ho2, hb2⟩
      rw [show wsL l j ++ vyL n = wsL l (j + 1) by rw [st.out, Int.toNat_natCast]] at ho2
      go_wp2_with fail
      go_roundg (l.length - (j + 1))
      case rel => exact ⟨j + 1, by go_num, by omega, Nat.le_refl _, ho2, hbl.trans hb2⟩
      case measure => omega
    · obtain rfl : j = l.length := by omega
      have z0 : decide ((l.length : Int) < (l.length : Int)) = false := decide_eq_false (by omega)
      have CV := own_string hown
      go_wp2_with fail
      go_ret2
      exact ⟨rfl, hbl⟩
set_option maxRecDepth 100000 in
set_option maxHeartbeats 1000000 in
theorem v_rises {w : World} {v : Value} {l : List Int} (hr : RdI w v l) (hc : Cnt l) (hi : Rise l) (hl : l.length ≤ 10000) :
    Calls Try.prog 36 #[v] w fun e w' => e = .returned (.tuple #[.string ⟨(risesL l).toArray⟩, .int .i64 0]) ∧ Below w.heap.size w w' := by
  have hgs := fun j => gaps_len (fun j => (hc j).2) (fun j => (hc j).1) (l := l) j
  have hv9 := vy_len9 (n := l.length) (by omega)
  obtain ⟨p, cap, rfl⟩ := hr.val
  have ON := hid (fun (W : World) (N : Nat) (hN : N ≤ 9223372036854775807) (v : Value) (xs : List UInt8) (ho : OwnU W w.heap.size v xs) (hB : w.heap.size ≤ W.heap.size) (hl : xs.length ≤ 1000000) => v_one N hN ho hB hl)
  have L0 := hid (ON.out w l.length (by omega) _ _ (OwnU.nil w w.heap.size) (Nat.le_refl _) (by simp))
  go_enter Try.func36, Try.ntmps36
  go_wp2_with fail
  refine L0.out.mono ?_
  rintro e w1 ⟨v1, rfl, ho1, hb1⟩
  rw [List.nil_append] at ho1
  clear L0
  go_wp2_with fail
  go_loopg [4, 5, 13] l.length (fun gn b x i wr => ∃ j : Nat, i = .int .i64 j ∧ x = .int .i64 (lastI l j) ∧ j ≤ l.length ∧ l.length - j ≤ gn ∧ OwnU wr w.heap.size b (vyL l.length ++ gapsL l j) ∧ Below w.heap.size w wr)
  case atStart => exact ⟨0, rfl, rfl, Nat.zero_le _, Nat.le_refl _, by simpa [gapsL] using ho1, hb1⟩
  case round =>
    obtain ⟨j, rfl, rfl, hj, hgn, hown, hbl⟩ := hrel
    have hwr := hbl.size
    have hlen := hgs j
    by_cases hlt : j < l.length
    · obtain ⟨gs, off, a, hp, hac, hgs', q0⟩ := (hr.below hbl (Nat.le_refl _)).at hlt
      subst hp
      have hb := hc j
      have hri := hi j hlt
      rw [hac] at hb hri
      have hla := last_bd hc j
      have st := hid (gaps_at hac)
      have hnx : lastI l (j + 1) = a := hac
      generalize lastI l j = x at *
      have z0 : decide ((j : Int) < (l.length : Int)) = true := decide_eq_true (by omega)
      have z1 : decide (a ≤ x) = false := decide_eq_false (by omega)
      have en : ((a - x).toNat : Int) = a - x := by omega
      have L1 := hid (ON.out wr (a - x).toNat (by omega) _ _ hown hwr (by simp; omega))
      rw [en] at L1
      have HN := hid hnx
      clear hgs hc hi en hnx
      go_wp2_with fail
      refine L1.out.mono ?_
      rintro e w2 ⟨v2, rfl, ho2, hb2⟩
      rw [List.append_assoc, ← st.out] at ho2
      have hbn := hbl.trans hb2
      go_wp2_with fail
      go_roundg (l.length - (j + 1))
      case rel => exact ⟨j + 1, by go_num, by rw [HN.out], by omega, Nat.le_refl _, ho2, hbn⟩
      case measure => omega
    · obtain rfl : j = l.length := by omega
      have z0 : decide ((l.length : Int) < (l.length : Int)) = false := decide_eq_false (by omega)
      have CV := own_string hown
      go_wp2_with fail
      go_ret2
      exact ⟨rfl, hbl⟩
set_option maxRecDepth 100000 in
set_option maxHeartbeats 1000000 in
theorem r_rises {w : World} {v : Value} {l : List Int} (hr : RdI w v l) (hc : Cnt l) (hi : Rise l) (hl : l.length ≤ 10000) :
    Calls Try.prog 42 #[v] w fun e w' => e = .returned (.tuple #[.string ⟨(risesL l).toArray⟩, .int .i64 0]) ∧ Below w.heap.size w w' := by
  have hgs := fun j => gaps_len (fun j => (hc j).2) (fun j => (hc j).1) (l := l) j
  have hv9 := vy_len9 (n := l.length) (by omega)
  obtain ⟨p, cap, rfl⟩ := hr.val
  have ON := hid (fun (W : World) (N : Nat) (hN : N ≤ 9223372036854775807) => r_one (w := W) N hN)
  have L0 := hid (ON.out w l.length (by omega))
  have RD := hid hr
  clear hr
  go_enter Try.func42, Try.ntmps42
  go_wp2_with fail
  refine L0.out.mono ?_
  rintro e w1 ⟨rfl, hb1⟩
  clear L0
  go_wp2_with fail
  go_loopg [4, 5, 6] l.length (fun gn s x i wr => ∃ j : Nat, i = .int .i64 j ∧ x = .int .i64 (lastI l j) ∧ j ≤ l.length ∧ l.length - j ≤ gn ∧ s = .string ⟨(vyL l.length ++ gapsL l j).toArray⟩ ∧ Below w.heap.size w wr)
  case atStart => exact ⟨0, rfl, rfl, Nat.zero_le _, Nat.le_refl _, by simp [gapsL], hb1⟩
  case round =>
    obtain ⟨j, rfl, rfl, hj, hgn, rfl, hbl⟩ := hrel
    have hwr := hbl.size
    have hlen := hgs j
    by_cases hlt : j < l.length
    · obtain ⟨gs, off, a, hp, hac, hgs', q0⟩ := (RD.out.below hbl (Nat.le_refl _)).at hlt
      subst hp
      have hb := hc j
      have hri := hi j hlt
      rw [hac] at hb hri
      have hla := last_bd hc j
      have st := hid (congrArg (fun t => vyL l.length ++ t) (gaps_at hac))
      have hnx : lastI l (j + 1) = a := hac
      generalize lastI l j = x at *
      have z0 : decide ((j : Int) < (l.length : Int)) = true := decide_eq_true (by omega)
      have z1 : decide (a ≤ x) = false := decide_eq_false (by omega)
      have en : ((a - x).toNat : Int) = a - x := by omega
      have L1 := hid (ON.out wr (a - x).toNat (by omega))
      have hd9 := vy_len9 (n := (a - x).toNat) (by omega)
      rw [en] at L1
      have HN := hid hnx
      have st2 := st.out
      simp only [← List.append_assoc] at st2
      have hL1 : (vyL l.length ++ gapsL l j).length ≤ 9 + 9 * j := by rw [List.length_append]; omega
      obtain ⟨L, eL⟩ : ∃ L, vyL l.length ++ gapsL l j = L := ⟨_, rfl⟩
      rw [eL] at st2 hL1 ⊢
      obtain ⟨D, eD⟩ : ∃ D, vyL (a - x).toNat = D := ⟨_, rfl⟩
      rw [eD] at L1 st2 hd9
      have s1 : ¬ 9223372036854775807 < L.length + D.length := by omega
      have ST := hid st2
      have q1 := (World.cell?_of_block (w := wr) (w' := wr) (a := ⟨gs, off + j, none⟩) rfl)
      clear hgs hc hi en hnx eL eD st st2 q1
      have RC : ∀ W, Below wr.heap.size wr W → W.cell? ⟨gs, off + j, none⟩ = some (.int .i64 a) := fun W hb => (World.cell?_of_block (w := wr) (w' := W) (a := ⟨gs, off + j, none⟩) (hb.block gs hgs')).trans q0
      go_wp2_with fail
      refine L1.out.mono ?_
      rintro e w2 ⟨rfl, hb2⟩
      have hbn := hbl.trans (hb2.mono hwr)
      have q2 := RC w2 hb2
      clear RC
      go_wp2_with fail
      go_roundg (l.length - (j + 1))
      case rel => exact ⟨j + 1, by go_num, by rw [HN.out], by omega, Nat.le_refl _, by rw [ST.out, bs_app], hbn⟩
      case measure => omega
    · obtain rfl : j = l.length := by omega
      have z0 : decide ((l.length : Int) < (l.length : Int)) = false := decide_eq_false (by omega)
      go_wp2_with fail
      go_ret2
      exact ⟨rfl, hbl⟩
end Go.Proofs.Ytbbkfjbaocpknaa
