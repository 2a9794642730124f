/- The walks of seal: More, Begin, Of, Bytes, Seal. -/
import Derived.Test.YtbbkfjbaocpknaaVyMath
import Derived.Test.YtbbkfjbaocpknaaNu2
import Derived.Deep.LoopGhost
import Derived.Test.YtbbkfjbaocpknaaBC
namespace Go.Proofs.Ytbbkfjbaocpknaa
open Go.RowKit Vy

theorem Vy.at_byte {s : ByteArray} {m : Nat} (h : m < s.size) : (s.data.toList.getD m 0).toNat = s[m].toNat := by
  have h' : m < s.data.toList.length := by simpa using h
  rw [List.getD, List.getElem?_eq_getElem h']
  rfl
def MoreRel (s : ByteArray) (a b : Nat) (bx : Nat) (w : World) (gn : Nat) (x : Value) (wr : World) : Prop :=
  Blk wr (bx + 1) #[.int .i64 0, .int .i64 0] 104 ∧ Below bx w wr ∧
  ((x = .string s ∧ 1 ≤ gn ∧ Blk wr bx #[.int .i64 a, .int .i64 b] 104) ∨
   (∃ s' : ByteArray, x = .string s' ∧ s'.size = 0 ∧ Blk wr bx #[.int .i64 ((sumP a b s.data.toList s.size).1 : Nat), .int .i64 ((sumP a b s.data.toList s.size).2 : Nat)] 104))
def MoreIn (s : ByteArray) (a b : Nat) (bx : Nat) (w : World) (x : Value) (wr : World) : Prop :=
  ∃ m L H : Nat, x = .int .i64 m ∧ m ≤ s.size ∧ Hid (L % 65521 = (sumP a b s.data.toList m).1 ∧ H % 65521 = (sumP a b s.data.toList m).2) ∧ L ≤ 65520 + 255 * m ∧ H ≤ 65520 + m * 1340520 ∧
    Blk wr (bx + 1) #[.int .i64 0, .int .i64 0] 104 ∧ Below bx w wr ∧ Blk wr bx #[.int .i64 L, .int .i64 H] 104
set_option maxRecDepth 100000 in
set_option maxHeartbeats 1000000 in
theorem s_more {w : World} {a b : Nat} (s : ByteArray) (ha : a < 65521) (hb : b < 65521) (hs : s.size ≤ 5000) :
    Calls Try.prog 90 #[.agg #[.int .i64 a, .int .i64 b], .string s] w fun e w' => e = .returned (.agg #[.int .i64 ((sumP a b s.data.toList s.size).1 : Nat), .int .i64 ((sumP a b s.data.toList s.size).2 : Nat)]) ∧ Below w.heap.size w w' := by
  have X1 := (Blk.new w #[.int .i64 a, .int .i64 b] 104).alloc (.cells #[.int .i64 0, .int .i64 0] 104)
  have Y1 := Blk.new (w.alloc (.cells #[.int .i64 a, .int .i64 b] 104)) #[.int .i64 0, .int .i64 0] 104
  have hb1 : Below w.heap.size w ((w.alloc (.cells #[.int .i64 a, .int .i64 b] 104)).alloc (.cells #[.int .i64 0, .int .i64 0] 104)) := ((Below.refl _ _).alloc (Nat.le_refl _) _).alloc (by simp) _
  rw [World.size_alloc] at Y1
  have SL := hid (fun m => sumP_lt (t := s.data.toList) ha hb m)
  go_enter Try.func90, Try.ntmps90
  go_wp2_with fail
  generalize ((w.alloc (.cells #[.int .i64 a, .int .i64 b] 104)).alloc (.cells #[.int .i64 0, .int .i64 0] 104)) = w1 at *
  go_loopg [1] 1 (fun gn x wr => MoreRel s a b w.heap.size w gn x wr)
  case atStart => exact ⟨Y1, hb1, .inl ⟨rfl, Nat.le_refl _, X1⟩⟩
  case round =>
    obtain ⟨Yr, hbl, (⟨rfl, hgn, Xr⟩ | ⟨s', rfl, hz, Xr⟩)⟩ := hrel
    · have hx := Xr.lt
      have hy := Yr.lt
      by_cases h0 : s.size = 0
      · have z0 : ¬ 0 < s.size := by omega
        have c0 : wr.cell? ⟨w.heap.size, 0, none⟩ = some (.int .i64 a) := Xr.cell 0
        have c1 : wr.cell? ⟨w.heap.size, 1, none⟩ = some (.int .i64 b) := Xr.cell 1
        have y0 : wr.cell? ⟨w.heap.size + 1, 0, none⟩ = some (.int .i64 0) := Yr.cell 0
        have y1 : wr.cell? ⟨w.heap.size + 1, 1, none⟩ = some (.int .i64 0) := Yr.cell 1
        have f0 := Yr.free 0
        have f1 := Yr.free 1
        have e0 : sumP a b s.data.toList s.size = (a, b) := by rw [h0]; rfl
        have Y2 := (Yr.set 0 (.int .i64 a)).set 1 (.int .i64 b)
        have r0 : World.cell? _ ⟨w.heap.size + 1, 0, none⟩ = some (.int .i64 a) := Y2.cell 0
        have r1 : World.cell? _ ⟨w.heap.size + 1, 1, none⟩ = some (.int .i64 b) := Y2.cell 1
        have hbz := (hbl.setCell (p := ⟨w.heap.size + 1, 0, none⟩) (by show w.heap.size ≤ w.heap.size + 1; omega) (.int .i64 a)).setCell (p := ⟨w.heap.size + 1, 1, none⟩) (by show w.heap.size ≤ w.heap.size + 1; omega) (.int .i64 b)
        have E0 := hid e0
        clear h0 e0
        go_wp2_with fail
        exact bodyPost_ret (v := .agg #[.int .i64 a, .int .i64 b]) (by simp [results, Try.results90, go_sem, r0, r1]) rfl ⟨by rw [E0.out], hbz⟩
      · have z0 : 0 < s.size := by omega
        have hmin : min (s.size : Int) 5000 = (s.size : Int) := by omega
        go_wp2_with fail
        go_loopw [14] (fun x wr => MoreIn s a b w.heap.size w x wr) (fun x _ => s.size - (intOf x).toNat)
        case atStart => exact ⟨0, a, b, rfl, Nat.zero_le _, ⟨Nat.mod_eq_of_lt ha, Nat.mod_eq_of_lt hb⟩, by omega, by omega, Yr, hbl, Xr⟩
        case round =>
          obtain ⟨m, L, H, rfl, hm, hR, hL, hH, Yq, hbq, Xq⟩ := hrel
          clear Xr Yr hbl hx hy
          have hx := Xq.lt
          have hy := Yq.lt
          have c0 : wr.cell? ⟨w.heap.size, 0, none⟩ = some (.int .i64 L) := Xq.cell 0
          have c1 : wr.cell? ⟨w.heap.size, 1, none⟩ = some (.int .i64 H) := Xq.cell 1
          have f0 := Xq.free 0
          have f1 := Xq.free 1
          by_cases hlt : m < s.size
          · have z1 : decide ((m : Int) < (s.size : Int)) = true := decide_eq_true (by omega)
            have hcb : s[m].toNat < 256 := s[m].toNat_lt
            obtain ⟨c, hc⟩ : ∃ c : Nat, s[m].toNat = c := ⟨_, rfl⟩
            have NX := hid (sumP_raw hR.out.1 hR.out.2 ((at_byte hlt).trans hc))
            have hLb : L + c ≤ 65520 + 255 * (m + 1) := by omega
            have hHb : H + (L + c) ≤ 65520 + (m + 1) * 1340520 := by omega
            clear hR
            go_upto_region 6 with fail
            go_region
            have Xd := (Xq.set 0 (.int .i64 ((L : Int) + c))).drewN 1
            have Yd := (Yq.set_other (g' := w.heap.size) 0 (.int .i64 ((L : Int) + c)) (by omega)).drewN 1
            have hbd := (hbq.setCell (p := ⟨w.heap.size, 0, none⟩) (Nat.le_refl _) (.int .i64 ((L : Int) + c))).trans (below_drewN (Below.refl w.heap.size _) 1)
            clear c0 c1 f0 f1 Xq Yq hbq
            obtain ⟨w2, hw2⟩ : ∃ x, x = (wr.setCell ⟨w.heap.size, 0, none⟩ (.int .i64 ((L : Int) + c))).drew := ⟨_, rfl⟩
            have Xd : Blk w2 w.heap.size #[.int .i64 ((L : Int) + c), .int .i64 H] 104 := by rw [hw2]; exact Xd
            have Yd : Blk w2 (w.heap.size + 1) #[.int .i64 0, .int .i64 0] 104 := by rw [hw2]; exact Yd
            have hbd : Below w.heap.size w w2 := by rw [hw2]; exact hbd
            rw [← hw2]
            clear hw2
            have c0 : w2.cell? ⟨w.heap.size, 0, none⟩ = some (.int .i64 ((L : Int) + c)) := Xd.cell 0
            have c1 : w2.cell? ⟨w.heap.size, 1, none⟩ = some (.int .i64 H) := Xd.cell 1
            have f1 := Xd.free 1
            have X3 := Xd.set 1 (.int .i64 ((H : Int) + ((L : Int) + c)))
            have Y3 := Yd.set_other (g' := w.heap.size) 1 (.int .i64 ((H : Int) + ((L : Int) + c))) (by omega)
            have hb3 := hbd.setCell (p := ⟨w.heap.size, 1, none⟩) (Nat.le_refl _) (.int .i64 ((H : Int) + ((L : Int) + c)))
            go_wp2_with fail
            go_roundw
            case rel => exact ⟨m + 1, L + c, H + (L + c), by go_num, by omega, NX.out, by omega, by omega, Y3, hb3, by simpa using X3⟩
            case measure => simp [intOf]; omega
          · obtain rfl : m = s.size := by omega
            obtain ⟨hR1, hR2⟩ := hR.out
            have z1 : decide ((s.size : Int) < (s.size : Int)) = false := decide_eq_false (by omega)
            have hA : (L : Int) % 65521 = ((sumP a b s.data.toList s.size).1 : Int) := by rw [← hR1]; simp
            have hZ : (H : Int) % 65521 = ((sumP a b s.data.toList s.size).2 : Int) := by rw [← hR2]; simp
            obtain ⟨A, eA⟩ : ∃ A, (sumP a b s.data.toList s.size).1 = A := ⟨_, rfl⟩
            obtain ⟨Z, eZ⟩ : ∃ Z, (sumP a b s.data.toList s.size).2 = Z := ⟨_, rfl⟩
            rw [eA] at hA
            rw [eZ] at hZ
            have X3 := (Xq.set 0 (.int .i64 A)).set 1 (.int .i64 Z)
            have Y3 := (Yq.set_other (g' := w.heap.size) 0 (.int .i64 A) (by omega)).set_other (g' := w.heap.size) 1 (.int .i64 Z) (by omega)
            have hb3 := (hbq.setCell (p := ⟨w.heap.size, 0, none⟩) (Nat.le_refl _) (.int .i64 A)).setCell (p := ⟨w.heap.size, 1, none⟩) (Nat.le_refl _) (.int .i64 Z)
            have EA := hid eA
            have EZ := hid eZ
            clear eA eZ hR hR1 hR2
            go_wp2_with fail
            go_roundg 0
            case rel => exact ⟨Y3, hb3, .inr ⟨ByteArray.empty, rfl, rfl, by rw [EA.out, EZ.out]; simpa using X3⟩⟩
            case measure => omega
    · have hx := Xr.lt
      have hy := Yr.lt
      have z0 : s'.size = 0 := hz
      have hsl := SL.out s.size
      obtain ⟨A, eA⟩ : ∃ A, (sumP a b s.data.toList s.size).1 = A := ⟨_, rfl⟩
      obtain ⟨Z, eZ⟩ : ∃ Z, (sumP a b s.data.toList s.size).2 = Z := ⟨_, rfl⟩
      rw [eA, eZ] at Xr hsl
      have EA := hid eA
      have EZ := hid eZ
      clear eA eZ
      have c0 : wr.cell? ⟨w.heap.size, 0, none⟩ = some (.int .i64 A) := Xr.cell 0
      have c1 : wr.cell? ⟨w.heap.size, 1, none⟩ = some (.int .i64 Z) := Xr.cell 1
      have y0 : wr.cell? ⟨w.heap.size + 1, 0, none⟩ = some (.int .i64 0) := Yr.cell 0
      have y1 : wr.cell? ⟨w.heap.size + 1, 1, none⟩ = some (.int .i64 0) := Yr.cell 1
      have f0 := Yr.free 0
      have f1 := Yr.free 1
      have Y2 := (Yr.set 0 (.int .i64 A)).set 1 (.int .i64 Z)
      have r0 : World.cell? _ ⟨w.heap.size + 1, 0, none⟩ = some (.int .i64 A) := Y2.cell 0
      have r1 : World.cell? _ ⟨w.heap.size + 1, 1, none⟩ = some (.int .i64 Z) := Y2.cell 1
      have hbz := (hbl.setCell (p := ⟨w.heap.size + 1, 0, none⟩) (by show w.heap.size ≤ w.heap.size + 1; omega) (.int .i64 A)).setCell (p := ⟨w.heap.size + 1, 1, none⟩) (by show w.heap.size ≤ w.heap.size + 1; omega) (.int .i64 Z)
      go_wp2_with fail
      exact bodyPost_ret (v := .agg #[.int .i64 A, .int .i64 Z]) (by simp [results, Try.results90, go_sem, r0, r1]) rfl ⟨by rw [EA.out, EZ.out], hbz⟩
set_option maxRecDepth 100000 in
theorem s_begin (w : World) : Calls Try.prog 89 #[] w fun e w' => e = .returned (.agg #[.int .i64 1, .int .i64 0]) ∧ Below w.heap.size w w' := by
  go_enter Try.func89, Try.ntmps89
  go_wp2_with fail
  exact bodyPost_ret (v := .agg #[.int .i64 1, .int .i64 0]) (by simp [results, Try.results89, go_sem]) rfl ⟨rfl, (Below.refl _ _).alloc (Nat.le_refl _) _⟩
def OfRel (s : ByteArray) (b2 nb : Nat) (w : World) (gn : Nat) (x : Value) (wr : World) : Prop :=
  Blk wr b2 #[.int .i64 0, .int .i64 0] 104 ∧ Below b2 w wr ∧
  ((x = .int .i64 (0 : Nat) ∧ 1 ≤ gn ∧ Blk wr nb #[.int .i64 1, .int .i64 0] 104) ∨
   (x = .int .i64 (1 : Nat) ∧ Blk wr nb #[.int .i64 ((sumP 1 0 s.data.toList s.size).1 : Nat), .int .i64 ((sumP 1 0 s.data.toList s.size).2 : Nat)] 104))
set_option maxRecDepth 100000 in
set_option maxHeartbeats 1000000 in
theorem s_of {w : World} (s : ByteArray) (g : Nat) (hc : w.cell? ⟨g, 0, none⟩ = some (.string s)) (hg : g < w.heap.size) (hs : s.size ≤ 5000) :
    Calls Try.prog 63 #[.slice (some ⟨g, 0, none⟩) 1 1] w fun e w' => e = .returned (.agg #[.int .i64 ((sumP 1 0 s.data.toList s.size).1 : Nat), .int .i64 ((sumP 1 0 s.data.toList s.size).2 : Nat)]) ∧ Below w.heap.size w w' := by
  have X1 := Blk.new w #[.int .i64 0, .int .i64 0] 104
  have hb1 : Below w.heap.size w (w.alloc (.cells #[.int .i64 0, .int .i64 0] 104)) := (Below.refl _ _).alloc (Nat.le_refl _) _
  have BG := hid s_begin
  have MR := hid (fun (W : World) => s_more (w := W) (a := 1) (b := 0) s (by decide) (by decide) hs)
  go_enter Try.func63, Try.ntmps63
  go_wp2_with fail
  generalize (w.alloc (.cells #[.int .i64 0, .int .i64 0] 104)) = w1 at *
  refine (BG.out _).mono ?_
  rintro e w2 ⟨rfl, hb2⟩
  have hbw := hb1.trans (hb2.mono hb1.size)
  have X2 := X1.below hb2 (Nat.le_refl _)
  have Y3 := Blk.new w2 #[.int .i64 1, .int .i64 0] 104
  have hb3 := hbw.alloc hbw.size (.cells #[.int .i64 1, .int .i64 0] 104)
  have X3 := X2.alloc (.cells #[.int .i64 1, .int .i64 0] 104)
  have hx2 := X2.lt
  clear X1 hb1 hb2 X2 hbw
  go_wp2_with fail
  generalize (w2.alloc (.cells #[.int .i64 1, .int .i64 0] 104)) = w3 at *
  go_loopg [9] 1 (fun gn x wr => OfRel s w.heap.size w2.heap.size w gn x wr)
  case atStart => exact ⟨X3, hb3, .inl ⟨rfl, Nat.le_refl _, Y3⟩⟩
  case round =>
    obtain ⟨Yr, hbl, (⟨rfl, hgn, Xr⟩ | ⟨rfl, Xr⟩)⟩ := hrel
    · have c0 : wr.cell? ⟨w2.heap.size, 0, none⟩ = some (.int .i64 1) := Xr.cell 0
      have c1 : wr.cell? ⟨w2.heap.size, 1, none⟩ = some (.int .i64 0) := Xr.cell 1
      have cs : wr.cell? ⟨g, 0, none⟩ = some (.string s) := cell_below hbl hc hg
      have MR1 := hid (MR.out wr)
      go_wp2_with fail
      refine MR1.out.mono ?_
      rintro e w4 ⟨rfl, hb4⟩
      have Y4 := Yr.below hb4 (Nat.le_refl _)
      have X4 := Xr.below hb4 (Nat.le_refl _)
      have hb5 := hbl.trans (hb4.mono hbl.size)
      obtain ⟨A, eA⟩ : ∃ A, (sumP 1 0 s.data.toList s.size).1 = A := ⟨_, rfl⟩
      obtain ⟨Z, eZ⟩ : ∃ Z, (sumP 1 0 s.data.toList s.size).2 = Z := ⟨_, rfl⟩
      rw [eA, eZ]
      have EA := hid eA
      have EZ := hid eZ
      have hne : w.heap.size ≠ w2.heap.size := by omega
      clear eA eZ c0 c1 cs MR1 Xr Yr hbl hb4
      have c0 : w4.cell? ⟨w2.heap.size, 0, none⟩ = some (.int .i64 1) := X4.cell 0
      have c1 : w4.cell? ⟨w2.heap.size, 1, none⟩ = some (.int .i64 0) := X4.cell 1
      have f0 := X4.free 0
      have f1 := X4.free 1
      have X5 := (X4.set 0 (.int .i64 A)).set 1 (.int .i64 Z)
      have Y5 := (Y4.set_other (g' := w2.heap.size) 0 (.int .i64 A) hne).set_other (g' := w2.heap.size) 1 (.int .i64 Z) hne
      have hb6 := (hb5.setCell (p := ⟨w2.heap.size, 0, none⟩) (by show w.heap.size ≤ w2.heap.size; omega) (.int .i64 A)).setCell (p := ⟨w2.heap.size, 1, none⟩) (by show w.heap.size ≤ w2.heap.size; omega) (.int .i64 Z)
      clear X4 Y4 hb5
      go_wp2_with fail
      go_roundg 0
      case rel => exact ⟨Y5, hb6, .inr ⟨by go_num, by rw [EA.out, EZ.out]; simpa using X5⟩⟩
      case measure => omega
    · obtain ⟨A, eA⟩ : ∃ A, (sumP 1 0 s.data.toList s.size).1 = A := ⟨_, rfl⟩
      obtain ⟨Z, eZ⟩ : ∃ Z, (sumP 1 0 s.data.toList s.size).2 = Z := ⟨_, rfl⟩
      rw [eA, eZ] at Xr
      have EA := hid eA
      have EZ := hid eZ
      clear eA eZ
      have c0 : wr.cell? ⟨w2.heap.size, 0, none⟩ = some (.int .i64 A) := Xr.cell 0
      have c1 : wr.cell? ⟨w2.heap.size, 1, none⟩ = some (.int .i64 Z) := Xr.cell 1
      have y0 : wr.cell? ⟨w.heap.size, 0, none⟩ = some (.int .i64 0) := Yr.cell 0
      have y1 : wr.cell? ⟨w.heap.size, 1, none⟩ = some (.int .i64 0) := Yr.cell 1
      have f0 := Yr.free 0
      have f1 := Yr.free 1
      have Y2 := (Yr.set 0 (.int .i64 A)).set 1 (.int .i64 Z)
      have r0 : World.cell? _ ⟨w.heap.size, 0, none⟩ = some (.int .i64 A) := Y2.cell 0
      have r1 : World.cell? _ ⟨w.heap.size, 1, none⟩ = some (.int .i64 Z) := Y2.cell 1
      have hbz := (hbl.setCell (p := ⟨w.heap.size, 0, none⟩) (Nat.le_refl _) (.int .i64 A)).setCell (p := ⟨w.heap.size, 1, none⟩) (Nat.le_refl _) (.int .i64 Z)
      go_wp2_with fail
      exact bodyPost_ret (v := .agg #[.int .i64 A, .int .i64 Z]) (by simp [results, Try.results63, go_sem, r0, r1]) rfl ⟨by rw [EA.out, EZ.out], hbz⟩
theorem Vy.byte_of (n : Nat) : ((UInt8.ofNat n).toNat : Int) = (n : Int) % 256 := by simp [UInt8.toNat_ofNat']
set_option maxRecDepth 100000 in
set_option maxHeartbeats 1000000 in
theorem s_bytes {w : World} {a b : Nat} (ha : a < 65521) (hb : b < 65521) :
    Calls Try.prog 64 #[.agg #[.int .i64 a, .int .i64 b]] w fun e w' => e = .returned (.string ⟨(sbytes (a, b)).toArray⟩) ∧ Below w.heap.size w w' := by
  have X1 := Blk.new w #[.int .i64 a, .int .i64 b] 104
  have hb1 : Below w.heap.size w (w.alloc (.cells #[.int .i64 a, .int .i64 b] 104)) := (Below.refl _ _).alloc (Nat.le_refl _) _
  have e0 : (b : Int) / 256 = ((UInt8.ofNat (b / 256)).toNat : Int) := by rw [byte_of]; omega
  have e1 : (b : Int) % 256 = ((UInt8.ofNat (b % 256)).toNat : Int) := by rw [byte_of]; omega
  have e2 : (a : Int) / 256 = ((UInt8.ofNat (a / 256)).toNat : Int) := by rw [byte_of]; omega
  have e3 : (a : Int) % 256 = ((UInt8.ofNat (a % 256)).toNat : Int) := by rw [byte_of]; omega
  have CV := bytes_string (Blk.new (w.alloc (.cells #[.int .i64 a, .int .i64 b] 104)) #[.int .u8 ((b : Int) / 256), .int .u8 ((b : Int) % 256), .int .u8 ((a : Int) / 256), .int .u8 ((a : Int) % 256)] 5) (sbytes (a, b)) (by rw [e0, e1, e2, e3]; rfl) 4
  have hb2 := hb1.alloc hb1.size (.cells #[.int .u8 ((b : Int) / 256), .int .u8 ((b : Int) % 256), .int .u8 ((a : Int) / 256), .int .u8 ((a : Int) % 256)] 5)
  have hS : (sbytes (a, b)).length = 4 := rfl
  have HS : Hid (∃ S, sbytes (a, b) = S) := ⟨_, rfl⟩
  rw [hS] at CV
  generalize sbytes (a, b) = S at *
  clear e0 e1 e2 e3 HS
  simp only [World.size_alloc] at CV
  go_enter Try.func64, Try.ntmps64
  go_wp2_with fail
  go_ret
  exact ⟨rfl, hb2⟩
set_option maxRecDepth 100000 in
set_option maxHeartbeats 1000000 in
theorem s_seal {w : World} (t : List UInt8) (ht : t.length ≤ 5000) :
    Calls Try.prog 37 #[.string ⟨t.toArray⟩] w fun e w' => e = .returned (.string ⟨(sealL t).toArray⟩) ∧ Below w.heap.size w w' := by
  have hb1 : Below w.heap.size w (w.alloc (.cells #[.string ⟨t.toArray⟩] 9)) := (Below.refl _ _).alloc (Nat.le_refl _) _
  have X1 := Blk.new w #[.string ⟨t.toArray⟩] 9
  have OF := hid (s_of (w := w.alloc (.cells #[.string ⟨t.toArray⟩] 9)) ⟨t.toArray⟩ w.heap.size (X1.cell 0) X1.lt (by show t.toArray.size ≤ 5000; simpa using ht))
  have e1 : (⟨t.toArray⟩ : ByteArray).data.toList = t := by simp
  have e2 : (⟨t.toArray⟩ : ByteArray).size = t.length := by show t.toArray.size = t.length; simp
  rw [e1, e2] at OF
  obtain ⟨h1, h2⟩ := sumP_lt (a := 1) (b := 0) (t := t) (by decide) (by decide) t.length
  have SB := hid (fun W => s_bytes (w := W) h1 h2)
  have E := hid (show t ++ sbytes ((sumP 1 0 t t.length).1, (sumP 1 0 t t.length).2) = sealL t from rfl)
  obtain ⟨A, eA⟩ : ∃ A, (sumP 1 0 t t.length).1 = A := ⟨_, rfl⟩
  obtain ⟨Z, eZ⟩ : ∃ Z, (sumP 1 0 t t.length).2 = Z := ⟨_, rfl⟩
  rw [eA, eZ] at OF SB E
  have hn : ¬ 9223372036854775807 < t.length + (sbytes (A, Z)).length := by simp [sbytes]; omega
  clear e1 e2 eA eZ h1 h2 X1
  go_enter Try.func37, Try.ntmps37
  go_wp2_with fail
  refine OF.out.mono ?_
  rintro e w2 ⟨rfl, hb2⟩
  have hb3 := hb1.trans (hb2.mono hb1.size)
  clear OF hb1 hb2
  go_wp2_with fail
  refine (SB.out _).mono ?_
  rintro e w3 ⟨rfl, hb4⟩
  have hb5 := hb3.trans (hb4.mono hb3.size)
  generalize sbytes (A, Z) = S at *
  go_wp2_with fail
  go_ret
  exact ⟨by simp [bs_app, E.out], hb5⟩
end Go.Proofs.Ytbbkfjbaocpknaa
