/- Texts laid together. -/
import Derived.Test.YtdnlejboijkcfaaGreatDoorP01
import Derived.Lib.Bytealg
import Derived.Lib.Walk
import Derived.BigCall
import Derived.BigQuiet
import Derived.Test.YtdnlejboijkcfaaGreatDoorP03
import Derived.Deep.LoopGhost
import Derived.Laws.Rows
import Derived.Test.YtdnlejboijkcfaaGreatDoorP16
import Derived.Test.YtdnlejboijkcfaaGreatDoorP22
import Derived.Test.YtdnlejboijkcfaaGreatDoorP02
import Derived.Test.YtdnlejboijkcfaaGreatDoorP04
import Derived.Deep.AppendLies
/- Decimal digits, and the number that a text begins with (no program in sight). -/
namespace Go.Proofs.YtdnlejboijkcfaaGreatDoor
namespace Sh
def decL (n : Nat) : List UInt8 := if _h : n < 10 then [UInt8.ofNat (48 + n)] else decL (n / 10) ++ [UInt8.ofNat (48 + n % 10)]
termination_by n
decreasing_by omega
theorem decL_low {n : Nat} (h : n < 10) : decL n = [UInt8.ofNat (48 + n)] := by rw [decL]; rw [dif_pos h]
theorem decL_big {n : Nat} (h : ¬ n < 10) : decL n = decL (n / 10) ++ [UInt8.ofNat (48 + n % 10)] := by rw [decL]; rw [dif_neg h]
theorem decL_ne (n : Nat) : decL n ≠ [] := by
  by_cases h : n < 10
  · rw [decL_low h]; simp
  · rw [decL_big h]; simp
theorem decL_len (k : Nat) : ∀ n : Nat, n < 10 ^ (k + 1) → (decL n).length ≤ k + 1 := by
  induction k with
  | zero => intro n h; rw [decL_low (by simpa using h)]; simp
  | succ k ih =>
    intro n h
    by_cases h10 : n < 10
    · rw [decL_low h10]; simp
    · rw [decL_big h10, List.length_append]
      have := ih (n / 10) (by rw [Nat.pow_succ] at h; omega)
      simp; omega
def isDig (c : UInt8) : Bool := decide (48 ≤ c.toNat ∧ c.toNat ≤ 57)
theorem dig_of {d : Nat} (h : d < 10) : (UInt8.ofNat (48 + d)).toNat = 48 + d := by
  simp [UInt8.toNat_ofNat']; omega
def numL (n size : Nat) : List UInt8 → Option (Nat × Nat)
  | [] => some (n, size)
  | c :: r => if isDig c then (if 9223372036854775807 < 10 * n + (c.toNat - 48) then none else numL (10 * n + (c.toNat - 48)) (size + 1) r) else some (n, size)
def numV (l : List UInt8) : Nat × Nat × Bool :=
  match numL 0 0 l with
  | none => (0, 0, false)
  | some (n, size) => if size = 0 ∨ (1 < size ∧ l.head? = some 48) then (0, 0, false) else (n, size, true)
end Sh
end Go.Proofs.YtdnlejboijkcfaaGreatDoor

/- The walks of sheet.Number and the reference's Number. -/
namespace Go.Proofs.YtdnlejboijkcfaaGreatDoor
open Go.RowKit Sh
def NumPost (l : List UInt8) (w : World) (e : Ending) (w' : World) : Prop := e = .returned (.tuple #[.int .i64 (numV l).1, .int .i64 (numV l).2.1, .bool (numV l).2.2]) ∧ w = w'
end Go.Proofs.YtdnlejboijkcfaaGreatDoor

/- Texts laid together: Sr1, Sr2, Sr3, Sr4, Sr5. -/
/- The walks of strings.CutPrefix, and of the closure that reads the next number of a line. -/
namespace Go.Proofs.YtdnlejboijkcfaaGreatDoor
set_option maxRecDepth 100000
open Go.RowKit Sh
theorem Sh.sub_list (s : ByteArray) (j : Nat) : (s.extract j s.size).data.toList = s.data.toList.drop j := by
  rw [ByteArray.data_extract, Array.toList_extract]
  rw [List.extract_eq_take_drop, List.take_of_length_le (by rw [List.length_drop]; simp)]
theorem Sh.pre_list (s : ByteArray) (j : Nat) : (s.extract 0 j).data.toList = s.data.toList.take j := by
  rw [ByteArray.data_extract, Array.toList_extract]
  rw [List.extract_eq_take_drop, List.drop_zero, Nat.sub_zero]
def Sh.begB (s t : List UInt8) : Bool := decide (t.length ≤ s.length) && (s.take t.length == t)
theorem l_has (s t : ByteArray) (w : World) (_hs : s.size ≤ 1000000) (_ht : t.size ≤ 1000000) : Calls Tryz.prog 201 #[.string s, .string t] w fun e w' => e = .returned (.bool (begB s.data.toList t.data.toList)) ∧ w = w' := by
  have hls : s.data.toList.length = s.size := by simp
  have hlt : t.data.toList.length = t.size := by simp
  by_cases h : t.size ≤ s.size
  · have z : decide ((t.size : Int) ≤ (s.size : Int)) = true := decide_eq_true (by omega)
    have E : Hid (begB s.data.toList t.data.toList = ((s.extract 0 t.size).toList == t.toList)) := by
      show _ = _
      unfold begB
      rw [hls, hlt, decide_eq_true h, ByteArray.toList_eq, ByteArray.toList_eq, pre_list]
      simp
    clear hls hlt
    go_enter Tryz.func201, Tryz.ntmps201
    go_wp2_with fail
    go_ret
    exact ⟨by rw [E.out]; rfl, rfl⟩
  · have z : decide ((t.size : Int) ≤ (s.size : Int)) = false := decide_eq_false (by omega)
    have E : Hid (begB s.data.toList t.data.toList = false) := by
      show _ = _
      unfold begB
      rw [hls, hlt, decide_eq_false h]
      rfl
    clear hls hlt
    go_enter Tryz.func201, Tryz.ntmps201
    go_wp2_with fail
    go_ret
    exact ⟨by rw [E.out]; rfl, rfl⟩
def Sh.cutL (s t : List UInt8) : List UInt8 := if begB s t then s.drop t.length else s
def CutPost (s t : List UInt8) (w : World) (e : Ending) (w' : World) : Prop := ∃ r : ByteArray, e = .returned (.tuple #[.string r, .bool (begB s t)]) ∧ r.data.toList = cutL s t ∧ w = w'
theorem l_cut (s t : ByteArray) (w : World) (hs : s.size ≤ 1000000) (ht : t.size ≤ 1000000) : Calls Tryz.prog 177 #[.string s, .string t] w (CutPost s.data.toList t.data.toList w) := by
  have HP := hid (l_has s t w hs ht)
  have hls : s.data.toList.length = s.size := by simp
  have hlt : t.data.toList.length = t.size := by simp
  cases hb : begB s.data.toList t.data.toList
  · rw [hb] at HP
    have P : Hid (CutPost s.data.toList t.data.toList w (.returned (.tuple #[.string s, .bool false])) w) := ⟨s, by rw [hb], by unfold cutL; rw [hb]; rfl, rfl⟩
    clear hb hls hlt
    go_enter Tryz.func177, Tryz.ntmps177
    go_wp2_with fail
    refine HP.out.mono ?_
    rintro e w' ⟨rfl, rfl⟩
    go_wp2_with fail
    go_ret2
    exact P.out
  · rw [hb] at HP
    have hle : t.size ≤ s.size := by
      unfold begB at hb
      simp only [Bool.and_eq_true, decide_eq_true_eq] at hb
      omega
    have P : Hid (CutPost s.data.toList t.data.toList w (.returned (.tuple #[.string (s.extract t.size s.size), .bool true])) w) := ⟨_, by rw [hb], by unfold cutL; rw [hb, sub_list, hlt]; rfl, rfl⟩
    clear hb hls hlt
    go_enter Tryz.func177, Tryz.ntmps177
    go_wp2_with fail
    refine HP.out.mono ?_
    rintro e w' ⟨rfl, rfl⟩
    go_wp2_with fail
    go_ret2
    exact P.out
theorem l_cutp (s t : ByteArray) (w : World) (hs : s.size ≤ 1000000) (ht : t.size ≤ 1000000) : Calls Tryz.prog 144 #[.string s, .string t] w (CutPost s.data.toList t.data.toList w) := by
  have HP := hid (l_cut s t w hs ht)
  go_enter Tryz.func144, Tryz.ntmps144
  go_wp2_with fail
  refine HP.out.mono ?_
  rintro e w' ⟨r, rfl, hr, rfl⟩
  go_wp2_with fail
  go_ret2
  exact ⟨r, rfl, hr, rfl⟩
end Go.Proofs.YtdnlejboijkcfaaGreatDoor
/- The walk of strings.Cut at a line's end. -/
namespace Go.Proofs.YtdnlejboijkcfaaGreatDoor
set_option maxRecDepth 100000
open Go.RowKit Sh
end Go.Proofs.YtdnlejboijkcfaaGreatDoor
/- The walk of the closure that reads the next number of a line. -/
namespace Go.Proofs.YtdnlejboijkcfaaGreatDoor
set_option maxRecDepth 100000
open Go.RowKit Sh
end Go.Proofs.YtdnlejboijkcfaaGreatDoor
/- The walk of sheet.three. -/
namespace Go.Proofs.YtdnlejboijkcfaaGreatDoor
set_option maxRecDepth 100000
open Go.RowKit Sh
end Go.Proofs.YtdnlejboijkcfaaGreatDoor
/- The walk of reading.head. -/
namespace Go.Proofs.YtdnlejboijkcfaaGreatDoor
set_option maxRecDepth 100000
open Go.RowKit Nl Sh
end Go.Proofs.YtdnlejboijkcfaaGreatDoor

/- A letter: written. -/
namespace Go.Proofs.YtdnlejboijkcfaaGreatDoor
set_option maxHeartbeats 8000000
set_option maxRecDepth 100000
open Go.RowKit Vy Sh Tb
namespace Vy
def headG (e f c n : Nat) : List UInt8 := wsL [(e : Int), (f : Int), (c : Int), (n : Int)] 4
def letG (e f c : Nat) (s : ByteArray) : List UInt8 := [68, 87, 76, 1] ++ (headG e f c s.size ++ s.data.toList)
theorem headG_eq (e f c n : Nat) : headG e f c n = vyL e ++ (vyL f ++ (vyL c ++ vyL n)) := by
  unfold headG
  simp only [wsL, List.getD_cons_zero, List.getD_cons_succ, List.nil_append, Int.toNat_natCast, List.append_assoc]
theorem headG_cnt {e f c n : Nat} (he : e ≤ 1099511627776) (hf : f < 48) (hc : c < 281474976710656) (hn : n ≤ 200000) : ∀ j, 0 ≤ ([(e : Int), (f : Int), (c : Int), (n : Int)] : List Int).getD j 0 ∧ ([(e : Int), (f : Int), (c : Int), (n : Int)] : List Int).getD j 0 ≤ 9223372036854775807 := fun j => by
  match j with
  | 0 => show 0 ≤ (e : Int) ∧ (e : Int) ≤ _; omega
  | 1 => show 0 ≤ (f : Int) ∧ (f : Int) ≤ _; omega
  | 2 => show 0 ≤ (c : Int) ∧ (c : Int) ≤ _; omega
  | 3 => show 0 ≤ (n : Int) ∧ (n : Int) ≤ _; omega
  | j + 4 => show 0 ≤ (0 : Int) ∧ (0 : Int) ≤ _; decide
theorem headG_len {e f c n : Nat} (he : e ≤ 1099511627776) (hf : f < 48) (hc : c < 281474976710656) (hn : n ≤ 200000) : (headG e f c n).length ≤ 36 := ws_len (l := [(e : Int), (f : Int), (c : Int), (n : Int)]) (fun j => (headG_cnt he hf hc hn j).2) 4
theorem letG_str (e f c : Nat) (s : ByteArray) : (⟨#[68, 87, 76, 1]⟩ ++ ⟨(headG e f c s.size).toArray⟩ ++ s : ByteArray) = ⟨(letG e f c s).toArray⟩ := by
  conv => lhs; rw [bs_list s]
  ext1
  simp [letG]
theorem letG_len {e f c : Nat} {s : ByteArray} (he : e ≤ 1099511627776) (hf : f < 48) (hc : c < 281474976710656) (h : s.size ≤ 150000) : (letG e f c s).length ≤ s.size + 40 := by
  have := headG_len he hf hc (n := s.size) (by omega)
  have e1 : s.data.toList.length = s.size := by simp
  unfold letG
  simp only [List.length_append, List.length_cons, List.length_nil]
  omega
end Vy
theorem rdG_four (W : World) (a b c d : Int) (T : TypeId) : RdI (W.alloc (.cells #[.int .i64 a, .int .i64 b, .int .i64 c, .int .i64 d] T)) (.slice (some ⟨W.heap.size, 0, none⟩) 4 4) [a, b, c, d] := by
  have X := Blk.new W #[.int .i64 a, .int .i64 b, .int .i64 c, .int .i64 d] T
  refine .inr (.inr ⟨W.heap.size, 0, 4, rfl, X.lt, Nat.le_refl 4, fun k hk => ?_⟩)
  have hk : k < 4 := hk
  obtain rfl | rfl | rfl | rfl : k = 0 ∨ k = 1 ∨ k = 2 ∨ k = 3 := by omega
  · exact X.cell 0
  · exact X.cell 1
  · exact X.cell 2
  · exact X.cell 3
theorem lg_right {e f c : Nat} (s : ByteArray) (w : World) (hf : f < 48) (hc : c < 281474976710656) (hb : c.testBit f = true) (hs : s.size ≤ 150000) : Calls Tryz.prog 176 #[.agg #[.int .i64 e, .int .i64 f, .int .u64 c, .string s]] w fun e w' => e = .returned (.bool true) ∧ Below w.heap.size w w' := by
  have h48 : c < 2 ^ 48 := by rw [two48]; exact hc
  have H := cw_has c f (w.alloc (.cells #[.int .i64 e, .int .i64 f, .int .u64 c, .string s] 161)) h48 hf
  rw [hb] at H
  have H := hid H
  have R := hid (cw_right c (w.alloc (.cells #[.int .i64 e, .int .i64 f, .int .u64 c, .string s] 161)) h48)
  have z : decide ((s.size : Int) ≤ 1048576) = true := decide_eq_true (by omega)
  have z0 : decide ((0 : Int) ≤ (e : Int)) = true := decide_eq_true (by omega)
  clear h48 hb
  go_enter Tryz.func176, Tryz.ntmps176
  go_wp2_with fail
  refine H.out.mono ?_
  rintro e w2 ⟨rfl, rfl⟩
  go_wp2_with fail
  refine R.out.mono ?_
  rintro e w2 ⟨rfl, rfl⟩
  go_wp2_with fail
  go_ret
  exact ⟨rfl, (Below.refl _ _).alloc nlr _⟩
theorem lg_encode {e f c : Nat} (s : ByteArray) (w : World) (he : e ≤ 1099511627776) (hf : f < 48) (hc : c < 281474976710656) (hb : c.testBit f = true) (hs : s.size ≤ 150000) : Calls Tryz.prog 139 #[.agg #[.int .i64 e, .int .i64 f, .int .u64 c, .string s]] w fun en w' => en = .returned (.tuple #[.string ⟨(sealL (letG e f c s)).toArray⟩, .int .i64 0]) ∧ Below w.heap.size w w' := by
  have hb1 : Below w.heap.size w (w.alloc (.cells #[.int .i64 e, .int .i64 f, .int .u64 c, .string s] 161)) := (Below.refl _ _).alloc nlr _
  have X1 := Blk.new w #[.int .i64 e, .int .i64 f, .int .u64 c, .string s] 161
  have R := hid (lg_right (e := e) s (w.alloc (.cells #[.int .i64 e, .int .i64 f, .int .u64 c, .string s] 161)) hf hc hb hs)
  have LS := hid (letG_str e f c s)
  have SL := hid (fun W : World => s_seal (w := W) (letG e f c s) (by have := letG_len he hf hc hs; omega))
  have PT := hid (fun W : World => v_put (rdG_four W e f c (s.size : Int) 3) (headG_cnt he hf hc (by omega)) (by show 4 ≤ 10000; decide))
  clear hb
  go_enter Tryz.func139, Tryz.ntmps139
  go_wp2_with fail
  refine R.out.mono ?_
  rintro en w2 ⟨rfl, hb2⟩
  have X2 := X1.below hb2 nlr
  have c0 : w2.cell? ⟨w.heap.size, 0, none⟩ = some (.int .i64 e) := X2.cell 0
  have c1 : w2.cell? ⟨w.heap.size, 1, none⟩ = some (.int .i64 f) := X2.cell 1
  have c2 : w2.cell? ⟨w.heap.size, 2, none⟩ = some (.int .u64 c) := X2.cell 2
  have c3 : w2.cell? ⟨w.heap.size, 3, none⟩ = some (.string s) := X2.cell 3
  go_wp2_with fail
  refine (PT.out w2).mono ?_
  rintro en w3 ⟨rfl, hb3⟩
  have hbA := hb1.trans (hb2.mono hb1.size)
  have hb4 : Below w2.heap.size w2 w3 := ((Below.refl _ _).alloc nlr _).trans (hb3.mono (by simp))
  have X3 := X2.below hb4 nlr
  have c3 : w3.cell? ⟨w.heap.size, 3, none⟩ = some (.string s) := X3.cell 3
  clear c0 c1 c2
  have eH : wsL [(e : Int), (f : Int), (c : Int), (s.size : Int)] ([(e : Int), (f : Int), (c : Int), (s.size : Int)] : List Int).length = headG e f c s.size := rfl
  rw [eH]
  clear eH
  have LS := LS.out
  obtain ⟨H, eH⟩ : ∃ H, headG e f c s.size = H := ⟨_, rfl⟩
  have hHl := headG_len he hf hc (n := s.size) (by omega)
  rw [eH] at LS hHl ⊢
  clear eH
  go_wp2_with fail
  refine (SL.out w3).mono ?_
  rintro en w4 ⟨rfl, hb5⟩
  have hb6 : Below w.heap.size w w4 := (hbA.trans (hb4.mono hbA.size)).trans (hb5.mono (hbA.trans (hb4.mono hbA.size)).size)
  go_wp2_with fail
  go_ret2
  exact ⟨rfl, hb6⟩
theorem lg_fail (E : Nat) (k : Int) (w : World) : Calls Tryz.prog 143 #[.bool false, .int .i64 k, .pointer (some ⟨E, 0, none⟩)] w (Rt (.tuple #[]) w) := by
  go_enter Tryz.func143, Tryz.ntmps143
  go_wp2_with fail
  go_end0
  exact ⟨rfl, rfl⟩
theorem lg_number {w : World} {E L F n : Nat} {s : ByteArray} {r : List UInt8} {T T' T'' : TypeId} (hE : Blk w E #[.int .i64 0] T) (hL : Blk w L #[.string s] T') (hF : Blk w F #[.func (.func 143) #[] #[.pointer (some ⟨E, 0, none⟩)]] T'') (hg : getF s.data.toList = some (n, r)) :
    Calls Tryz.prog 145 #[.pointer (some ⟨E, 0, none⟩), .pointer (some ⟨L, 0, none⟩), .pointer (some ⟨F, 0, none⟩)] w fun e w' => e = .returned (.int .i64 n) ∧ ∃ s' : ByteArray, s'.data.toList = r ∧ w' = w.setCell ⟨L, 0, none⟩ (.string s') := by
  have e0 : w.cell? ⟨E, 0, none⟩ = some (.int .i64 0) := hE.cell 0
  have l0 : w.cell? ⟨L, 0, none⟩ = some (.string s) := hL.cell 0
  have f0 : w.cell? ⟨F, 0, none⟩ = some (.func (.func 143) #[] #[.pointer (some ⟨E, 0, none⟩)]) := hF.cell 0
  have lf := hL.free 0
  have G := hid (v_get s w)
  have FL := hid (lg_fail E 0 w)
  have hll := hL.lt
  go_enter Tryz.func145, Tryz.ntmps145
  go_wp2_with fail
  refine G.out.mono ?_
  rintro e w2 ⟨rfl, (⟨er, -, -, -, hn⟩ | ⟨n', size, rfl, hsz, hsz1, hg', -⟩)⟩
  · rw [hg] at hn; cases hn
  rw [hg] at hg'
  obtain ⟨rfl, rfl⟩ : n = n' ∧ r = s.data.toList.drop size := by simpa using hg'
  have P : Hid ((s.extract size s.size).data.toList = s.data.toList.drop size) := Vy.sub_list s size
  have hst : (size : Int).toNat = size := Int.toNat_natCast size
  clear hg hg' G
  go_wp2_with fail
  refine FL.out.mono ?_
  rintro e w2 ⟨rfl, rfl⟩
  go_wp2_with fail
  go_ret
  exact ⟨rfl, _, P.out, rfl⟩
end Go.Proofs.YtdnlejboijkcfaaGreatDoor

/- Two slices of ints of the call's own: each is appended to beside the other (in a region that draws its order). -/
namespace Go.Proofs.YtdnlejboijkcfaaGreatDoor
open Go.RowKit
def Two (w : World) (B : Nat) (v : Value) (xs : List Int) (u : Value) (ys : List Int) : Prop := OwnI w B v xs ∧ OwnI w B u ys ∧ ∀ k, v.ownBlock = some k → u.ownBlock ≠ some k
theorem Two.swap {w : World} {B : Nat} {v u : Value} {xs ys : List Int} (h : Two w B v xs u ys) : Two w B u ys v xs := ⟨h.2.1, h.1, fun k hk he => h.2.2 k he hk⟩
theorem Two.alloc {w : World} {B : Nat} {v u : Value} {xs ys : List Int} (h : Two w B v xs u ys) (o : Obj) : Two (w.alloc o) B v xs u ys := ⟨h.1.alloc o, h.2.1.alloc o, h.2.2⟩
theorem Two.drewN {w : World} {B : Nat} {v u : Value} {xs ys : List Int} (h : Two w B v xs u ys) (n : Nat) : Two (w.drewN n) B v xs u ys := ⟨h.1.drewN n, h.2.1.drewN n, h.2.2⟩
theorem Two.nil (w : World) (B : Nat) : Two w B (.slice none 0 0) [] (.slice none 0 0) [] := ⟨OwnI.nil _ _, OwnI.nil _ _, fun k hk => by simp [Value.ownBlock] at hk⟩
section
variable {ops : Array Oper} {o : Oper} {a : Act} {K : Act → World → Prop} {Q : Exit → Act → World → Prop} {E : Prop} {w : World} {v u : Value} {xs ys : List Int} {B T H : Nat}
theorem step_two {c : Int} (s x : Operand)
    (hT : Two w B v xs u ys) (hlen : xs.length < 16777216) (hBr : B ≤ w.heap.size) (hbk : Blk w H #[.int .i64 c] T)
    (hgd : o.guard = none) (ho : o.op = .call { callee := .builtin .append, args := #[s, x], argTypes := #[22, 22] })
    (hv : a.eval s = v) (hx : a.eval x = .slice (some ⟨H, 0, none⟩) 1 1)
    (h : ∀ v' w', Two w' B v' (xs ++ [c]) u ys → w.grownBy w' v.ownBlock → B ≤ w'.heap.size → Below B w w' → (∀ g arr T', Blk w g arr T' → v.ownBlock ≠ some g → Blk w' g arr T') → K (a.put o.dst v') w') :
    if Region.wanted o (yielded ops a.tmps) = true then Oper.wp Tryz.prog o a w K Q else E := by
  obtain ⟨i0, hi, hz0, hz1, hz2⟩ := info_parts Tryz.infoI64
  obtain ⟨hown, hother, hsep⟩ := hT
  refine step_append_lies w hgd s x 22 ho B 3 i0 (.int .i64 0) 1 8 Tryz.underlying22 hi hz0 hz1 hz2 rfl (by decide) v xs.length (jcells xs) hv hown ⟨H, 0, none⟩ 1 1 (jcells [c]) hx rfl (World.news_of_block hbk) (jcells_one _) (by decide) ?_ ?_ hBr _ rfl ?_
  · unfold maxLen; omega
  · omega
  · intro g cap w' h1 h2 h3 h4
    have hs : w.heap.size ≤ w'.heap.size := h2.size
    refine h _ w' ⟨?_, ?_, ?_⟩ h2 (by omega) ((Below.refl _ _).grown h2 hBr hown.lt) (fun g' arr T' hb hne => ?_)
    · unfold OwnI
      simpa [jcells] using h1
    · refine hother.grown h2 (fun k hk he => ?_)
      exact hsep k he.symm hk
    · intro k hk he
      simp only [Value.ownBlock, Option.some.injEq] at hk
      rcases h3 with h3 | h3
      · exact hsep k (by rw [h3, hk]) he
      · have := hother.lt' k he
        omega
    · exact hb.keep (h2.block g' hb.lt (fun e => hne e.symm))
end
end Go.Proofs.YtdnlejboijkcfaaGreatDoor
