/- The contracts of strings.Builder for this program: the shelf's theorems at a table of numbers. -/
import Derived.Shelf.Strings.Builder1
import Derived.Shelf.Strings.BuilderF
import Derived.Shelf.Strings.BuilderK
import Derived.Test.YthdljlclcepnhaaBA
namespace Go.Proofs.Ythdljlclcepnhaa
open Go.RowKit Go.Shelf

def shRen : Ren := ⟨fun | 166 => 18 | 167 => 19 | 169 => 23 | 240 => 34 | 276 => 54 | n => n, fun | 0 => 0 | 3 => 3 | 4 => 4 | 5 => 5 | 9 => 9 | 20 => 20 | 37 => 50 | 70 => 49 | 72 => 52 | 75 => 55 | 80 => 65 | 127 => 83 | 164 => 96 | n => n, fun n => n⟩
theorem shLays166 : Lays.n166 Try.prog shRen where
  mixed := by kernel_rfl
  f166 := (Try.func18).trans (congrArg some (by kernel_rfl))
  f240 := (Try.func34).trans (congrArg some (by kernel_rfl))
  f276 := (Try.func54).trans (congrArg some (by kernel_rfl))
  t0 := Try.underlying0
  a0 := Try.isAgg0
  z0 := Try.sizeOf0
  v0 := Try.zeroValue0
  t3 := Try.underlying3
  a3 := Try.isAgg3
  z3 := Try.sizeOf3
  v3 := Try.zeroValue3
  t4 := Try.underlying4
  a4 := Try.isAgg4
  z4 := Try.sizeOf4
  v4 := Try.zeroValue4
  t9 := Try.underlying9
  a9 := Try.isAgg9
  z9 := Try.sizeOf9
  v9 := Try.zeroValue9
  t20 := Try.underlying20
  a20 := Try.isAgg20
  z20 := Try.sizeOf20
  v20 := Try.zeroValue20
  t37 := Try.underlying50
  a37 := Try.isAgg50
  z37 := Try.sizeOf50
  v37 := Try.zeroValue50
  t70 := Try.underlying49
  a70 := Try.isAgg49
  z70 := Try.sizeOf49
  v70 := Try.zeroValue49
  t72 := Try.underlying52
  a72 := Try.isAgg52
  z72 := Try.sizeOf52
  v72 := Try.zeroValue52
  t75 := Try.underlying55
  a75 := Try.isAgg55
  z75 := Try.sizeOf55
  v75 := Try.zeroValue55
  t164 := Try.underlying96
  a164 := Try.isAgg96
  z164 := Try.sizeOf96
  v164 := Try.zeroValue96
theorem shLays167 : Lays.n167 Try.prog shRen where
  mixed := by kernel_rfl
  f167 := (Try.func19).trans (congrArg some (by kernel_rfl))
  f240 := (Try.func34).trans (congrArg some (by kernel_rfl))
  f276 := (Try.func54).trans (congrArg some (by kernel_rfl))
  t0 := Try.underlying0
  a0 := Try.isAgg0
  z0 := Try.sizeOf0
  v0 := Try.zeroValue0
  t4 := Try.underlying4
  a4 := Try.isAgg4
  z4 := Try.sizeOf4
  v4 := Try.zeroValue4
  t5 := Try.underlying5
  a5 := Try.isAgg5
  z5 := Try.sizeOf5
  v5 := Try.zeroValue5
  t9 := Try.underlying9
  a9 := Try.isAgg9
  z9 := Try.sizeOf9
  v9 := Try.zeroValue9
  t20 := Try.underlying20
  a20 := Try.isAgg20
  z20 := Try.sizeOf20
  v20 := Try.zeroValue20
  t37 := Try.underlying50
  a37 := Try.isAgg50
  z37 := Try.sizeOf50
  v37 := Try.zeroValue50
  t70 := Try.underlying49
  a70 := Try.isAgg49
  z70 := Try.sizeOf49
  v70 := Try.zeroValue49
  t72 := Try.underlying52
  a72 := Try.isAgg52
  z72 := Try.sizeOf52
  v72 := Try.zeroValue52
  t75 := Try.underlying55
  a75 := Try.isAgg55
  z75 := Try.sizeOf55
  v75 := Try.zeroValue55
  t164 := Try.underlying96
  a164 := Try.isAgg96
  z164 := Try.sizeOf96
  v164 := Try.zeroValue96
theorem shLays169 : Lays.n169 Try.prog shRen where
  mixed := by kernel_rfl
  f169 := (Try.func23).trans (congrArg some (by kernel_rfl))
  t0 := Try.underlying0
  a0 := Try.isAgg0
  z0 := Try.sizeOf0
  v0 := Try.zeroValue0
  t3 := Try.underlying3
  a3 := Try.isAgg3
  z3 := Try.sizeOf3
  v3 := Try.zeroValue3
  t9 := Try.underlying9
  a9 := Try.isAgg9
  z9 := Try.sizeOf9
  v9 := Try.zeroValue9
  t37 := Try.underlying50
  a37 := Try.isAgg50
  z37 := Try.sizeOf50
  v37 := Try.zeroValue50
  t70 := Try.underlying49
  a70 := Try.isAgg49
  z70 := Try.sizeOf49
  v70 := Try.zeroValue49
  t72 := Try.underlying52
  a72 := Try.isAgg52
  z72 := Try.sizeOf52
  v72 := Try.zeroValue52
  t127 := Try.underlying83
  a127 := Try.isAgg83
  z127 := Try.sizeOf83
  v127 := Try.zeroValue83
theorem shLays240 : Lays.n240 Try.prog shRen where
  mixed := by kernel_rfl
  f240 := (Try.func34).trans (congrArg some (by kernel_rfl))
  f276 := (Try.func54).trans (congrArg some (by kernel_rfl))
  t0 := Try.underlying0
  a0 := Try.isAgg0
  z0 := Try.sizeOf0
  v0 := Try.zeroValue0
  t4 := Try.underlying4
  a4 := Try.isAgg4
  z4 := Try.sizeOf4
  v4 := Try.zeroValue4
  t9 := Try.underlying9
  a9 := Try.isAgg9
  z9 := Try.sizeOf9
  v9 := Try.zeroValue9
  t20 := Try.underlying20
  a20 := Try.isAgg20
  z20 := Try.sizeOf20
  v20 := Try.zeroValue20
  t70 := Try.underlying49
  a70 := Try.isAgg49
  z70 := Try.sizeOf49
  v70 := Try.zeroValue49
  t72 := Try.underlying52
  a72 := Try.isAgg52
  z72 := Try.sizeOf52
  v72 := Try.zeroValue52
  t164 := Try.underlying96
  a164 := Try.isAgg96
  z164 := Try.sizeOf96
  v164 := Try.zeroValue96
theorem shX72 : Builder.X72 Try.prog shRen where
  sizeBuilder := by kernel_rfl
  liesBuilder := by kernel_rfl
theorem shExtra : Builder.Extra Try.prog shRen where
  sizeBuilder := by kernel_rfl
  liesBuilder := by kernel_rfl
  t5 := Try.underlying5
  a5 := Try.isAgg5
  z5 := Try.sizeOf5
  v5 := Try.zeroValue5
  infoByte := by kernel_rfl
  cellsByte := by kernel_rfl
  sizeByte := by kernel_rfl
  neB5 := by decide
abbrev BldF (B b : Nat) (l : List UInt8) (w : World) : Prop := Lib.IsBuilderF 52 5 B b (Lib.byteCells l) w
abbrev BldKept (b : Nat) (w w' : World) : Prop := Lib.OthersKept 5 (some b) w w'
theorem b_byte (B b : Nat) (l : List UInt8) (c : UInt8) (w : World) (h : BldF B b l w) (hlen : l.length + 1 ≤ 140737488355328) (hBw : B ≤ w.heap.size) :
    Calls Try.prog 19 #[.pointer (some ⟨b, 0, none⟩), .int .u8 (c.toNat : Int)] w fun e w' => e = .returned .nilIface ∧ BldF B b (l ++ [c]) w' ∧ Below B w w' ∧ BldKept b w w' := by
  refine (Any.Builder_WriteByte_k shLays167 shExtra B b (Lib.byteCells l) (c.toNat : Int) w h (by rw [Lib.byteCells_length]; exact hlen) hBw).mono ?_
  rintro e w' ⟨rfl, h1, h2, h3⟩
  exact ⟨rfl, Or.inr (by rw [Lib.byteCells_append]; exact h1), h2, h3⟩
theorem b_string (B b : Nat) (l r : List UInt8) (w : World) (h : BldF B b l w) (hlen : l.length + r.length ≤ 140737488355328) (hBw : B ≤ w.heap.size) :
    Calls Try.prog 18 #[.pointer (some ⟨b, 0, none⟩), .string ⟨r.toArray⟩] w fun e w' => e = .returned (.tuple #[.int .i64 (r.length : Int), .nilIface]) ∧ BldF B b (l ++ r) w' ∧ Below B w w' ∧ BldKept b w w' := by
  have e1 : (⟨r.toArray⟩ : ByteArray).size = r.length := by show r.toArray.size = _; simp
  refine (Any.Builder_WriteString_k shLays166 shExtra B b (Lib.byteCells l) ⟨r.toArray⟩ w h (by rw [Lib.byteCells_length, e1]; exact hlen) hBw).mono ?_
  rintro e w' ⟨rfl, h1, h2, h3⟩
  rw [e1]
  exact ⟨rfl, Or.inr (by rw [Lib.byteCells_append]; exact h1), h2, h3⟩
theorem b_text (B b : Nat) (l : List UInt8) (w : World) (h : BldF B b l w) (hBw : B ≤ w.heap.size) :
    Calls Try.prog 23 #[.pointer (some ⟨b, 0, none⟩)] w fun e w' => e = .returned (.string ⟨l.toArray⟩) ∧ BldF B b l w' ∧ Below B w w' ∧ BldKept b w w' :=
  Any.Builder_String_any_k shLays169 shExtra B b l w h hBw
end Go.Proofs.Ythdljlclcepnhaa
