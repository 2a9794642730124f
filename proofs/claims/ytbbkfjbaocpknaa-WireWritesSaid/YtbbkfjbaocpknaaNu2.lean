/- A text of bytes of the call's own. -/
import Derived.Test.YtbbkfjbaocpknaaNu
import Derived.Laws.IdiomStrings
import Derived.Laws.BytesArg
namespace Go.Proofs.Ytbbkfjbaocpknaa
open Go.RowKit

set_option maxRecDepth 100000 in
theorem own_string {W : World} {B : Nat} {v : Value} {xs : List UInt8} (h : OwnU W B v xs) : (convert 77 9 v).run Try.prog W = .ok (.string ⟨xs.toArray⟩) W := by
  rcases h.shape with ⟨rfl, rfl⟩ | ⟨g, cap, rfl, -, -, -, hc, -⟩
  · exact run_convert_bytes_nil (P := Try.prog) (w := W) 77 5 rfl rfl 0 0 9 rfl
  · exact run_convert_bytes_back (P := Try.prog) W 77 9 5 ⟨g, 0, none⟩ cap xs rfl rfl rfl (fun j hj => by
      rw [show Addr.add ⟨g, 0, none⟩ j = ⟨g, j, none⟩ by simp only [Addr.add]; split <;> simp <;> omega]
      rw [hc j hj]
      simp [List.getD, List.getElem?_eq_getElem hj])
set_option maxRecDepth 100000 in
theorem bytes_string {W : World} {g : Nat} {arr : Array Value} {T : TypeId} (X : Blk W g arr T) (xs : List UInt8) (ha : arr = (xs.map (fun c => Value.int .u8 (c.toNat : Int))).toArray) (cap : Nat) : (convert 77 9 (.slice (some ⟨g, 0, none⟩) xs.length cap)).run Try.prog W = .ok (.string ⟨xs.toArray⟩) W := by
  exact run_convert_bytes_back (P := Try.prog) W 77 9 5 ⟨g, 0, none⟩ cap xs rfl rfl rfl (fun j hj => by
      rw [show Addr.add ⟨g, 0, none⟩ j = ⟨g, j, none⟩ by simp only [Addr.add]; split <;> simp <;> omega]
      rw [X.cell, ha]
      simp [List.getElem?_map, List.getElem?_eq_getElem hj])
theorem bs_app (a b : List UInt8) : (⟨a.toArray⟩ ++ ⟨b.toArray⟩ : ByteArray) = ⟨(a ++ b).toArray⟩ := by
  apply ByteArray.ext
  rw [ByteArray.data_append]
  simp
theorem bs_nil (b : List UInt8) : (⟨#[]⟩ ++ ⟨b.toArray⟩ : ByteArray) = ⟨b.toArray⟩ := bs_app [] b
theorem bs_list (s : ByteArray) : s = ⟨s.data.toList.toArray⟩ := by cases s; simp
end Go.Proofs.Ytbbkfjbaocpknaa
