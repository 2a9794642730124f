/- The walk of the closure in sheet.Text. -/
import Derived.Test.YthdljlclcepnhaaGreatShShelf
namespace Go.Proofs.YthdljlclcepnhaaGreat
open Go.RowKit

def strCs (ps : List (List UInt8)) : Array Value := (ps.map fun p => Value.string ⟨p.toArray⟩).toArray
theorem Sh.kept_str {b g : Nat} {w w' : World} {arr : Array Value} (h : BldKept b w w') (X : Blk w g arr 9) (hg : g ≠ b) : Blk w' g arr 9 :=
  h g _ X (fun e => hg (Option.some.inj e)) (fun c fz e => by injection e with _ e _; exact absurd e (by decide))
def TellPost (B b : Nat) (l : List UInt8) (ps : List (List UInt8)) (w : World) (e : Ending) (w' : World) : Prop := e = .returned (.tuple #[]) ∧ BldF B b (l ++ ps.flatten ++ [10]) w' ∧ Below B w w' ∧ BldKept b w w'
set_option maxRecDepth 100000 in
set_option maxHeartbeats 1000000 in
theorem t_tell (B b g : Nat) (l : List UInt8) (ps : List (List UInt8)) (w : World) (h : BldF B b l w) (hlen : l.length + ps.flatten.length + 1 ≤ 140737488355328) (hB : B ≤ w.heap.size) (X : Blk w g (strCs ps) 9) (hgb : g ≠ b) (hn : ps.length ≤ 1000) :
    Calls Tryz.prog 29 #[.slice (some ⟨g, 0, none⟩) ps.length ps.length, .pointer (some ⟨b, 0, none⟩)] w (TellPost B b l ps w) := by
  have R0 : Hid (BldF B b (l ++ (ps.take 0).flatten) w ∧ Below B w w ∧ BldKept b w w) := ⟨by simpa using h, Below.refl _ _, Lib.OthersKept.refl _ _ _⟩
  have HX := hid X
  clear h X
  go_enter Tryz.func29, Tryz.ntmps29
  go_wp2_with fail
  go_loopw [4, 7] (fun _ i wr => ∃ j : Nat, i = .int .i64 j ∧ j ≤ ps.length ∧ Hid (BldF B b (l ++ (ps.take j).flatten) wr ∧ Below B w wr ∧ BldKept b w wr)) (fun _ i _ => ps.length - (intOf i).toNat)
  case atStart => exact ⟨0, rfl, Nat.zero_le _, R0⟩
  case round =>
    obtain ⟨j, rfl, hj, hr⟩ := hrel
    by_cases hjn : j < ps.length
    · obtain ⟨hb, hbl, hk⟩ := hr.out
      have hsz := Nat.le_trans hB hbl.size
      have Xr := Sh.kept_str hk HX.out hgb
      have c0 : wr.cell? ⟨g, j, none⟩ = some (.string ⟨(ps[j]).toArray⟩) := by
        rw [Xr.cell]; unfold strCs; simp [hjn]
      have htk : (ps.take (j + 1)).flatten = (ps.take j).flatten ++ ps[j] := by
        rw [List.take_succ_eq_append_getElem hjn, List.flatten_append]; simp
      have hlj : (l ++ (ps.take j).flatten).length + (ps[j]).length ≤ 140737488355328 := by
        have h1 : (ps.take (j + 1)).flatten.length ≤ ps.flatten.length := by
          conv => rhs; rw [← List.take_append_drop (j + 1) ps, List.flatten_append, List.length_append]
          omega
        rw [htk, List.length_append] at h1
        rw [List.length_append]; omega
      have ST := hid (b_string B b _ (ps[j]) wr hb hlj hsz)
      have HT := hid htk
      have HH := hid (And.intro hbl hk)
      have hlt : decide ((j : Int) < (ps.length : Int)) = true := decide_eq_true (by omega)
      clear hb hbl hk htk hlj hr Xr
      generalize ps[j] = p at *
      go_wp2_with fail
      refine ST.out.mono ?_
      rintro e w' ⟨rfl, h1, h2, h3⟩
      have RR : Hid (BldF B b (l ++ (ps.take (j + 1)).flatten) w' ∧ Below B w w' ∧ BldKept b w w') := ⟨by rw [HT.out, ← List.append_assoc]; exact h1, HH.out.1.trans h2, HH.out.2.trans h3⟩
      clear h1 h2 h3 HH HT ST c0
      go_wp2_with fail
      go_round
      case rel => exact ⟨j + 1, by simp, by omega, RR⟩
      case measure => simp [intOf]; omega
    · obtain rfl : j = ps.length := by omega
      obtain ⟨hb, hbl, hk⟩ := hr.out
      rw [List.take_length] at hb
      have BT := hid (b_byte B b _ 10 wr hb (by rw [List.length_append]; exact hlen) (Nat.le_trans hB hbl.size))
      have HH := hid (And.intro hbl hk)
      have hlt : decide ((ps.length : Int) < (ps.length : Int)) = false := decide_eq_false (by omega)
      clear hb hbl hk hr
      go_wp2_with fail
      refine BT.out.mono ?_
      rintro e w' ⟨rfl, h1, h2, h3⟩
      have P : Hid (TellPost B b l ps w (.returned (.tuple #[])) w') := ⟨rfl, h1, HH.out.1.trans h2, HH.out.2.trans h3⟩
      clear h1 h2 h3 HH BT
      go_wp2_with fail
      go_end0
      exact P.out
end Go.Proofs.YthdljlclcepnhaaGreat
