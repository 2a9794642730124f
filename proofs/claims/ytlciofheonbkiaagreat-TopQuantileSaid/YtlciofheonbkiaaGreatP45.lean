/- Texts laid together. -/
import Derived.Test.YtlciofheonbkiaaGreatP23
import Derived.Test.YtlciofheonbkiaaGreatP02
import Derived.Test.YtlciofheonbkiaaGreatP16
import Derived.Test.YtlciofheonbkiaaGreatP34
import Derived.Test.YtlciofheonbkiaaGreatP12
/- Sorting one alone: nothing is done. -/
namespace Go.Proofs.YtlciofheonbkiaaGreat
set_option maxRecDepth 100000
open Go.RowKit
theorem so_ins {v f : Value} (w : World) : Calls Tryz.prog 201 #[v, .int .i64 0, .int .i64 1, f] w (Ret (.tuple #[]) w) := by
  go_enter Tryz.func201, Tryz.ntmps201
  go_wp2_with fail
  go_loopg [8] 1 (fun gn i wr => wr = w ∧ i = .int .i64 1)
  case atStart => exact ⟨rfl, rfl⟩
  case round =>
    obtain ⟨rfl, rfl⟩ := hrel
    go_wp2_with fail
    go_end0
    exact ⟨rfl, rfl⟩
theorem so_pdq {v f lim : Value} (w : World) : Calls Tryz.prog 155 #[v, .int .i64 0, .int .i64 1, lim, f] w (Ret (.tuple #[]) w) := by
  have I := hid (so_ins (v := v) (f := f) w)
  go_enter Tryz.func155, Tryz.ntmps155
  go_wp2_with fail
  go_loopg [1, 2, 10] 1 (fun gn a b i wr => wr = w ∧ a = .int .i64 0 ∧ b = .int .i64 1 ∧ i = .bool true)
  case atStart => exact ⟨rfl, rfl, rfl, rfl⟩
  case round =>
    obtain ⟨rfl, rfl, rfl, rfl⟩ := hrel
    go_wp2_with fail
    refine I.out.mono ?_
    rintro e w2 ⟨rfl, rfl⟩
    go_wp2_with fail
    go_end0
    exact ⟨rfl, rfl⟩
theorem so_len (w : World) : Calls Tryz.prog 156 #[.int .u64 1] w (Ret (.int .i64 1) w) := by
  have L := hid (len64_any 1 w (by decide) (by decide))
  go_enter Tryz.func156, Tryz.ntmps156
  go_wp2_with fail
  refine L.out.mono ?_
  rintro e w2 ⟨rfl, rfl⟩
  go_wp2_with fail
  go_ret
  exact ⟨rfl, rfl⟩
theorem so_sort {p : Option Addr} {cap : Nat} {f : Value} (w : World) : Calls Tryz.prog 93 #[.slice p 1 cap, f] w (Ret (.tuple #[]) w) := by
  have L := hid (so_len w)
  have P := hid (so_pdq (v := .slice p 1 cap) (f := f) (lim := .int .i64 1) w)
  go_enter Tryz.func93, Tryz.ntmps93
  go_wp2_with fail
  refine L.out.mono ?_
  rintro e w2 ⟨rfl, rfl⟩
  go_wp2_with fail
  refine P.out.mono ?_
  rintro e w2 ⟨rfl, rfl⟩
  go_wp2_with fail
  go_end0
  exact ⟨rfl, rfl⟩
theorem so_reach {g cap : Nat} {x c : Int} (w : World) (h0 : w.cell? ⟨g, 0, none⟩ = some (.int .i64 x)) (h1 : w.cell? ⟨g, 1, none⟩ = some (.int .i64 c)) (hc : 1 ≤ c) : Calls Tryz.prog 41 #[.slice (some ⟨g, 0, none⟩) 1 cap, .int .i64 1] w (Ret (.int .i64 x) w) := by
  have S := hid (so_sort (p := some ⟨g, 0, none⟩) (cap := cap) (f := .func (.func 94) #[] #[]) w)
  have z : decide (c < 1) = false := decide_eq_false (by omega)
  go_enter Tryz.func41, Tryz.ntmps41
  go_wp2_with fail
  refine S.out.mono ?_
  rintro e w2 ⟨rfl, rfl⟩
  go_wp2_with fail
  go_loopg [1, 5] 1 (fun gn r i wr => wr = w ∧ r = .int .i64 1 ∧ i = .int .i64 0)
  case atStart => exact ⟨rfl, rfl, rfl⟩
  case round =>
    obtain ⟨rfl, rfl, rfl⟩ := hrel
    go_wp2_with fail
    go_ret
    exact ⟨rfl, rfl⟩
end Go.Proofs.YtlciofheonbkiaaGreat

/- The median of one value. -/
namespace Go.Proofs.YtlciofheonbkiaaGreat
set_option maxHeartbeats 8000000
set_option maxRecDepth 100000
open Go.RowKit Nl
def OneEnd (w : World) (e : Ending) (w' : World) : Prop := ∃ g cap, e = .returned (.slice (some ⟨g, 0, none⟩) 1 cap) ∧ w'.cell? ⟨g, 0, none⟩ = some (.int .i64 5) ∧ w'.cell? ⟨g, 1, none⟩ = some (.int .i64 2) ∧ Below w.heap.size w w'
def SoRel (w : World) (gn : Nat) (b i : Value) (wr : World) : Prop :=
  Below w.heap.size w wr ∧ ((gn = 1 ∧ i = .int .i64 0 ∧ b = .slice none 0 0) ∨ (i = .int .i64 1 ∧ ∃ g cap, b = .slice (some ⟨g, 0, none⟩) 1 cap ∧ wr.cell? ⟨g, 0, none⟩ = some (.int .i64 5) ∧ wr.cell? ⟨g, 1, none⟩ = some (.int .i64 2)))
theorem so_ends {w : World} {dg q g h m : Nat} {kind k : Int} (d : DgV w dg q g h kind 3 k m [(13, 2)]) (hm : m ≤ 100000) :
    Calls Tryz.prog 42 #[.pointer (some ⟨dg, 0, none⟩), .bool false] w (OneEnd w) := by
  have CF := hid (dg_conf d)
  have ND := hid (fun W (y : DgV W dg q g h kind 3 k m [(13, 2)]) => dg_nodes y hm)
  have EN := hid (fun W => t_ends (l := 3) (id := 13) W (by decide))
  have e5 : endsHi 3 13 = 5 := by decide
  rw [e5] at EN
  go_enter Tryz.func42, Tryz.ntmps42
  go_wp2_with fail
  refine CF.out.mono ?_
  rintro e w1 ⟨rfl, hb1⟩
  have d1 := d.below hb1 nlr
  have ND1 := ND.out w1 d1
  go_wp2_with (rename_i K hK; show K (Act.put _ (some 14) (.int .i64 3)) w1; refine hK _ _ ?_)
  refine ND1.mono ?_
  rintro e w2 ⟨v, rfl, ho, hb2⟩
  obtain ⟨p, cap, rfl⟩ := ho.val
  obtain ⟨gs, off, a, c, rfl, hac, hgs, q0, q1⟩ := ho.rd.at (k := 0) (by decide)
  obtain ⟨rfl, rfl⟩ : (13 : Int) = a ∧ (2 : Int) = c := by simpa using hac
  have q0 : w2.cell? ⟨gs, off, none⟩ = some (.int .i64 13) := q0
  have q1 : w2.cell? ⟨gs, off + 1, none⟩ = some (.int .i64 2) := q1
  have hl1 : ([(13, 2)] : List Nd).length = 1 := rfl
  rw [hl1]
  have hbw := hb1.trans (hb2.mono hb1.size)
  have hs := hbw.size
  clear hac hl1 ho d1 ND1 ND CF d hb1 hb2 e5
  go_wp2_with fail
  go_loopg [5, 18] 1 (fun gn b i wr => SoRel w2 gn b i wr)
  case atStart => exact ⟨Below.refl _ _, .inl ⟨rfl, rfl, rfl⟩⟩
  case round =>
    obtain ⟨hbl, ⟨rfl, rfl, rfl⟩ | ⟨rfl, g9, c9, rfl, r0, r1⟩⟩ := hrel
    · have q0 := cell_below hbl q0 hgs
      have q1 := cell_below hbl q1 hgs
      have N8 := Blk.new wr #[.int .i64 13, .int .i64 2] 107
      have EN1 := EN.out (wr.alloc (.cells #[.int .i64 13, .int .i64 2] 107))
      go_wp2_with fail
      refine EN1.mono ?_
      rintro e w5 ⟨rfl, hb5⟩
      have N9 := N8.below hb5 nlr
      have n1 : w5.cell? ⟨wr.heap.size, 1, none⟩ = some (.int .i64 2) := N9.cell 1
      have hbx : Below w2.heap.size w2 w5 := (hbl.alloc hbl.size _).trans (hb5.mono (by have := hbl.size; simp; omega))
      clear EN1 N8 hb5
      go_upto_region 9 with fail
      go_wp2_with (at_builtin; refine appendE _ _ (World.ownsRow_nil w5 w5.heap.size _ _) (by decide) nlr rfl rfl rfl rfl rfl ?_; intro g9 c9 w6 hown hgr hat hlt)
      have r0 : w6.cell? ⟨g9, 0, none⟩ = some (.int .i64 5) := World.ownsRow.cellAt hown 0 (by decide)
      have r1 : w6.cell? ⟨g9, 1, none⟩ = some (.int .i64 2) := World.ownsRow.cellAt hown 1 (by decide)
      have hb6 := hbx.grown hgr hbx.size (fun k hk => by simp [Value.ownBlock] at hk)
      go_roundg 0
      case rel => exact ⟨hb6, .inr ⟨rfl, g9, c9, rfl, r0, r1⟩⟩
      case measure => omega
    · have P : Hid (OneEnd w (.returned (.slice (some ⟨g9, 0, none⟩) 1 c9)) wr) := ⟨g9, c9, rfl, r0, r1, hbw.trans (hbl.mono hs)⟩
      clear r0 r1 q0 q1
      go_wp2_with fail
      go_ret
      exact P.out
theorem so_wrong {w : World} {dg q g h m : Nat} {kind k : Int} (d : DgV w dg q g h kind 3 k m [(13, 2)]) : Calls Tryz.prog 40 #[.pointer (some ⟨dg, 0, none⟩), .int .i64 1] w (Ret (.int .i64 0) w) := by
  have DN := hid (dg_n d)
  have es : sumL ([(13, 2)] : List Nd) = 2 := rfl
  rw [es] at DN
  clear es d
  go_enter Tryz.func40, Tryz.ntmps40
  go_wp2_with fail
  refine DN.out.mono ?_
  rintro e w2 ⟨rfl, rfl⟩
  go_wp2_with fail
  refine DN.out.mono ?_
  rintro e w2 ⟨rfl, rfl⟩
  go_wp2_with fail
  go_ret
  exact ⟨rfl, rfl⟩
theorem so_at {w : World} {dg q g h m : Nat} {kind k : Int} (d : DgV w dg q g h kind 3 k m [(13, 2)]) (hm : m ≤ 100000) : Calls Tryz.prog 12 #[.pointer (some ⟨dg, 0, none⟩), .int .i64 1] w fun e w' => e = .returned (.tuple #[.int .i64 5, .int .i64 0]) ∧ Below w.heap.size w w' := by
  have WR := hid (so_wrong d)
  have ES := hid (so_ends d hm)
  clear d
  go_enter Tryz.func12, Tryz.ntmps12
  go_wp2_with fail
  refine WR.out.mono ?_
  rintro e w2 ⟨rfl, rfl⟩
  go_wp2_with fail
  refine ES.out.mono ?_
  rintro e w3 ⟨g9, c9, rfl, r0, r1, hb⟩
  have RC := hid (so_reach (cap := c9) w3 r0 r1 (by decide))
  go_wp2_with fail
  refine RC.out.mono ?_
  rintro e w4 ⟨rfl, rfl⟩
  go_wp2_with fail
  go_ret2
  exact ⟨rfl, hb⟩
end Go.Proofs.YtlciofheonbkiaaGreat
