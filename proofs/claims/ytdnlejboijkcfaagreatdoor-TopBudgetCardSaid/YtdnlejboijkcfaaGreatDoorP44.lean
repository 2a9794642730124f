/- Texts laid together. -/
import Derived.Test.YtdnlejboijkcfaaGreatDoorP24
import Derived.Test.YtdnlejboijkcfaaGreatDoorP12
import Derived.Test.YtdnlejboijkcfaaGreatDoorP41
import Derived.Test.YtdnlejboijkcfaaGreatDoorP15
import Derived.Test.YtdnlejboijkcfaaGreatDoorP43
import Derived.Test.YtdnlejboijkcfaaGreatDoorP22
import Derived.Test.YtdnlejboijkcfaaGreatDoorP02
import Derived.Test.YtdnlejboijkcfaaGreatDoorP01
import Derived.Deep.AppendLies
import Derived.Test.YtdnlejboijkcfaaGreatDoorP40
import Derived.Test.YtdnlejboijkcfaaGreatDoorP42
import Derived.Shelf.Strings.Builder1
import Derived.Shelf.Strings.BuilderF
import Derived.Shelf.Strings.BuilderK
/- The walks of wire.Encode of nil, Bound, and the reference's Encode and Bound. -/
namespace Go.Proofs.YtdnlejboijkcfaaGreatDoor
open Go.RowKit Nl Vy
theorem cell_lt {w : World} {b o : Nat} {v : Value} (h : w.cell? ⟨b, o, none⟩ = some v) : b < w.heap.size := by
  rcases Nat.lt_or_ge b w.heap.size with hl | hl
  · exact hl
  · simp [World.cell?, Array.getElem?_eq_none hl] at h
theorem keepB {w w9 : World} {v : Value} {b : Nat} (hb : Below w.heap.size w w9) (hc : w.cell? ⟨b, 0, none⟩ = some v) : w9.cell? ⟨b, 0, none⟩ = some v := cell_below hb hc (cell_lt hc)
end Go.Proofs.YtdnlejboijkcfaaGreatDoor

/- The walk of PlanHolds. -/
namespace Go.Proofs.YtdnlejboijkcfaaGreatDoor
set_option maxRecDepth 100000
open Go.RowKit Nl Vy
theorem Nl.bet_rank {l x : Int} {its : List (Int × Int)} (hb : Bag l its) : betV 0 x its = gsum (rankF x) its := by
  unfold betV
  refine gsum_congr (fun y hy => ?_)
  have h := of_decide_eq_true (hb.val y hy)
  unfold betF rankF
  by_cases hq : y.1 ≤ x
  · rw [if_pos ⟨h.2.2.1, hq⟩, if_pos hq]
  · rw [if_neg (fun q => hq q.2), if_neg hq]
theorem r_brank {w : World} {its : List Nd} {v : Value} (l x : Int) (hr : RdN w v its) (hl : its.length ≤ 90000) (hp : Pos its) (hs : sumL its ≤ 72057594037927935) :
    Calls Tryz.prog 19 #[.agg #[.int .i64 l, v], .int .i64 x] w fun e w' => e = .returned (.int .i64 (betV 0 x its)) ∧ Below w.heap.size w w' := by
  obtain ⟨p, cap, rfl⟩ := hr.val
  have hb1 : Below w.heap.size w (w.alloc (.cells #[.int .i64 l, .slice p its.length cap] 40)) := (Below.refl _ _).alloc nlr _
  have BT := hid (b_between l 0 x (hr.below hb1 nlr) hl hp hs)
  go_enter Tryz.func19, Tryz.ntmps19
  go_wp2_with fail
  refine BT.out.mono ?_
  rintro e w2 ⟨rfl, hb2⟩
  go_wp2_with fail
  go_ret
  exact ⟨rfl, hb1.trans (hb2.mono hb1.size)⟩
end Go.Proofs.YtdnlejboijkcfaaGreatDoor

/- Sets of sensors: only the set of sensor 2. -/
namespace Go.Proofs.YtdnlejboijkcfaaGreatDoor
open Go.RowKit Vy
def Ret (v : Value) (w : World) (e : Ending) (w' : World) : Prop := e = .returned v ∧ w = w'
end Go.Proofs.YtdnlejboijkcfaaGreatDoor

/- Sorting one alone: nothing is done. -/
namespace Go.Proofs.YtdnlejboijkcfaaGreatDoor
set_option maxRecDepth 100000
open Go.RowKit
theorem so_ins {v f : Value} (w : World) : Calls Tryz.prog 234 #[v, .int .i64 0, .int .i64 1, f] w (Ret (.tuple #[]) w) := by
  go_enter Tryz.func234, Tryz.ntmps234
  go_wp2_with fail
  go_loopg [8] 1 (fun gn i wr => wr = w ∧ i = .int .i64 1)
  case atStart => exact ⟨rfl, rfl⟩
  case round =>
    obtain ⟨rfl, rfl⟩ := hrel
    go_wp2_with fail
    go_end0
    exact ⟨rfl, rfl⟩
theorem so_pdq {v f lim : Value} (w : World) : Calls Tryz.prog 224 #[v, .int .i64 0, .int .i64 1, lim, f] w (Ret (.tuple #[]) w) := by
  have I := hid (so_ins (v := v) (f := f) w)
  go_enter Tryz.func224, Tryz.ntmps224
  go_wp2_with fail
  go_loopg [1, 2, 10] 1 (fun gn a b i wr => wr = w ∧ a = .int .i64 0 ∧ b = .int .i64 1 ∧ i = .bool true)
  case atStart => exact ⟨rfl, rfl, rfl, rfl⟩
  case round =>
    obtain ⟨rfl, rfl, rfl, rfl⟩ := hrel
    go_wp2_with fail
    refine I.out.mono ?_
    rintro e w2 ⟨rfl, rfl⟩
    go_wp2_with fail
    go_end0
    exact ⟨rfl, rfl⟩
theorem so_len (w : World) : Calls Tryz.prog 225 #[.int .u64 1] w (Ret (.int .i64 1) w) := by
  have L := hid (len64_any 1 w (by decide) (by decide))
  go_enter Tryz.func225, Tryz.ntmps225
  go_wp2_with fail
  refine L.out.mono ?_
  rintro e w2 ⟨rfl, rfl⟩
  go_wp2_with fail
  go_ret
  exact ⟨rfl, rfl⟩
theorem so_sort {p : Option Addr} {cap : Nat} {f : Value} (w : World) : Calls Tryz.prog 198 #[.slice p 1 cap, f] w (Ret (.tuple #[]) w) := by
  have L := hid (so_len w)
  have P := hid (so_pdq (v := .slice p 1 cap) (f := f) (lim := .int .i64 1) w)
  go_enter Tryz.func198, Tryz.ntmps198
  go_wp2_with fail
  refine L.out.mono ?_
  rintro e w2 ⟨rfl, rfl⟩
  go_wp2_with fail
  refine P.out.mono ?_
  rintro e w2 ⟨rfl, rfl⟩
  go_wp2_with fail
  go_end0
  exact ⟨rfl, rfl⟩
theorem so_reach {g cap : Nat} {x c : Int} (w : World) (h0 : w.cell? ⟨g, 0, none⟩ = some (.int .i64 x)) (h1 : w.cell? ⟨g, 1, none⟩ = some (.int .i64 c)) (hc : 1 ≤ c) : Calls Tryz.prog 170 #[.slice (some ⟨g, 0, none⟩) 1 cap, .int .i64 1] w (Ret (.int .i64 x) w) := by
  have S := hid (so_sort (p := some ⟨g, 0, none⟩) (cap := cap) (f := .func (.func 199) #[] #[]) w)
  have z : decide (c < 1) = false := decide_eq_false (by omega)
  go_enter Tryz.func170, Tryz.ntmps170
  go_wp2_with fail
  refine S.out.mono ?_
  rintro e w2 ⟨rfl, rfl⟩
  go_wp2_with fail
  go_loopg [1, 5] 1 (fun gn r i wr => wr = w ∧ r = .int .i64 1 ∧ i = .int .i64 0)
  case atStart => exact ⟨rfl, rfl, rfl⟩
  case round =>
    obtain ⟨rfl, rfl, rfl⟩ := hrel
    go_wp2_with fail
    go_ret
    exact ⟨rfl, rfl⟩
end Go.Proofs.YtdnlejboijkcfaaGreatDoor

/- What is appended to rows of two cells each. -/
namespace Go.Proofs.YtdnlejboijkcfaaGreatDoor
open Go.RowKit
theorem Tryz.infoEnd : (Tryz.prog.info? 253).map (fun i => (i.zero, i.size, i.bytes)) = some (some (.agg #[.int .i64 0, .int .i64 0]), 2, 16) := by kernel_rfl
section
variable {ops : Array Oper} {rest : List Oper} {o : Oper} {a : Act} {Q : Exit → Act → World → Prop} {w wr : World} {v : Value} {n B T : Nat} {cs : List Value}
theorem appendE {b c : Int} (s x : Operand) (hown : wr.ownsRow B 253 2 v n cs) (hlen : n < 16777216) (hBr : B ≤ wr.heap.size) (hw : w = wr.alloc (.cells #[.int .i64 b, .int .i64 c] T))
    (hgd : o.guard = none) (ho : o.op = .call { callee := .builtin .append, args := #[s, x], argTypes := #[228, 228] })
    (hv : a.eval s = v) (hx : a.eval x = .slice (some ⟨wr.heap.size, 0, none⟩) 1 1)
    (h : ∀ g cap w', w'.ownsRow B 253 2 (.slice (some ⟨g, 0, none⟩) (n + 1) cap) (n + 1) (cs ++ [.int .i64 b, .int .i64 c]) → wr.grownBy w' v.ownBlock → (v.ownBlock = some g ∨ g = wr.heap.size + 1) → g < w'.heap.size → wpList Tryz.prog ops Q rest (a.put o.dst (.slice (some ⟨g, 0, none⟩) (n + 1) cap)) w') :
    wpList Tryz.prog ops Q (o :: rest) a w := by
  obtain ⟨i0, hi, hz0, hz1, hz2⟩ := info_parts Tryz.infoEnd
  subst hw
  refine wpList_append_lies _ hgd s x 228 ho B 253 i0 (.agg #[.int .i64 0, .int .i64 0]) 2 16 Tryz.underlying228 hi hz0 hz1 hz2 rfl (by decide) v n cs hv (ownsRow_keep hown (fun k hk => Below.heap_alloc _ _ k (World.ownsRow.lt hown k hk).2)) ⟨wr.heap.size, 0, none⟩ 1 1 [.int .i64 b, .int .i64 c] hx rfl ?_ (fun u hu => by simp at hu; rcases hu with rfl | rfl <;> rfl) (by decide) ?_ ?_ ?_ (wr.heap.size + 1) (by simp) ?_
  · intro j u hj
    have hadd : (⟨wr.heap.size, 0, none⟩ : Addr).add j = ⟨wr.heap.size, j, none⟩ := by unfold Addr.add; split <;> simp_all
    rw [hadd, World.cell?_alloc_at _ _ _ _ rfl]
    match j, hj with
    | 0, hj => simpa using hj
    | 1, hj => simpa using hj
    | j + 2, hj => simp at hj
  · unfold maxLen; omega
  · omega
  · simp; omega
  · intro g cap w' h1 h2 h3 h4
    exact h g cap w' h1 (grownBy_of_alloc h2) h3 h4
end
end Go.Proofs.YtdnlejboijkcfaaGreatDoor

/- The median of one value. -/
namespace Go.Proofs.YtdnlejboijkcfaaGreatDoor
set_option maxHeartbeats 8000000
set_option maxRecDepth 100000
open Go.RowKit Nl
def OneEnd (w : World) (e : Ending) (w' : World) : Prop := ∃ g cap, e = .returned (.slice (some ⟨g, 0, none⟩) 1 cap) ∧ w'.cell? ⟨g, 0, none⟩ = some (.int .i64 5) ∧ w'.cell? ⟨g, 1, none⟩ = some (.int .i64 2) ∧ Below w.heap.size w w'
def SoRel (w : World) (gn : Nat) (b i : Value) (wr : World) : Prop :=
  Below w.heap.size w wr ∧ ((gn = 1 ∧ i = .int .i64 0 ∧ b = .slice none 0 0) ∨ (i = .int .i64 1 ∧ ∃ g cap, b = .slice (some ⟨g, 0, none⟩) 1 cap ∧ wr.cell? ⟨g, 0, none⟩ = some (.int .i64 5) ∧ wr.cell? ⟨g, 1, none⟩ = some (.int .i64 2)))
theorem so_ends {w : World} {dg q g h m : Nat} {kind k : Int} (d : DgV w dg q g h kind 3 k m [(13, 2)]) (hm : m ≤ 100000) :
    Calls Tryz.prog 171 #[.pointer (some ⟨dg, 0, none⟩), .bool false] w (OneEnd w) := by
  have CF := hid (dg_conf d)
  have ND := hid (fun W (y : DgV W dg q g h kind 3 k m [(13, 2)]) => dg_nodes y hm)
  have EN := hid (fun W => t_ends (l := 3) (id := 13) W (by decide))
  have e5 : endsHi 3 13 = 5 := by decide
  rw [e5] at EN
  go_enter Tryz.func171, Tryz.ntmps171
  go_wp2_with fail
  refine CF.out.mono ?_
  rintro e w1 ⟨rfl, hb1⟩
  have d1 := d.below hb1 nlr
  have ND1 := ND.out w1 d1
  go_wp2_with (rename_i K hK; show K (Act.put _ (some 14) (.int .i64 3)) w1; refine hK _ _ ?_)
  refine ND1.mono ?_
  rintro e w2 ⟨v, rfl, ho, hb2⟩
  obtain ⟨p, cap, rfl⟩ := ho.val
  obtain ⟨gs, off, a, c, rfl, hac, hgs, q0, q1⟩ := ho.rd.at (k := 0) (by decide)
  obtain ⟨rfl, rfl⟩ : (13 : Int) = a ∧ (2 : Int) = c := by simpa using hac
  have q0 : w2.cell? ⟨gs, off, none⟩ = some (.int .i64 13) := q0
  have q1 : w2.cell? ⟨gs, off + 1, none⟩ = some (.int .i64 2) := q1
  have hl1 : ([(13, 2)] : List Nd).length = 1 := rfl
  rw [hl1]
  have hbw := hb1.trans (hb2.mono hb1.size)
  have hs := hbw.size
  clear hac hl1 ho d1 ND1 ND CF d hb1 hb2 e5
  go_wp2_with fail
  go_loopg [5, 18] 1 (fun gn b i wr => SoRel w2 gn b i wr)
  case atStart => exact ⟨Below.refl _ _, .inl ⟨rfl, rfl, rfl⟩⟩
  case round =>
    obtain ⟨hbl, ⟨rfl, rfl, rfl⟩ | ⟨rfl, g9, c9, rfl, r0, r1⟩⟩ := hrel
    · have q0 := cell_below hbl q0 hgs
      have q1 := cell_below hbl q1 hgs
      have N8 := Blk.new wr #[.int .i64 13, .int .i64 2] 116
      have EN1 := EN.out (wr.alloc (.cells #[.int .i64 13, .int .i64 2] 116))
      go_wp2_with fail
      refine EN1.mono ?_
      rintro e w5 ⟨rfl, hb5⟩
      have N9 := N8.below hb5 nlr
      have n1 : w5.cell? ⟨wr.heap.size, 1, none⟩ = some (.int .i64 2) := N9.cell 1
      have hbx : Below w2.heap.size w2 w5 := (hbl.alloc hbl.size _).trans (hb5.mono (by have := hbl.size; simp; omega))
      clear EN1 N8 hb5
      go_upto_region 9 with fail
      go_wp2_with (at_builtin; refine appendE _ _ (World.ownsRow_nil w5 w5.heap.size _ _) (by decide) nlr rfl rfl rfl rfl rfl ?_; intro g9 c9 w6 hown hgr hat hlt)
      have r0 : w6.cell? ⟨g9, 0, none⟩ = some (.int .i64 5) := World.ownsRow.cellAt hown 0 (by decide)
      have r1 : w6.cell? ⟨g9, 1, none⟩ = some (.int .i64 2) := World.ownsRow.cellAt hown 1 (by decide)
      have hb6 := hbx.grown hgr hbx.size (fun k hk => by simp [Value.ownBlock] at hk)
      go_roundg 0
      case rel => exact ⟨hb6, .inr ⟨rfl, g9, c9, rfl, r0, r1⟩⟩
      case measure => omega
    · have P : Hid (OneEnd w (.returned (.slice (some ⟨g9, 0, none⟩) 1 c9)) wr) := ⟨g9, c9, rfl, r0, r1, hbw.trans (hbl.mono hs)⟩
      clear r0 r1 q0 q1
      go_wp2_with fail
      go_ret
      exact P.out
theorem so_wrong {w : World} {dg q g h m : Nat} {kind k : Int} (d : DgV w dg q g h kind 3 k m [(13, 2)]) : Calls Tryz.prog 169 #[.pointer (some ⟨dg, 0, none⟩), .int .i64 1] w (Ret (.int .i64 0) w) := by
  have DN := hid (dg_n d)
  have es : sumL ([(13, 2)] : List Nd) = 2 := rfl
  rw [es] at DN
  clear es d
  go_enter Tryz.func169, Tryz.ntmps169
  go_wp2_with fail
  refine DN.out.mono ?_
  rintro e w2 ⟨rfl, rfl⟩
  go_wp2_with fail
  refine DN.out.mono ?_
  rintro e w2 ⟨rfl, rfl⟩
  go_wp2_with fail
  go_ret
  exact ⟨rfl, rfl⟩
theorem so_at {w : World} {dg q g h m : Nat} {kind k : Int} (d : DgV w dg q g h kind 3 k m [(13, 2)]) (hm : m ≤ 100000) : Calls Tryz.prog 130 #[.pointer (some ⟨dg, 0, none⟩), .int .i64 1] w fun e w' => e = .returned (.tuple #[.int .i64 5, .int .i64 0]) ∧ Below w.heap.size w w' := by
  have WR := hid (so_wrong d)
  have ES := hid (so_ends d hm)
  clear d
  go_enter Tryz.func130, Tryz.ntmps130
  go_wp2_with fail
  refine WR.out.mono ?_
  rintro e w2 ⟨rfl, rfl⟩
  go_wp2_with fail
  refine ES.out.mono ?_
  rintro e w3 ⟨g9, c9, rfl, r0, r1, hb⟩
  have RC := hid (so_reach (cap := c9) w3 r0 r1 (by decide))
  go_wp2_with fail
  refine RC.out.mono ?_
  rintro e w4 ⟨rfl, rfl⟩
  go_wp2_with fail
  go_ret2
  exact ⟨rfl, hb⟩
end Go.Proofs.YtdnlejboijkcfaaGreatDoor

/- The median of one value: 5, twice. -/
namespace Go.Proofs.YtdnlejboijkcfaaGreatDoor
open Go.RowKit Nl
theorem so_rank {w : World} {dg q g h m : Nat} {kind k : Int} (d : DgV w dg q g h kind 3 k m [(13, 2)]) : Calls Tryz.prog 129 #[.pointer (some ⟨dg, 0, none⟩), .int .i64 1, .int .i64 2] w fun e w' => e = .returned (.tuple #[.int .i64 1, .int .i64 0]) ∧ Below w.heap.size w w' := by
  have WR := hid (so_wrong d)
  have DN := hid (dg_n d)
  have es : sumL ([(13, 2)] : List Nd) = 2 := rfl
  rw [es] at DN
  have PU := hid (partup_any 2 1 2 w (by decide) (by decide) (by decide) (by decide) (by decide) (by decide))
  rw [show Rk.partUpV 2 1 2 = 1 by decide, show Rk.partUpOk 2 1 2 = true by decide] at PU
  clear es d
  go_enter Tryz.func129, Tryz.ntmps129
  go_wp2_with fail
  refine WR.out.mono ?_
  rintro e w2 ⟨rfl, rfl⟩
  go_wp2_with fail
  refine DN.out.mono ?_
  rintro e w2 ⟨rfl, rfl⟩
  go_wp2_with fail
  refine PU.out.mono ?_
  rintro e w2 ⟨rfl, hd⟩
  have hb : Below w.heap.size w w2 := by obtain ⟨n, rfl⟩ := hd; exact below_drewN (Below.refl _ _) n
  go_wp2_with fail
  go_ret2
  exact ⟨rfl, hb⟩
theorem so_of {w : World} {dg q g h m : Nat} {kind k : Int} (d : DgV w dg q g h kind 3 k m [(13, 2)]) (hm : m ≤ 100000) : Calls Tryz.prog 76 #[.pointer (some ⟨dg, 0, none⟩), .int .i64 1, .int .i64 2] w fun e w' => e = .returned (.tuple #[.int .i64 5, .int .i64 0]) ∧ Below w.heap.size w w' := by
  have RN := hid (so_rank d)
  have AT := hid (fun W (y : DgV W dg q g h kind 3 k m [(13, 2)]) => so_at y hm)
  go_enter Tryz.func76, Tryz.ntmps76
  go_wp2_with fail
  refine RN.out.mono ?_
  rintro e w2 ⟨rfl, hb⟩
  have AT2 := AT.out w2 (d.below hb nlr)
  clear RN AT d
  go_wp2_with fail
  refine AT2.mono ?_
  rintro e w3 ⟨rfl, hb3⟩
  go_wp2_with fail
  go_ret2
  exact ⟨rfl, hb.trans (hb3.mono hb.size)⟩
theorem so_median {w : World} {dg q g h m : Nat} {kind k : Int} (d : DgV w dg q g h kind 3 k m [(13, 2)]) (hm : m ≤ 100000) : Calls Tryz.prog 27 #[.pointer (some ⟨dg, 0, none⟩)] w fun e w' => e = .returned (.tuple #[.int .i64 5, .int .i64 0]) ∧ Below w.heap.size w w' := by
  have OF := hid (so_of d hm)
  clear d
  go_enter Tryz.func27, Tryz.ntmps27
  go_wp2_with fail
  refine OF.out.mono ?_
  rintro e w2 ⟨rfl, hb⟩
  go_wp2_with fail
  go_ret2
  exact ⟨rfl, hb⟩
end Go.Proofs.YtdnlejboijkcfaaGreatDoor

/- The contracts of strings.Builder for this program: the shelf's theorems at a table of numbers. -/
namespace Go.Proofs.YtdnlejboijkcfaaGreatDoor
open Go.RowKit Go.Shelf
def shRen : Ren := ⟨fun | 166 => 71 | 167 => 72 | 169 => 75 | 240 => 126 | 276 => 167 | n => n, fun | 0 => 0 | 3 => 3 | 4 => 4 | 5 => 5 | 9 => 9 | 20 => 20 | 37 => 120 | 70 => 121 | 72 => 123 | 75 => 126 | 80 => 134 | 127 => 189 | 164 => 224 | n => n, fun n => n⟩
theorem shLays166 : Lays.n166 Tryz.prog shRen where
  mixed := by kernel_rfl
  f166 := (Tryz.func71).trans (congrArg some (by kernel_rfl))
  f240 := (Tryz.func126).trans (congrArg some (by kernel_rfl))
  f276 := (Tryz.func167).trans (congrArg some (by kernel_rfl))
  t0 := Tryz.underlying0
  a0 := Tryz.isAgg0
  z0 := Tryz.sizeOf0
  v0 := Tryz.zeroValue0
  t3 := Tryz.underlying3
  a3 := Tryz.isAgg3
  z3 := Tryz.sizeOf3
  v3 := Tryz.zeroValue3
  t4 := Tryz.underlying4
  a4 := Tryz.isAgg4
  z4 := Tryz.sizeOf4
  v4 := Tryz.zeroValue4
  t9 := Tryz.underlying9
  a9 := Tryz.isAgg9
  z9 := Tryz.sizeOf9
  v9 := Tryz.zeroValue9
  t20 := Tryz.underlying20
  a20 := Tryz.isAgg20
  z20 := Tryz.sizeOf20
  v20 := Tryz.zeroValue20
  t37 := Tryz.underlying120
  a37 := Tryz.isAgg120
  z37 := Tryz.sizeOf120
  v37 := Tryz.zeroValue120
  t70 := Tryz.underlying121
  a70 := Tryz.isAgg121
  z70 := Tryz.sizeOf121
  v70 := Tryz.zeroValue121
  t72 := Tryz.underlying123
  a72 := Tryz.isAgg123
  z72 := Tryz.sizeOf123
  v72 := Tryz.zeroValue123
  t75 := Tryz.underlying126
  a75 := Tryz.isAgg126
  z75 := Tryz.sizeOf126
  v75 := Tryz.zeroValue126
  t164 := Tryz.underlying224
  a164 := Tryz.isAgg224
  z164 := Tryz.sizeOf224
  v164 := Tryz.zeroValue224
theorem shLays167 : Lays.n167 Tryz.prog shRen where
  mixed := by kernel_rfl
  f167 := (Tryz.func72).trans (congrArg some (by kernel_rfl))
  f240 := (Tryz.func126).trans (congrArg some (by kernel_rfl))
  f276 := (Tryz.func167).trans (congrArg some (by kernel_rfl))
  t0 := Tryz.underlying0
  a0 := Tryz.isAgg0
  z0 := Tryz.sizeOf0
  v0 := Tryz.zeroValue0
  t4 := Tryz.underlying4
  a4 := Tryz.isAgg4
  z4 := Tryz.sizeOf4
  v4 := Tryz.zeroValue4
  t5 := Tryz.underlying5
  a5 := Tryz.isAgg5
  z5 := Tryz.sizeOf5
  v5 := Tryz.zeroValue5
  t9 := Tryz.underlying9
  a9 := Tryz.isAgg9
  z9 := Tryz.sizeOf9
  v9 := Tryz.zeroValue9
  t20 := Tryz.underlying20
  a20 := Tryz.isAgg20
  z20 := Tryz.sizeOf20
  v20 := Tryz.zeroValue20
  t37 := Tryz.underlying120
  a37 := Tryz.isAgg120
  z37 := Tryz.sizeOf120
  v37 := Tryz.zeroValue120
  t70 := Tryz.underlying121
  a70 := Tryz.isAgg121
  z70 := Tryz.sizeOf121
  v70 := Tryz.zeroValue121
  t72 := Tryz.underlying123
  a72 := Tryz.isAgg123
  z72 := Tryz.sizeOf123
  v72 := Tryz.zeroValue123
  t75 := Tryz.underlying126
  a75 := Tryz.isAgg126
  z75 := Tryz.sizeOf126
  v75 := Tryz.zeroValue126
  t164 := Tryz.underlying224
  a164 := Tryz.isAgg224
  z164 := Tryz.sizeOf224
  v164 := Tryz.zeroValue224
theorem shLays169 : Lays.n169 Tryz.prog shRen where
  mixed := by kernel_rfl
  f169 := (Tryz.func75).trans (congrArg some (by kernel_rfl))
  t0 := Tryz.underlying0
  a0 := Tryz.isAgg0
  z0 := Tryz.sizeOf0
  v0 := Tryz.zeroValue0
  t3 := Tryz.underlying3
  a3 := Tryz.isAgg3
  z3 := Tryz.sizeOf3
  v3 := Tryz.zeroValue3
  t9 := Tryz.underlying9
  a9 := Tryz.isAgg9
  z9 := Tryz.sizeOf9
  v9 := Tryz.zeroValue9
  t37 := Tryz.underlying120
  a37 := Tryz.isAgg120
  z37 := Tryz.sizeOf120
  v37 := Tryz.zeroValue120
  t70 := Tryz.underlying121
  a70 := Tryz.isAgg121
  z70 := Tryz.sizeOf121
  v70 := Tryz.zeroValue121
  t72 := Tryz.underlying123
  a72 := Tryz.isAgg123
  z72 := Tryz.sizeOf123
  v72 := Tryz.zeroValue123
  t127 := Tryz.underlying189
  a127 := Tryz.isAgg189
  z127 := Tryz.sizeOf189
  v127 := Tryz.zeroValue189
theorem shExtra : Builder.Extra Tryz.prog shRen where
  sizeBuilder := by kernel_rfl
  liesBuilder := by kernel_rfl
  t5 := Tryz.underlying5
  a5 := Tryz.isAgg5
  z5 := Tryz.sizeOf5
  v5 := Tryz.zeroValue5
  infoByte := by kernel_rfl
  cellsByte := by kernel_rfl
  sizeByte := by kernel_rfl
  neB5 := by decide
abbrev BldF (B b : Nat) (l : List UInt8) (w : World) : Prop := Lib.IsBuilderF 123 5 B b (Lib.byteCells l) w
abbrev BldKept (b : Nat) (w w' : World) : Prop := Lib.OthersKept 5 (some b) w w'
theorem b_byte (B b : Nat) (l : List UInt8) (c : UInt8) (w : World) (h : BldF B b l w) (hlen : l.length + 1 ≤ 140737488355328) (hBw : B ≤ w.heap.size) :
    Calls Tryz.prog 72 #[.pointer (some ⟨b, 0, none⟩), .int .u8 (c.toNat : Int)] w fun e w' => e = .returned .nilIface ∧ BldF B b (l ++ [c]) w' ∧ Below B w w' ∧ BldKept b w w' := by
  refine (Any.Builder_WriteByte_k shLays167 shExtra B b (Lib.byteCells l) (c.toNat : Int) w h (by rw [Lib.byteCells_length]; exact hlen) hBw).mono ?_
  rintro e w' ⟨rfl, h1, h2, h3⟩
  exact ⟨rfl, Or.inr (by rw [Lib.byteCells_append]; exact h1), h2, h3⟩
theorem b_string (B b : Nat) (l r : List UInt8) (w : World) (h : BldF B b l w) (hlen : l.length + r.length ≤ 140737488355328) (hBw : B ≤ w.heap.size) :
    Calls Tryz.prog 71 #[.pointer (some ⟨b, 0, none⟩), .string ⟨r.toArray⟩] w fun e w' => e = .returned (.tuple #[.int .i64 (r.length : Int), .nilIface]) ∧ BldF B b (l ++ r) w' ∧ Below B w w' ∧ BldKept b w w' := by
  have e1 : (⟨r.toArray⟩ : ByteArray).size = r.length := by show r.toArray.size = _; simp
  refine (Any.Builder_WriteString_k shLays166 shExtra B b (Lib.byteCells l) ⟨r.toArray⟩ w h (by rw [Lib.byteCells_length, e1]; exact hlen) hBw).mono ?_
  rintro e w' ⟨rfl, h1, h2, h3⟩
  rw [e1]
  exact ⟨rfl, Or.inr (by rw [Lib.byteCells_append]; exact h1), h2, h3⟩
theorem b_text (B b : Nat) (l : List UInt8) (w : World) (h : BldF B b l w) (hBw : B ≤ w.heap.size) :
    Calls Tryz.prog 75 #[.pointer (some ⟨b, 0, none⟩)] w fun e w' => e = .returned (.string ⟨l.toArray⟩) ∧ BldF B b l w' ∧ Below B w w' ∧ BldKept b w w' :=
  Any.Builder_String_any_k shLays169 shExtra B b l w h hBw
end Go.Proofs.YtdnlejboijkcfaaGreatDoor
