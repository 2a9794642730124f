/- Texts laid together. -/
import Derived.Test.YtdnlejboijkcfaaGreatDoorP44
import Derived.Test.YtdnlejboijkcfaaGreatDoorP23
import Derived.Laws.IdiomStrings
import Derived.Test.YtdnlejboijkcfaaGreatDoorP40
import Derived.Test.YtdnlejboijkcfaaGreatDoorP12
import Derived.Laws.StructEq
import Derived.Test.YtdnlejboijkcfaaGreatDoorP13
/- Texts laid together: Sh7, Sh3, Sh8. -/
/- The walk of the closure in sheet.Text. -/
namespace Go.Proofs.YtdnlejboijkcfaaGreatDoor
set_option maxHeartbeats 8000000
set_option maxRecDepth 100000
open Go.RowKit
def strCs (ps : List (List UInt8)) : Array Value := (ps.map fun p => Value.string ⟨p.toArray⟩).toArray
theorem Sh.kept_str {b g : Nat} {w w' : World} {arr : Array Value} (h : BldKept b w w') (X : Blk w g arr 9) (hg : g ≠ b) : Blk w' g arr 9 :=
  h g _ X (fun e => hg (Option.some.inj e)) (fun c fz e => by injection e with _ e _; exact absurd e (by decide))
def TellPost (B b : Nat) (l : List UInt8) (ps : List (List UInt8)) (w : World) (e : Ending) (w' : World) : Prop := e = .returned (.tuple #[]) ∧ BldF B b (l ++ ps.flatten ++ [10]) w' ∧ Below B w w' ∧ BldKept b w w'
theorem t_tell (B b g : Nat) (l : List UInt8) (ps : List (List UInt8)) (w : World) (h : BldF B b l w) (hlen : l.length + ps.flatten.length + 1 ≤ 140737488355328) (hB : B ≤ w.heap.size) (X : Blk w g (strCs ps) 9) (hgb : g ≠ b) (hn : ps.length ≤ 1000) :
    Calls Tryz.prog 70 #[.slice (some ⟨g, 0, none⟩) ps.length ps.length, .pointer (some ⟨b, 0, none⟩)] w (TellPost B b l ps w) := by
  have R0 : Hid (BldF B b (l ++ (ps.take 0).flatten) w ∧ Below B w w ∧ BldKept b w w) := ⟨by simpa using h, Below.refl _ _, Lib.OthersKept.refl _ _ _⟩
  have HX := hid X
  clear h X
  go_enter Tryz.func70, Tryz.ntmps70
  go_wp2_with fail
  go_loopw [4, 7] (fun _ i wr => ∃ j : Nat, i = .int .i64 j ∧ j ≤ ps.length ∧ Hid (BldF B b (l ++ (ps.take j).flatten) wr ∧ Below B w wr ∧ BldKept b w wr)) (fun _ i _ => ps.length - (intOf i).toNat)
  case atStart => exact ⟨0, rfl, Nat.zero_le _, R0⟩
  case round =>
    obtain ⟨j, rfl, hj, hr⟩ := hrel
    by_cases hjn : j < ps.length
    · obtain ⟨hb, hbl, hk⟩ := hr.out
      have hsz := Nat.le_trans hB hbl.size
      have Xr := Sh.kept_str hk HX.out hgb
      have c0 : wr.cell? ⟨g, j, none⟩ = some (.string ⟨(ps[j]).toArray⟩) := by
        rw [Xr.cell]; unfold strCs; simp [hjn]
      have htk : (ps.take (j + 1)).flatten = (ps.take j).flatten ++ ps[j] := by
        rw [List.take_succ_eq_append_getElem hjn, List.flatten_append]; simp
      have hlj : (l ++ (ps.take j).flatten).length + (ps[j]).length ≤ 140737488355328 := by
        have h1 : (ps.take (j + 1)).flatten.length ≤ ps.flatten.length := by
          conv => rhs; rw [← List.take_append_drop (j + 1) ps, List.flatten_append, List.length_append]
          omega
        rw [htk, List.length_append] at h1
        rw [List.length_append]; omega
      have ST := hid (b_string B b _ (ps[j]) wr hb hlj hsz)
      have HT := hid htk
      have HH := hid (And.intro hbl hk)
      have hlt : decide ((j : Int) < (ps.length : Int)) = true := decide_eq_true (by omega)
      clear hb hbl hk htk hlj hr Xr
      generalize ps[j] = p at *
      go_wp2_with fail
      refine ST.out.mono ?_
      rintro e w' ⟨rfl, h1, h2, h3⟩
      have RR : Hid (BldF B b (l ++ (ps.take (j + 1)).flatten) w' ∧ Below B w w' ∧ BldKept b w w') := ⟨by rw [HT.out, ← List.append_assoc]; exact h1, HH.out.1.trans h2, HH.out.2.trans h3⟩
      clear h1 h2 h3 HH HT ST c0
      go_wp2_with fail
      go_round
      case rel => exact ⟨j + 1, by simp, by omega, RR⟩
      case measure => simp [intOf]; omega
    · obtain rfl : j = ps.length := by omega
      obtain ⟨hb, hbl, hk⟩ := hr.out
      rw [List.take_length] at hb
      have BT := hid (b_byte B b _ 10 wr hb (by rw [List.length_append]; exact hlen) (Nat.le_trans hB hbl.size))
      have HH := hid (And.intro hbl hk)
      have hlt : decide ((ps.length : Int) < (ps.length : Int)) = false := decide_eq_false (by omega)
      clear hb hbl hk hr
      go_wp2_with fail
      refine BT.out.mono ?_
      rintro e w' ⟨rfl, h1, h2, h3⟩
      have P : Hid (TellPost B b l ps w (.returned (.tuple #[])) w') := ⟨rfl, h1, HH.out.1.trans h2, HH.out.2.trans h3⟩
      clear h1 h2 h3 HH BT
      go_wp2_with fail
      go_end0
      exact P.out
end Go.Proofs.YtdnlejboijkcfaaGreatDoor
/- The walks of sheet.Digits and the reference's Digits. -/
namespace Go.Proofs.YtdnlejboijkcfaaGreatDoor
set_option maxHeartbeats 8000000
set_option maxRecDepth 100000
open Go.RowKit Sh
namespace Sh
def padC (k : Nat) (D : List UInt8) : Array Value := (List.replicate k (Value.int .u8 0) ++ D.map (fun c => Value.int .u8 (c.toNat : Int))).toArray
theorem pad_set {k : Nat} (c : UInt8) (D : List UInt8) : (padC (k + 1) D).setIfInBounds k (.int .u8 (c.toNat : Int)) = padC k (c :: D) := by
  unfold padC
  rw [List.setIfInBounds_toArray]
  congr 1
  rw [List.replicate_succ', List.append_assoc, List.set_append_right _ _ (by simp)]
  simp
theorem pad_get {k j : Nat} {D : List UInt8} (h : j < D.length) : (padC k D)[k + j]? = some (.int .u8 (D[j].toNat : Int)) := by
  unfold padC
  rw [List.getElem?_toArray, List.getElem?_append_right (by simp)]
  simp [List.getElem?_map, List.getElem?_eq_getElem h]
theorem pad_zero {k j : Nat} {D : List UInt8} (h : j < k) : (padC k D)[j]? = some (.int .u8 0) := by
  unfold padC
  rw [List.getElem?_toArray, List.getElem?_append_left (by simpa using h)]
  simp [h]
end Sh
def Sh.digS (n : Int) : ByteArray := if n < 0 then ⟨#[]⟩ else ⟨(decL n.toNat).toArray⟩
theorem s_digits (n : Int) (w : World) (bn : -9223372036854775808 ≤ n ∧ n ≤ 9223372036854775807) : Calls Tryz.prog 73 #[.int .i64 n] w fun e w' => e = .returned (.string (digS n)) ∧ Below w.heap.size w w' := by
  by_cases h0 : n < 0
  · have e : digS n = ⟨#[]⟩ := by unfold digS; rw [if_pos h0]
    rw [e]
    clear e
    go_enter Tryz.func73, Tryz.ntmps73
    go_wp2_with fail
    go_ret
    exact ⟨rfl, Below.refl _ _⟩
  · obtain ⟨N, rfl⟩ := Int.eq_ofNat_of_zero_le (show 0 ≤ n by omega)
    have eS : digS (N : Int) = ⟨(decL N).toArray⟩ := by unfold digS; rw [if_neg h0]; simp
    rw [eS]
    have X1 : Blk (w.alloc (.cells (padC 19 []) 188)) w.heap.size (padC 19 []) 188 := Blk.new w _ _
    have hb1 : Below w.heap.size w (w.alloc (.cells (padC 19 []) 188)) := (Below.refl _ _).alloc nlr _
    have hN := decL_len 18 N (by omega)
    clear eS h0
    go_enter Tryz.func73, Tryz.ntmps73
    go_wp2_with fail
    go_loopw [0, 4] (fun n i wr => ∃ (m k : Nat) (D : List UInt8), n = .int .i64 m ∧ i = .int .i64 k ∧ m ≤ N ∧ k + D.length = 19 ∧ (m = 0 → D = []) ∧ Hid (decL N = decL m ++ D) ∧ Blk wr w.heap.size (padC k D) 188 ∧ Below w.heap.size w wr) (fun _ i _ => (intOf i).toNat)
    case atStart => exact ⟨N, 19, [], rfl, rfl, nlr, rfl, (fun _ => rfl), by show _ = _; simp, X1, hb1⟩
    case round =>
      obtain ⟨m, k, D, rfl, rfl, hm, hk, hD, hd, X, hbl⟩ := hrel
      have hk1 : 1 ≤ k := by
        have h1 := List.length_pos_iff.2 (decL_ne m)
        have h2 := congrArg List.length hd.out
        rw [List.length_append] at h2
        omega
      obtain ⟨j, rfl⟩ : ∃ j, k = j + 1 := ⟨k - 1, by omega⟩
      have c0 : wr.cell? ⟨w.heap.size, j, none⟩ = some (.int .u8 0) := (X.cell j).trans (pad_zero (Nat.lt_succ_self j))
      have f0 := X.free j
      have hxl := X.lt
      -- the byte
      obtain ⟨c, hc⟩ : ∃ c : UInt8, c = UInt8.ofNat (48 + m % 10) := ⟨_, rfl⟩
      have hcn : (c.toNat : Int) = 48 + (m : Int) % 10 := by
        rw [hc, dig_of (Nat.mod_lt m (by omega))]; omega
      have X' : Blk (wr.setCell ⟨w.heap.size, j, none⟩ (.int .u8 (48 + (m : Int) % 10))) w.heap.size (padC j (c :: D)) 188 := by
        have := X.set j (.int .u8 (c.toNat : Int))
        rw [pad_set, hcn] at this
        exact this
      have hb' : Below w.heap.size w (wr.setCell ⟨w.heap.size, j, none⟩ (.int .u8 (48 + (m : Int) % 10))) := hbl.setCell nlr _
      have SL : ∀ w' : World, (Instr.sliceAt 188 (.pointer (some ⟨w.heap.size, 0, none⟩)) (some (.int .i64 (j : Int))) none none).run Tryz.prog w' = .ok (.slice (some ⟨w.heap.size, j, none⟩) (19 - j) (19 - j)) w' := by
        intro w'
        rw [run_sliceAt_array_l w' 188 _ rfl .i64 (j : Int) (by omega) (by show (j : Int) ≤ 19; omega)]
        rw [show (sizeOf (Tryz.prog.elem 188)).run Tryz.prog w' = .ok 1 w' from rfl]
        show Result.ok (slicedAt ⟨w.heap.size, 0, none⟩ (j : Int).toNat 19 19 1) w' = _
        rw [Int.toNat_natCast]
        unfold slicedAt
        rw [if_neg (show ¬ 19 = j by omega)]
        rw [Nat.mul_one]
        simp only [Addr.add]
        split <;> simp <;> omega
      have CV : (convert 120 9 (.slice (some ⟨w.heap.size, j, none⟩) (19 - j) (19 - j))).run Tryz.prog (wr.setCell ⟨w.heap.size, j, none⟩ (.int .u8 (48 + (m : Int) % 10))) = .ok (.string ⟨(c :: D).toArray⟩) (wr.setCell ⟨w.heap.size, j, none⟩ (.int .u8 (48 + (m : Int) % 10))) := by
        have := run_convert_bytes_back (P := Tryz.prog) (wr.setCell ⟨w.heap.size, j, none⟩ (.int .u8 (48 + (m : Int) % 10))) 120 9 5 ⟨w.heap.size, j, none⟩ (19 - j) (c :: D) rfl rfl rfl (fun i hi => by
          rw [show Addr.add ⟨w.heap.size, j, none⟩ i = ⟨w.heap.size, j + i, none⟩ by simp only [Addr.add]; split <;> simp <;> omega]
          exact (X'.cell (j + i)).trans (pad_get hi))
        rw [show (c :: D).length = 19 - j by simp; omega] at this
        exact this
      have HX' := hid X'
      have HB' := hid hb'
      have HC := hid hc
      clear X' hb' X hbl hc
      have g1 : (0 : Int) ≤ (m : Int) / 10 := by omega
      by_cases hm10 : m < 10
      · have q0 : ((m : Int) / 10 == 0) = true := by simp; omega
        go_wp2_with fail
        go_ret
        refine ⟨?_, HB'.out⟩
        rw [show (decL N).toArray = (c :: D).toArray by
          have e : c = UInt8.ofNat (48 + m) := by rw [HC.out, Nat.mod_eq_of_lt hm10]
          rw [hd.out, decL_low hm10, e]; rfl]
        rfl
      · have q0 : ((m : Int) / 10 == 0) = false := by simp; omega
        go_wp2_with fail
        go_round
        case rel =>
          refine ⟨m / 10, j, c :: D, by simp, rfl, by omega, by simp; omega, (fun h => by omega), ?_, HX'.out, HB'.out⟩
          show decL N = decL (m / 10) ++ (c :: D)
          rw [hd.out, decL_big hm10, HC.out, List.append_assoc]; rfl
        case measure => simp [intOf]
end Go.Proofs.YtdnlejboijkcfaaGreatDoor
/- The walk of sheet.Text. -/
namespace Go.Proofs.YtdnlejboijkcfaaGreatDoor
set_option maxHeartbeats 8000000
set_option maxRecDepth 100000
open Go.RowKit Nl Sh
theorem Sh.bld_below {B b : Nat} {l : List UInt8} {W W' : World} (h : BldF B b l W) (hb : Below W.heap.size W W') : BldF B b l W' := by
  rcases h with h | h
  all_goals
    have hlt := h.lt
    obtain ⟨h0, v, h1, own, h2⟩ := h
    have K := own.kept (w' := W') (row := none) ⟨hb.os, hb.tape, hb.output, hb.size, fun k hk _ => hb.block k hk⟩ (Classical.em _)
  · exact .inl ⟨h0, v, (hb.block _ hlt).trans h1, K, h2⟩
  · exact .inr ⟨h0, v, (hb.block _ hlt).trans h1, K, h2⟩
theorem Sh.kept_node {b g : Nat} {w w' : World} {arr : Array Value} (h : BldKept b w w') (X : Blk w g arr 116) (hg : g ≠ b) : Blk w' g arr 116 :=
  h g _ X (fun e => hg (Option.some.inj e)) (fun c fz e => by injection e with _ e _; exact absurd e (by decide))
theorem Sh.kept_below {b : Nat} {a w w' : World} (h : BldKept b a w) (hb : Below w.heap.size w w') : BldKept b a w' := fun k o hk hkb ho => by
  have h1 := h k o hk hkb ho
  exact (hb.block k (Array.getElem?_eq_some_iff.1 h1).1).trans h1
theorem Sh.kept_conf {b g : Nat} {w w' : World} {arr : Array Value} (h : BldKept b w w') (X : Blk w g arr 24) (hg : g ≠ b) : Blk w' g arr 24 :=
  h g _ X (fun e => hg (Option.some.inj e)) (fun c fz e => by injection e with _ e _; exact absurd e (by decide))
def Sh.digL (n : Int) : List UInt8 := if n < 0 then [] else decL n.toNat
theorem Sh.digS_list (n : Int) : digS n = ⟨(digL n).toArray⟩ := by
  unfold digS digL; split <;> rfl
theorem Sh.digL_len {n : Int} (h : In64 n) : (digL n).length ≤ 19 := by
  unfold digL; split
  · simp
  · exact decL_len 18 _ (by have := h.2; omega)
theorem s_digs (n : Int) (w : World) (bn : In64 n) : Calls Tryz.prog 73 #[.int .i64 n] w fun e w' => e = .returned (.string ⟨(digL n).toArray⟩) ∧ Below w.heap.size w w' := by
  rw [← digS_list]; exact s_digits n w bn
def Sh.headL (l k n : Int) : List UInt8 := [100, 105, 103, 101, 115, 116, 32] ++ digL l ++ [32] ++ digL k ++ [32] ++ digL n ++ [10]
def Sh.lineL (l : Int) (x : Nd) : List UInt8 := digL (endsLo l x.1) ++ [46, 46] ++ digL (endsHi l x.1) ++ [32] ++ digL x.2 ++ [10]
def Sh.bodyL (l : Int) (zs : List Nd) : List UInt8 := (zs.map (lineL l)).flatten
def Sh.textL (l k : Int) (zs : List Nd) : List UInt8 := headL l k (sumL zs) ++ bodyL l zs
theorem Sh.body_step {l : Int} {zs : List Nd} {j : Nat} {a c : Int} (h : j < zs.length) (e : zs.getD j (0, 0) = (a, c)) : bodyL l (zs.take (j + 1)) = bodyL l (zs.take j) ++ lineL l (a, c) := by
  have e2 : zs[j] = (a, c) := by rw [← e]; simp [List.getD, h]
  unfold bodyL
  rw [List.take_succ_eq_append_getElem h, List.map_append, List.flatten_append, e2]
  simp
theorem Sh.ends_in {l id : Int} (h : rightB l id = true) : In64 (endsLo l id) ∧ In64 (endsHi l id) := by
  obtain ⟨n, d, x, rfl, rfl, hd, hok, hdn, hn, hn1, hx1, hx2⟩ := Sh.nat_rep h
  obtain ⟨m, em⟩ : ∃ m, n - d = m := ⟨_, rfl⟩
  obtain ⟨q1, q2⟩ := pow48 (n := m) (by omega)
  have hs : 2 ^ n = 2 ^ d * 2 ^ m := by rw [← Nat.pow_add]; congr 1; omega
  have hsI : (2 : Int) ^ n = 2 ^ d * 2 ^ m := by exact_mod_cast hs
  have hlo : endsLo (n : Int) (x : Int) = ((x : Int) - 2 ^ d) * 2 ^ m := by
    unfold endsLo depN
    rw [hd, Int.toNat_natCast, Int.toNat_natCast, em, Int.sub_mul, hsI]
  have hhi : endsHi (n : Int) (x : Int) = ((x : Int) - 2 ^ d) * 2 ^ m + 2 ^ m - 1 := by
    unfold endsHi depN
    rw [hd, Int.toNat_natCast, Int.toNat_natCast, em, Int.sub_mul, Int.add_mul, hsI]; omega
  have hb : 0 ≤ ((x : Int) - 2 ^ d) * 2 ^ m ∧ ((x : Int) - 2 ^ d) * 2 ^ m < 281474976710656 := by
    have c1 : (2 : Int) ^ d = ((2 ^ d : Nat) : Int) := by simp
    have c2 : (2 : Int) ^ m = ((2 ^ m : Nat) : Int) := by simp
    have h1 : ((x : Int) - 2 ^ d) = ((x - 2 ^ d : Nat) : Int) := by rw [c1]; omega
    rw [h1, c2, ← Int.natCast_mul]
    have h2 : (x - 2 ^ d) * 2 ^ m < 2 ^ n := by
      rw [hs]; exact Nat.mul_lt_mul_of_pos_right (by rw [Nat.pow_succ] at hx2; omega) (Nat.pow_pos (by omega))
    have h3 : 2 ^ n ≤ 2 ^ 48 := Nat.pow_le_pow_right (by omega) hn
    have h4 : (2 : Nat) ^ 48 = 281474976710656 := rfl
    omega
  rw [hlo, hhi]
  exact ⟨⟨by omega, by omega⟩, ⟨by omega, by omega⟩⟩
theorem Sh.own_kept {b B : Nat} {v : Value} {zs : List Nd} {w w' : World} (h : OwnN w B v zs) (K : BldKept b w w') (hb : b < B) : OwnN w' B v zs := by
  refine h.keep (fun k hk => ?_)
  rcases h.2 with ⟨h1, _⟩ | ⟨g, cap, cur, hv, hg, hh, -⟩
  · rw [h1] at hk; simp [Value.ownBlock] at hk
  · rw [hv] at hk
    obtain rfl : g = k := by simpa [Value.ownBlock] using hk
    rw [hh]
    exact K g _ hh (fun e => by have := Option.some.inj e; omega) (fun c fz e => by injection e with _ e _; exact absurd e (by decide))
theorem s_text {w : World} {dg q g h m : Nat} {kind l k : Int} {zs : List Nd} (d : DgV w dg q g h kind l k m zs) (hm : m ≤ 100000) (bl : In64 l) (bk : In64 k) (bs : In64 (sumL zs)) (bw : ∀ x ∈ zs, In64 x.2) :
    Calls Tryz.prog 26 #[.pointer (some ⟨dg, 0, none⟩)] w fun e w' => e = .returned (.tuple #[.string ⟨(textL l k zs).toArray⟩, .int .i64 0]) ∧ Below w.heap.size w w' := by
  have hmf : ∀ (fn : Fn) (first cap : Array Value) (w : World), (Instr.makeFunc fn first cap).run Tryz.prog w = .ok (.func fn first cap) w := fun _ _ _ _ => rfl
  have X1 : Blk (w.alloc (.cells #[.pointer none, .slice none 0 0] 123)) w.heap.size #[.pointer none, .slice none 0 0] 123 := Blk.new w _ _
  have hb1 : Below w.heap.size w (w.alloc (.cells #[.pointer none, .slice none 0 0] 123)) := (Below.refl _ _).alloc nlr _
  have B1 : BldF w.heap.size w.heap.size [] (w.alloc (.cells #[.pointer none, .slice none 0 0] 123)) := Lib.IsBuilderF.of (Lib.fresh_isBuilder 123 5 w)
  have d1 := d.below hb1 nlr
  have CF := hid (dg_conf d1)
  go_enter Tryz.func26, Tryz.ntmps26
  go_wp2_with fail
  refine CF.out.mono ?_
  rintro e w2 ⟨rfl, hb2⟩
  go_upto_region 6 with fail
  have X2 : Blk (w2.alloc (.cells #[.int .i64 l, .int .i64 k, .int .i64 kind] 24)) w2.heap.size #[.int .i64 l, .int .i64 k, .int .i64 kind] 24 := Blk.new w2 _ _
  have d2 := (d1.below hb2 nlr).below ((Below.refl _ _).alloc nlr (.cells #[.int .i64 l, .int .i64 k, .int .i64 kind] 24)) nlr
  have B2 := bld_below (bld_below B1 hb2) ((Below.refl _ _).alloc nlr (.cells #[.int .i64 l, .int .i64 k, .int .i64 kind] 24))
  have hbw : Below w.heap.size w (w2.alloc (.cells #[.int .i64 l, .int .i64 k, .int .i64 kind] 24)) := (hb1.trans (hb2.mono hb1.size)).alloc (Nat.le_trans hb1.size hb2.size) _
  have hlt : w.heap.size < w2.heap.size := Nat.lt_of_lt_of_le X1.lt hb2.size
  have B2lt : w.heap.size < (w2.alloc (.cells #[.int .i64 l, .int .i64 k, .int .i64 kind] 24)).heap.size := Nat.lt_trans hlt X2.lt
  generalize w2.heap.size = gc at *
  obtain ⟨w3, hw3⟩ : ∃ x, x = w2.alloc (.cells #[.int .i64 l, .int .i64 k, .int .i64 kind] 24) := ⟨_, rfl⟩
  rw [← hw3] at X2 d2 B2 hbw B2lt ⊢
  clear hw3 hb2 B1 d1 CF X1 hb1
  go_cut [0] (fun v0 wx => v0 = .pointer (some ⟨dg, 0, none⟩) ∧ BldF w.heap.size w.heap.size (headL l k (sumL zs)) wx ∧ Blk wx gc #[.int .i64 l, .int .i64 k, .int .i64 kind] 24 ∧ Below w.heap.size w wx)
  case first =>
    have NN := hid (fun (W : World) (hh : DgV W dg q g h kind l k m zs) => dg_n hh)
    have DG := hid (fun n (h : In64 n) W => s_digs n W h)
    have hB0 := Below.refl w3.heap.size w3
    have l1 := digL_len bl
    have l2 := digL_len bk
    have l3 := digL_len bs
    have hb3 : w.heap.size ≤ w3.heap.size := hbw.size
    have TL := hid (fun W (hb : Below w3.heap.size w3 W) => show Calls Tryz.prog 70 #[.slice (some ⟨W.heap.size, 0, none⟩) 6 6, .pointer (some ⟨w.heap.size, 0, none⟩)] (W.alloc (.cells #[.string ⟨#[100, 105, 103, 101, 115, 116, 32]⟩, .string ⟨(digL l).toArray⟩, .string ⟨#[32]⟩, .string ⟨(digL k).toArray⟩, .string ⟨#[32]⟩, .string ⟨(digL (sumL zs)).toArray⟩] 9)) _ from
      t_tell w.heap.size w.heap.size W.heap.size [] [[100, 105, 103, 101, 115, 116, 32], digL l, [32], digL k, [32], digL (sumL zs)] (W.alloc (.cells (strCs [[100, 105, 103, 101, 115, 116, 32], digL l, [32], digL k, [32], digL (sumL zs)]) 9)) (bld_below B2 (hb.alloc hb.size _)) (by simp; omega) (Nat.le_trans hb3 (hb.alloc hb.size _).size) (Blk.new W _ _) (by have := B2lt; have := hb.size; omega) (by simp))
    clear l1 l2 l3
    have hB1 : Below w3.heap.size w3 (w3.drewN 1) := below_drewN hB0 1
    clear hB0
    have FX := hid (fun W (hb : Below w3.heap.size w3 W) => show W.cell? ⟨gc, 0, none⟩ = some (.int .i64 l) ∧ W.cell? ⟨gc, 1, none⟩ = some (.int .i64 k) from ⟨(X2.below hb nlr).cell 0, (X2.below hb nlr).cell 1⟩)
    have KX := hid (fun W o W6 (hb : Below w3.heap.size w3 W) (hk : BldKept w.heap.size (W.alloc o) W6) => kept_conf hk ((X2.below hb nlr).alloc o) (Nat.ne_of_gt hlt))
    go_region_held3 (fun w' => w'.cell? ⟨gc, 0, none⟩ = some (.int .i64 l) ∧ w'.cell? ⟨gc, 1, none⟩ = some (.int .i64 k))
      (first
        | exact FX.out _ hB1
        | exact FX.out _ hBn
        | exact FX.out _ (hBn.alloc hBn.size _)
        | exact ⟨X6.cell 0, X6.cell 1⟩)
      (first
        | (go_at_call_of 73 (Value.int .i64 l); have hBa := ‹Below w3.heap.size w3 _›; refine (DG.out l bl _).mono ?_; rintro e w5 ⟨rfl, hb5⟩
           have hBn := hBa.trans (hb5.mono hBa.size))
        | (go_at_call_of 73 (Value.int .i64 k); have hBa := ‹Below w3.heap.size w3 _›; refine (DG.out k bk _).mono ?_; rintro e w5 ⟨rfl, hb5⟩
           have hBn := hBa.trans (hb5.mono hBa.size))
        | (go_at_call_of 73 (Value.int .i64 (sumL zs)); have hBa := ‹Below w3.heap.size w3 _›; refine (DG.out (sumL zs) bs _).mono ?_; rintro e w5 ⟨rfl, hb5⟩
           have hBn := hBa.trans (hb5.mono hBa.size))
        | (go_at_call 16; have hBa := ‹Below w3.heap.size w3 _›; refine (NN.out _ (d2.below hBa nlr)).mono ?_; rintro e w5 ⟨rfl, rfl⟩
           have hBn := hBa)
        | (go_at_call 70; refine (TL.out _ hBn).mono ?_; rintro e w6 ⟨rfl, hl6, hb6, hk6⟩
           have X6 := KX.out _ _ _ hBn hk6))
    all_goals
      have P : BldF w.heap.size w.heap.size (headL l k (sumL zs)) w6 := by simpa [headL] using hl6
      have hbe := hbw.trans (((hBn.alloc hBn.size _).mono hb3).trans hb6)
      clear hl6 hb6 hk6 FX KX TL NN DG
      go_wp2_with fail
      go_meet
      exact ⟨rfl, P, X6, hbe⟩
  case rest =>
    obtain ⟨rfl, B4, X4, hb4⟩ := hcut
    obtain ⟨w4, rfl⟩ : ∃ x, x = wc := ⟨_, rfl⟩
    have ND := hid (dg_nodes (d.below hb4 nlr) hm)
    have IV := hid d.inv
    clear d2 d B2 X2 hbw
    go_wp2_with fail
    refine ND.out.mono ?_
    rintro e w5 hN
    obtain ⟨v5, rfl, own5, hb5⟩ := hN
    obtain ⟨p5, c5, rfl⟩ := own5.rd.val
    have B5 := bld_below B4 hb5
    have X5 := X4.below hb5 nlr
    have hbw5 := hb4.trans (hb5.mono hb4.size)
    have hgb : w.heap.size < w4.heap.size := by
      rcases B4 with h | h <;> exact h.lt
    have hzl : (zs.length : Int) ≤ 8388608 := by
      have h1 := IV.out.room
      have h2 := IV.out.k2
      omega
    have hzn : zs.length ≤ 8388608 := by omega
    have HH : (headL l k (sumL zs)).length ≤ 67 := by
      have l1 := digL_len bl
      have l2 := digL_len bk
      have l3 := digL_len bs
      simp [headL]; omega
    have R0 : Hid (BldF w.heap.size w.heap.size (headL l k (sumL zs) ++ bodyL l (zs.take 0)) w5 ∧ (headL l k (sumL zs) ++ bodyL l (zs.take 0)).length ≤ 67 + 61 * 0 ∧ BldKept w.heap.size w5 w5 ∧ Below w.heap.size w w5) := ⟨by simpa [bodyL] using B5, by simpa [bodyL] using HH, Lib.OthersKept.refl _ _ _, hbw5⟩
    clear B4 B5 X4 HH ND hb5
    go_wp2_with fail
    go_loopg [32] zs.length (fun gn i wr => ∃ j : Nat, i = .int .i64 j ∧ j ≤ zs.length ∧ zs.length - j ≤ gn ∧ Hid (BldF w.heap.size w.heap.size (headL l k (sumL zs) ++ bodyL l (zs.take j)) wr ∧ (headL l k (sumL zs) ++ bodyL l (zs.take j)).length ≤ 67 + 61 * j ∧ BldKept w.heap.size w5 wr ∧ Below w.heap.size w wr))
    case atStart => exact ⟨0, rfl, Nat.zero_le _, nlr, R0⟩
    case round =>
      obtain ⟨j, rfl, hj, hgn, hr⟩ := hrel
      obtain ⟨B6, hl6, hk6, hb6⟩ := hr.out
      clear hr
      have Xr := kept_conf hk6 X5 (Nat.ne_of_gt hlt)
      by_cases hjn : j < zs.length
      · obtain ⟨gs, off, a, c, hp, hac, hgs, q0, q1⟩ := (own_kept own5 hk6 hgb).rd.at hjn
        subst hp
        have hmem : (a, c) ∈ zs := by
          rw [← hac]; simp [List.getD, hjn]
        have hra := IV.out.roll.ids _ hmem
        obtain ⟨ea, eb⟩ := ends_in hra
        have ec := bw _ hmem
        have STEP := hid (body_step (l := l) hjn hac)
        have y0 : wr.cell? ⟨gc, 0, none⟩ = some (.int .i64 l) := Xr.cell 0
        have hg7 : gc < wr.heap.size := Xr.lt
        have hdl : decide ((j : Int) < (zs.length : Int)) = true := decide_eq_true (by omega)
        have hba : Below wr.heap.size wr (wr.alloc (.cells #[.int .i64 a, .int .i64 c] 116)) := (Below.refl _ _).alloc nlr _
        have EN := hid (t_ends (wr.alloc (.cells #[.int .i64 a, .int .i64 c] 116)) hra)
        have Xn := Blk.new wr #[.int .i64 a, .int .i64 c] 116
        have B7 := bld_below B6 hba
        have y7 : (wr.alloc (.cells #[.int .i64 a, .int .i64 c] 116)).cell? ⟨gc, 0, none⟩ = some (.int .i64 l) := (Xr.below hba nlr).cell 0
        go_wp2_with fail
        refine EN.out.mono ?_
        rintro e w7 ⟨rfl, hb7⟩
        have hb8 : Below wr.heap.size wr w7 := hba.trans (hb7.mono hba.size)
        have X7 := Xn.below hb7 nlr
        have B8 := bld_below B6 hb8
        have hk8 := kept_below hk6 hb8
        have hb9 := hb6.trans (hb8.mono hb6.size)
        have hlt6 : w.heap.size < wr.heap.size := B6.elim (fun h => h.lt) (fun h => h.lt)
        have hlt7 : w.heap.size < w7.heap.size := Nat.lt_of_lt_of_le hlt6 hb8.size
        have hnb : wr.heap.size ≠ w.heap.size := Nat.ne_of_gt hlt6
        clear hlt6
        have LE : lineL l (a, c) = [digL (endsLo l a), [46, 46], digL (endsHi l a), [32], digL c].flatten ++ [10] := by simp [lineL]
        have STEP2 : headL l k (sumL zs) ++ bodyL l (zs.take (j + 1)) = headL l k (sumL zs) ++ bodyL l (zs.take j) ++ ([digL (endsLo l a), [46, 46], digL (endsHi l a), [32], digL c].flatten ++ [10]) := by
          rw [STEP.out, LE, List.append_assoc]
        clear STEP LE EN Xn B7 y7 y0 hba hb7 B6 hk6 Xr
        obtain ⟨L, eL⟩ : ∃ L, headL l k (sumL zs) ++ bodyL l (zs.take j) = L := ⟨_, rfl⟩
        rw [eL] at B8 hl6 STEP2
        have l1 := digL_len ea
        have l2 := digL_len eb
        have l3 := digL_len ec
        obtain ⟨L2, eL2⟩ : ∃ L2, headL l k (sumL zs) ++ bodyL l (zs.take (j + 1)) = L2 := ⟨_, rfl⟩
        rw [eL2] at STEP2
        have hl7 : L2.length ≤ 67 + 61 * (j + 1) := by rw [STEP2]; simp; omega
        have hlt2 : L.length + [digL (endsLo l a), [46, 46], digL (endsHi l a), [32], digL c].flatten.length + 1 ≤ 140737488355328 := by simp; omega
        have EL2 := hid eL2
        clear eL eL2
        generalize endsLo l a = A at *
        generalize endsHi l a = Z at *
        generalize wr.heap.size = nb at *
        go_upto_region 11 with fail
        have DG := hid (fun n (h : In64 n) W => s_digs n W h)
        have hB1 : Below w7.heap.size w7 (w7.drewN 1) := below_drewN (Below.refl w7.heap.size w7) 1
        have TL := hid (fun W (hb : Below w7.heap.size w7 W) => show Calls Tryz.prog 70 #[.slice (some ⟨W.heap.size, 0, none⟩) 5 5, .pointer (some ⟨w.heap.size, 0, none⟩)] (W.alloc (.cells #[.string ⟨(digL A).toArray⟩, .string ⟨#[46, 46]⟩, .string ⟨(digL Z).toArray⟩, .string ⟨#[32]⟩, .string ⟨(digL c).toArray⟩] 9)) _ from
          t_tell w.heap.size w.heap.size W.heap.size L [digL A, [46, 46], digL Z, [32], digL c] (W.alloc (.cells (strCs [digL A, [46, 46], digL Z, [32], digL c]) 9)) (bld_below B8 (hb.alloc hb.size _)) hlt2 (Nat.le_trans (Nat.le_of_lt hlt7) (hb.alloc hb.size _).size) (Blk.new W _ _) (by have := hb.size; omega) (by simp))
        have FX := hid (fun W (hb : Below w7.heap.size w7 W) => show W.cell? ⟨nb, 1, none⟩ = some (.int .i64 c) from (X7.below hb nlr).cell 1)
        have KX := hid (fun W o W6 (hb : Below w7.heap.size w7 W) (hk : BldKept w.heap.size (W.alloc o) W6) => kept_node hk ((X7.below hb nlr).alloc o) hnb)
        clear l1 l2 l3 hlt2
        go_region_held3 (fun w' => w'.cell? ⟨nb, 1, none⟩ = some (.int .i64 c))
          (first
            | exact FX.out _ hB1
            | exact FX.out _ hBn
            | exact FX.out _ (hBn.alloc hBn.size _)
            | exact X6.cell 1)
          (first
            | (go_at_call_of 73 (Value.int .i64 A); have hBa := ‹Below w7.heap.size w7 _›; refine (DG.out A ea _).mono ?_; rintro e w8 ⟨rfl, hb8'⟩
               have hBn := hBa.trans (hb8'.mono hBa.size))
            | (go_at_call_of 73 (Value.int .i64 Z); have hBa := ‹Below w7.heap.size w7 _›; refine (DG.out Z eb _).mono ?_; rintro e w8 ⟨rfl, hb8'⟩
               have hBn := hBa.trans (hb8'.mono hBa.size))
            | (go_at_call_of 73 (Value.int .i64 c); have hBa := ‹Below w7.heap.size w7 _›; refine (DG.out c ec _).mono ?_; rintro e w8 ⟨rfl, hb8'⟩
               have hBn := hBa.trans (hb8'.mono hBa.size))
            | (go_at_call 70; refine (TL.out _ hBn).mono ?_; rintro e w6 ⟨rfl, hl6', hb6', hk6'⟩
               have X6 := KX.out _ _ _ hBn hk6'))
        all_goals
          have P : BldF w.heap.size w.heap.size L2 w6 := by rw [STEP2, ← List.append_assoc]; exact hl6'
          have hkk := Lib.OthersKept.trans (kept_below hk8 (hBn.alloc hBn.size _)) hk6'
          have hbe := hb9.trans (((hBn.alloc hBn.size _).mono hb9.size).trans hb6')
          have RR : Hid (BldF w.heap.size w.heap.size (headL l k (sumL zs) ++ bodyL l (zs.take (j + 1))) w6 ∧ (headL l k (sumL zs) ++ bodyL l (zs.take (j + 1))).length ≤ 67 + 61 * (j + 1) ∧ BldKept w.heap.size w5 w6 ∧ Below w.heap.size w w6) := by
            rw [EL2.out]; exact ⟨P, hl7, hkk, hbe⟩
          clear hl6' hb6' hk6' FX KX TL DG P hkk hbe B8 hk8 hb9
          go_wp2_with fail
          go_roundg (zs.length - (j + 1))
          case rel => exact ⟨j + 1, by go_num, by omega, nlr, RR⟩
          case measure => omega
      · obtain rfl : j = zs.length := by omega
        have B7 : BldF w.heap.size w.heap.size (textL l k zs) wr := by
          rw [List.take_length] at B6; exact B6
        have BT := hid (b_text w.heap.size w.heap.size _ wr B7 hb6.size)
        have hdl : decide ((zs.length : Int) < (zs.length : Int)) = false := decide_eq_false (by omega)
        clear B6 B7 Xr R0
        go_wp2_with fail
        refine BT.out.mono ?_
        rintro e w7 ⟨rfl, -, hb7, -⟩
        go_wp2_with fail
        go_ret2
        exact ⟨rfl, hb6.trans hb7⟩
end Go.Proofs.YtdnlejboijkcfaaGreatDoor
