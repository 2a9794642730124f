/- The walks of the dense store: New, L, Len, Total, Get, Add, Take. -/
import Derived.Test.YtejoecoenehooaaTwig
import Derived.Laws.MakeOwn
import Derived.StillTailTactics
namespace Go.Proofs.Ytejoecoenehooaa
open Go.RowKit Nl

/-- The cells of ints. -/
def icells (cs : List Int) : Array Value := (cs.map fun n => Value.int .i64 n).toArray
theorem icells_get (cs : List Int) (k : Nat) (hk : k < cs.length) : (icells cs)[k]? = some (.int .i64 (cs.getD k 0)) := by
  simp [icells, List.getElem?_eq_getElem hk]
theorem icells_set (cs : List Int) (k : Nat) (c : Int) : (icells cs).setIfInBounds k (.int .i64 c) = icells (cs.set k c) := by
  apply Array.ext'
  simp [icells, List.map_set]
theorem icells_made (n : Nat) : madeCells #[.int .i64 0] n = icells (List.replicate n 0) := by
  apply Array.ext
  · simp [madeCells, icells]
  · intro i h1 h2
    simp [madeCells, icells, Nat.mod_one]

/-- Only blocks g and h may have changed. -/
structure Tch (g h : Nat) (w w' : World) : Prop where
  os : w'.os = w.os
  tape : w'.tape = w.tape
  output : w'.output = w.output
  size : w.heap.size ≤ w'.heap.size
  block : ∀ k, k < w.heap.size → k ≠ g → k ≠ h → w'.heap[k]? = w.heap[k]?
theorem Tch.refl (g h : Nat) (w : World) : Tch g h w w := ⟨rfl, rfl, rfl, Nat.le_refl _, fun _ _ _ _ => rfl⟩
theorem Tch.trans {g h : Nat} {a b c : World} (h1 : Tch g h a b) (h2 : Tch g h b c) : Tch g h a c :=
  ⟨h2.os.trans h1.os, h2.tape.trans h1.tape, h2.output.trans h1.output, Nat.le_trans h1.size h2.size, fun k hk e1 e2 => (h2.block k (Nat.lt_of_lt_of_le hk h1.size) e1 e2).trans (h1.block k hk e1 e2)⟩
theorem Tch.below {g h B : Nat} {w w' : World} (t : Tch g h w w') (hg : B ≤ g) (hh : B ≤ h) (hB : B ≤ w.heap.size) : Below B w w' :=
  ⟨t.os, t.tape, t.output, t.size, fun k hk => t.block k (by omega) (by omega) (by omega)⟩
theorem Tch.of_below {g h : Nat} {w w' : World} (b : Below w.heap.size w w') : Tch g h w w' := ⟨b.os, b.tape, b.output, b.size, fun k hk _ _ => b.block k hk⟩
theorem Tch.set1 {g h : Nat} (w : World) (j : Nat) (v : Value) : Tch g h w (w.setCell ⟨g, j, none⟩ v) := by
  have b := (Below.refl 0 w).setCell (p := ⟨g, j, none⟩) (Nat.zero_le _) v
  exact ⟨b.os, b.tape, b.output, b.size, fun k _ e1 _ => Below.heap_setCell w ⟨g, j, none⟩ v k e1⟩
theorem Tch.set2 {g h : Nat} (w : World) (j : Nat) (v : Value) : Tch g h w (w.setCell ⟨h, j, none⟩ v) := by
  have b := (Below.refl 0 w).setCell (p := ⟨h, j, none⟩) (Nat.zero_le _) v
  exact ⟨b.os, b.tape, b.output, b.size, fun k _ _ e2 => Below.heap_setCell w ⟨h, j, none⟩ v k e2⟩
theorem Tch.drewN {g h : Nat} {w w' : World} (t : Tch g h w w') (n : Nat) : Tch g h w (w'.drewN n) := ⟨t.os, t.tape, t.output, t.size, t.block⟩
theorem Blk.tch {w w' : World} {g h k : Nat} {arr : Array Value} {T : TypeId} (b : Blk w k arr T) (t : Tch g h w w') (e1 : k ≠ g) (e2 : k ≠ h) : Blk w' k arr T := b.keep (t.block k b.lt e1 e2)
theorem RdN.tch {w w' : World} {v : Value} {xs : List Nd} {g h : Nat} (r : RdN w v xs) (t : Tch g h w w') (e1 : v.ownBlock ≠ some g) (e2 : v.ownBlock ≠ some h) : RdN w' v xs :=
  r.keep (fun k hlt hk => t.block k hlt (fun e => e1 (by rw [hk, e])) (fun e => e2 (by rw [hk, e]))) t.size

/-- A dense store. -/
def Dn (w : World) (g h : Nat) (l used total : Int) (cs : List Int) : Prop :=
  Blk w g #[.int .i64 l, .int .i64 used, .int .i64 total, .slice (some ⟨h, 0, none⟩) cs.length cs.length] 149 ∧ Blk w h (icells cs) 3 ∧ g ≠ h
theorem Dn.tch {w w' : World} {g h g' h' : Nat} {l u t : Int} {cs : List Int} (d : Dn w g h l u t cs) (tc : Tch g' h' w w') (e1 : g ≠ g') (e2 : g ≠ h') (e3 : h ≠ g') (e4 : h ≠ h') : Dn w' g h l u t cs :=
  ⟨d.1.tch tc e1 e2, d.2.1.tch tc e3 e4, d.2.2⟩
theorem Dn.below {w w' : World} {g h B : Nat} {l u t : Int} {cs : List Int} (d : Dn w g h l u t cs) (b : Below B w w') (hB : w.heap.size ≤ B) : Dn w' g h l u t cs :=
  ⟨d.1.below b hB, d.2.1.below b hB, d.2.2⟩
theorem Dn.drewN {w : World} {g h : Nat} {l u t : Int} {cs : List Int} (d : Dn w g h l u t cs) (n : Nat) : Dn (w.drewN n) g h l u t cs := d

namespace Nl
def isum : List Int → Int
  | [] => 0
  | n :: r => n + isum r
def nnz : List Int → Int
  | [] => 0
  | n :: r => (if 0 < n then 1 else 0) + nnz r
/-- What holds of a dense store. -/
structure Dv (l used total : Int) (cs : List Int) : Prop where
  l1 : 1 ≤ l
  l2 : l ≤ 16
  len : cs.length = 2 * 2 ^ l.toNat
  pos : ∀ x ∈ cs, 0 ≤ x
  first : cs.getD 0 0 = 0
  tot : total = isum cs
  most : total ≤ 72057594037927935
  used : used = nnz cs
def dGet (l : Int) (cs : List Int) (id : Int) : Int := if rightB l id then cs.getD id.toNat 0 else 0
end Nl

theorem right_nat {l id : Int} (h : rightB l id = true) : ∃ n : Nat, id = n ∧ 1 ≤ n ∧ n < 2 * 2 ^ l.toNat := by
  simp only [rightB, decide_eq_true_eq] at h
  obtain ⟨n, rfl⟩ := Int.eq_ofNat_of_zero_le (show 0 ≤ id by omega)
  refine ⟨n, rfl, by omega, ?_⟩
  have e : (2 : Int) * 2 ^ l.toNat = ((2 * 2 ^ l.toNat : Nat) : Int) := by simp
  rw [e] at h
  omega

theorem Try.infoInt : (Try.prog.info? 3).map (fun i => (i.zero, i.size, i.bytes)) = some (some (.int .i64 0), 1, 8) := by kernel_rfl

theorem make_ints (n : Nat) (hn : n ≤ 1000000) (w : World) : (Instr.makeSlice 22 (.int .i64 n) (.int .i64 n)).run Try.prog w = .ok (.slice (some ⟨w.heap.size, 0, none⟩) n n) (w.alloc (.cells (icells (List.replicate n 0)) 3)) := by
  obtain ⟨i0, hi, hz0, hz1, hz2⟩ := info_parts Try.infoInt
  have h := run_make (P := Try.prog) w 22 3 i0 (.int .i64 0) Try.underlying22 hi hz0 .i64 .i64 n n (by omega) (by omega) (by rw [hz2]; omega) (by omega)
  rw [h, hz1]
  simp [Value.cells, icells_made]

set_option maxHeartbeats 400000 in
theorem d_l {w : World} {g h : Nat} {l u t : Int} {cs : List Int} (d : Dn w g h l u t cs) :
    Calls Try.prog 124 #[.pointer (some ⟨g, 0, none⟩)] w fun e w' => e = .returned (.int .i64 l) ∧ w = w' := by
  have c0 : w.cell? ⟨g, 0, none⟩ = some (.int .i64 l) := d.1.cell 0
  go_enter Try.func124, Try.ntmps124
  go_wp2
  go_ret
  exact ⟨rfl, rfl⟩
set_option maxHeartbeats 400000 in
theorem d_len {w : World} {g h : Nat} {l u t : Int} {cs : List Int} (d : Dn w g h l u t cs) :
    Calls Try.prog 105 #[.pointer (some ⟨g, 0, none⟩)] w fun e w' => e = .returned (.int .i64 u) ∧ w = w' := by
  have c0 : w.cell? ⟨g, 1, none⟩ = some (.int .i64 u) := d.1.cell 1
  go_enter Try.func105, Try.ntmps105
  go_wp2
  go_ret
  exact ⟨rfl, rfl⟩
set_option maxHeartbeats 400000 in
theorem d_total {w : World} {g h : Nat} {l u t : Int} {cs : List Int} (d : Dn w g h l u t cs) :
    Calls Try.prog 103 #[.pointer (some ⟨g, 0, none⟩)] w fun e w' => e = .returned (.int .i64 t) ∧ w = w' := by
  have c0 : w.cell? ⟨g, 2, none⟩ = some (.int .i64 t) := d.1.cell 2
  go_enter Try.func103, Try.ntmps103
  go_wp2
  go_ret
  exact ⟨rfl, rfl⟩

set_option maxHeartbeats 400000 in
theorem d_get {w : World} {g h : Nat} {l u t : Int} {cs : List Int} (id : Int) (d : Dn w g h l u t cs) (v : Dv l u t cs) (bi : -9223372036854775808 ≤ id ∧ id ≤ 9223372036854775807) :
    Calls Try.prog 131 #[.pointer (some ⟨g, 0, none⟩), .int .i64 id] w fun e w' => e = .returned (.int .i64 (dGet l cs id)) ∧ w = w' := by
  have c0 : w.cell? ⟨g, 0, none⟩ = some (.int .i64 l) := d.1.cell 0
  have c3 : w.cell? ⟨g, 3, none⟩ = some (.slice (some ⟨h, 0, none⟩) cs.length cs.length) := d.1.cell 3
  have hl1 := v.l1
  have hl2 := v.l2
  obtain ⟨r, er⟩ : ∃ r, rightB l id = r := ⟨_, rfl⟩
  have Er := hid er
  cases r
  · have e : dGet l cs id = 0 := by unfold dGet; rw [er]; rfl
    rw [e]
    clear er e
    go_enter Try.func131, Try.ntmps131
    go_wp2_with fail
    refine (twig_right l id w (by omega) (by omega) bi.1 bi.2).mono ?_
    rintro e w' ⟨rfl, rfl⟩
    rw [Er.out]
    go_wp2_with fail
    go_ret
    exact ⟨rfl, rfl⟩
  · obtain ⟨n, rfl, hn1, hn2⟩ := right_nat er
    have hn3 : n < cs.length := by rw [v.len]; exact hn2
    have e : dGet l cs n = cs.getD n 0 := by unfold dGet; rw [er]; rfl
    have c4 : w.cell? ⟨h, n, none⟩ = some (.int .i64 (cs.getD n 0)) := (d.2.1.cell n).trans (icells_get cs n hn3)
    rw [e]
    clear er e hn2
    generalize cs.getD n 0 = x at *
    go_enter Try.func131, Try.ntmps131
    go_wp2_with fail
    refine (twig_right l n w (by omega) (by omega) bi.1 bi.2).mono ?_
    rintro e w' ⟨rfl, rfl⟩
    rw [Er.out]
    go_wp2_with fail
    go_ret
    exact ⟨rfl, rfl⟩
end Go.Proofs.Ytejoecoenehooaa
