/- Texts laid together. -/
import Derived.Test.YtdnlejboijkcfaaGreatDoorP01
import Derived.Laws.MakeOwn
import Derived.StillTailTactics
import Derived.Laws.CopyOwn
/- Texts laid together: Dense1, Dense2, Dense3, Dense4. -/
/- The walks of the dense store: New, L, Len, Total, Get, Add, Take. -/
namespace Go.Proofs.YtdnlejboijkcfaaGreatDoor
set_option maxHeartbeats 8000000
set_option maxRecDepth 100000
open Go.RowKit Nl
def icells (cs : List Int) : Array Value := (cs.map fun n => Value.int .i64 n).toArray
theorem icells_get (cs : List Int) (k : Nat) (hk : k < cs.length) : (icells cs)[k]? = some (.int .i64 (cs.getD k 0)) := by
  simp [icells, List.getElem?_eq_getElem hk]
theorem icells_set (cs : List Int) (k : Nat) (c : Int) : (icells cs).setIfInBounds k (.int .i64 c) = icells (cs.set k c) := by
  apply Array.ext'
  simp [icells, List.map_set]
theorem icells_made (n : Nat) : madeCells #[.int .i64 0] n = icells (List.replicate n 0) := by
  apply Array.ext
  · simp [madeCells, icells]
  · intro i h1 h2
    simp [madeCells, icells, Nat.mod_one]
structure Tch (g h : Nat) (w w' : World) : Prop where
  os : w'.os = w.os
  tape : w'.tape = w.tape
  output : w'.output = w.output
  size : w.heap.size ≤ w'.heap.size
  block : ∀ k, k < w.heap.size → k ≠ g → k ≠ h → w'.heap[k]? = w.heap[k]?
theorem Tch.refl (g h : Nat) (w : World) : Tch g h w w := ⟨rfl, rfl, rfl, nlr, fun _ _ _ _ => rfl⟩
theorem Tch.trans {g h : Nat} {a b c : World} (h1 : Tch g h a b) (h2 : Tch g h b c) : Tch g h a c :=
  ⟨h2.os.trans h1.os, h2.tape.trans h1.tape, h2.output.trans h1.output, Nat.le_trans h1.size h2.size, fun k hk e1 e2 => (h2.block k (Nat.lt_of_lt_of_le hk h1.size) e1 e2).trans (h1.block k hk e1 e2)⟩
theorem Tch.below {g h B : Nat} {w w' : World} (t : Tch g h w w') (hg : B ≤ g) (hh : B ≤ h) (hB : B ≤ w.heap.size) : Below B w w' :=
  ⟨t.os, t.tape, t.output, t.size, fun k hk => t.block k (by omega) (by omega) (by omega)⟩
theorem Tch.of_below {g h : Nat} {w w' : World} (b : Below w.heap.size w w') : Tch g h w w' := ⟨b.os, b.tape, b.output, b.size, fun k hk _ _ => b.block k hk⟩
theorem Tch.set1 {g h : Nat} (w : World) (j : Nat) (v : Value) : Tch g h w (w.setCell ⟨g, j, none⟩ v) := by
  have b := (Below.refl 0 w).setCell (p := ⟨g, j, none⟩) (Nat.zero_le _) v
  exact ⟨b.os, b.tape, b.output, b.size, fun k _ e1 _ => Below.heap_setCell w ⟨g, j, none⟩ v k e1⟩
theorem Tch.set2 {g h : Nat} (w : World) (j : Nat) (v : Value) : Tch g h w (w.setCell ⟨h, j, none⟩ v) := by
  have b := (Below.refl 0 w).setCell (p := ⟨h, j, none⟩) (Nat.zero_le _) v
  exact ⟨b.os, b.tape, b.output, b.size, fun k _ _ e2 => Below.heap_setCell w ⟨h, j, none⟩ v k e2⟩
theorem Tch.drewN {g h : Nat} {w w' : World} (t : Tch g h w w') (n : Nat) : Tch g h w (w'.drewN n) := ⟨t.os, t.tape, t.output, t.size, t.block⟩
theorem Blk.tch {w w' : World} {g h k : Nat} {arr : Array Value} {T : TypeId} (b : Blk w k arr T) (t : Tch g h w w') (e1 : k ≠ g) (e2 : k ≠ h) : Blk w' k arr T := b.keep (t.block k b.lt e1 e2)
theorem RdN.tch {w w' : World} {v : Value} {xs : List Nd} {g h : Nat} (r : RdN w v xs) (t : Tch g h w w') (e1 : v.ownBlock ≠ some g) (e2 : v.ownBlock ≠ some h) : RdN w' v xs :=
  r.keep (fun k hlt hk => t.block k hlt (fun e => e1 (by rw [hk, e])) (fun e => e2 (by rw [hk, e]))) t.size
def Dn (w : World) (g h : Nat) (l used total : Int) (cs : List Int) : Prop :=
  Blk w g #[.int .i64 l, .int .i64 used, .int .i64 total, .slice (some ⟨h, 0, none⟩) cs.length cs.length] 214 ∧ Blk w h (icells cs) 3 ∧ g ≠ h
theorem Dn.tch {w w' : World} {g h g' h' : Nat} {l u t : Int} {cs : List Int} (d : Dn w g h l u t cs) (tc : Tch g' h' w w') (e1 : g ≠ g') (e2 : g ≠ h') (e3 : h ≠ g') (e4 : h ≠ h') : Dn w' g h l u t cs :=
  ⟨d.1.tch tc e1 e2, d.2.1.tch tc e3 e4, d.2.2⟩
theorem Dn.below {w w' : World} {g h B : Nat} {l u t : Int} {cs : List Int} (d : Dn w g h l u t cs) (b : Below B w w') (hB : w.heap.size ≤ B) : Dn w' g h l u t cs :=
  ⟨d.1.below b hB, d.2.1.below b hB, d.2.2⟩
namespace Nl
def isum : List Int → Int
  | [] => 0
  | n :: r => n + isum r
def nnz : List Int → Int
  | [] => 0
  | n :: r => (if 0 < n then 1 else 0) + nnz r
structure Dv (l used total : Int) (cs : List Int) : Prop where
  l1 : 1 ≤ l
  l2 : l ≤ 16
  len : cs.length = 2 * 2 ^ l.toNat
  pos : ∀ x ∈ cs, 0 ≤ x
  first : cs.getD 0 0 = 0
  tot : total = isum cs
  most : total ≤ 72057594037927935
  used : used = nnz cs
def dGet (l : Int) (cs : List Int) (id : Int) : Int := if rightB l id then cs.getD id.toNat 0 else 0
end Nl
theorem right_nat {l id : Int} (h : rightB l id = true) : ∃ n : Nat, id = n ∧ 1 ≤ n ∧ n < 2 * 2 ^ l.toNat := by
  simp only [rightB, decide_eq_true_eq] at h
  obtain ⟨n, rfl⟩ := Int.eq_ofNat_of_zero_le (show 0 ≤ id by omega)
  refine ⟨n, rfl, by omega, ?_⟩
  have e : (2 : Int) * 2 ^ l.toNat = ((2 * 2 ^ l.toNat : Nat) : Int) := by simp
  rw [e] at h
  omega
theorem Tryz.infoInt : (Tryz.prog.info? 3).map (fun i => (i.zero, i.size, i.bytes)) = some (some (.int .i64 0), 1, 8) := by kernel_rfl
theorem make_ints (n : Nat) (hn : n ≤ 1000000) (w : World) : (Instr.makeSlice 22 (.int .i64 n) (.int .i64 n)).run Tryz.prog w = .ok (.slice (some ⟨w.heap.size, 0, none⟩) n n) (w.alloc (.cells (icells (List.replicate n 0)) 3)) := by
  obtain ⟨i0, hi, hz0, hz1, hz2⟩ := info_parts Tryz.infoInt
  have h := run_make (P := Tryz.prog) w 22 3 i0 (.int .i64 0) Tryz.underlying22 hi hz0 .i64 .i64 n n (by omega) (by omega) (by rw [hz2]; omega) (by omega)
  rw [h, hz1]
  simp [Value.cells, icells_made]
theorem d_l {w : World} {g h : Nat} {l u t : Int} {cs : List Int} (d : Dn w g h l u t cs) :
    Calls Tryz.prog 113 #[.pointer (some ⟨g, 0, none⟩)] w fun e w' => e = .returned (.int .i64 l) ∧ w = w' := by
  have c0 : w.cell? ⟨g, 0, none⟩ = some (.int .i64 l) := d.1.cell 0
  go_enter Tryz.func113, Tryz.ntmps113
  go_wp2
  go_ret
  exact ⟨rfl, rfl⟩
theorem d_len {w : World} {g h : Nat} {l u t : Int} {cs : List Int} (d : Dn w g h l u t cs) :
    Calls Tryz.prog 156 #[.pointer (some ⟨g, 0, none⟩)] w fun e w' => e = .returned (.int .i64 u) ∧ w = w' := by
  have c0 : w.cell? ⟨g, 1, none⟩ = some (.int .i64 u) := d.1.cell 1
  go_enter Tryz.func156, Tryz.ntmps156
  go_wp2
  go_ret
  exact ⟨rfl, rfl⟩
theorem d_total {w : World} {g h : Nat} {l u t : Int} {cs : List Int} (d : Dn w g h l u t cs) :
    Calls Tryz.prog 99 #[.pointer (some ⟨g, 0, none⟩)] w fun e w' => e = .returned (.int .i64 t) ∧ w = w' := by
  have c0 : w.cell? ⟨g, 2, none⟩ = some (.int .i64 t) := d.1.cell 2
  go_enter Tryz.func99, Tryz.ntmps99
  go_wp2
  go_ret
  exact ⟨rfl, rfl⟩
theorem d_get {w : World} {g h : Nat} {l u t : Int} {cs : List Int} (id : Int) (d : Dn w g h l u t cs) (v : Dv l u t cs) (bi : -9223372036854775808 ≤ id ∧ id ≤ 9223372036854775807) :
    Calls Tryz.prog 115 #[.pointer (some ⟨g, 0, none⟩), .int .i64 id] w fun e w' => e = .returned (.int .i64 (dGet l cs id)) ∧ w = w' := by
  have c0 : w.cell? ⟨g, 0, none⟩ = some (.int .i64 l) := d.1.cell 0
  have c3 : w.cell? ⟨g, 3, none⟩ = some (.slice (some ⟨h, 0, none⟩) cs.length cs.length) := d.1.cell 3
  have hl1 := v.l1
  have hl2 := v.l2
  obtain ⟨r, er⟩ : ∃ r, rightB l id = r := ⟨_, rfl⟩
  have Er := hid er
  cases r
  · have e : dGet l cs id = 0 := by unfold dGet; rw [er]; rfl
    rw [e]
    clear er e
    go_enter Tryz.func115, Tryz.ntmps115
    go_wp2_with fail
    refine (twig_right l id w (by omega) (by omega) bi.1 bi.2).mono ?_
    rintro e w' ⟨rfl, rfl⟩
    rw [Er.out]
    go_wp2_with fail
    go_ret
    exact ⟨rfl, rfl⟩
  · obtain ⟨n, rfl, hn1, hn2⟩ := right_nat er
    have hn3 : n < cs.length := by rw [v.len]; exact hn2
    have e : dGet l cs n = cs.getD n 0 := by unfold dGet; rw [er]; rfl
    have c4 : w.cell? ⟨h, n, none⟩ = some (.int .i64 (cs.getD n 0)) := (d.2.1.cell n).trans (icells_get cs n hn3)
    rw [e]
    clear er e hn2
    generalize cs.getD n 0 = x at *
    go_enter Tryz.func115, Tryz.ntmps115
    go_wp2_with fail
    refine (twig_right l n w (by omega) (by omega) bi.1 bi.2).mono ?_
    rintro e w' ⟨rfl, rfl⟩
    rw [Er.out]
    go_wp2_with fail
    go_ret
    exact ⟨rfl, rfl⟩
end Go.Proofs.YtdnlejboijkcfaaGreatDoor
/- The walks of the dense store: Add, Take, New. -/
namespace Go.Proofs.YtdnlejboijkcfaaGreatDoor
set_option maxHeartbeats 8000000
set_option maxRecDepth 100000
open Go.RowKit Nl
namespace Nl
theorem isum_set (cs : List Int) (k : Nat) (x : Int) (hk : k < cs.length) : isum (cs.set k x) = isum cs - cs.getD k 0 + x := by
  induction cs generalizing k with
  | nil => simp at hk
  | cons n r ih =>
    cases k with
    | zero => simp [isum]; omega
    | succ k => have := ih k (by simpa using hk); simp only [List.set_cons_succ, isum, List.getD_cons_succ, this]; omega
theorem nnz_set (cs : List Int) (k : Nat) (x : Int) (hk : k < cs.length) : nnz (cs.set k x) = nnz cs - (if 0 < cs.getD k 0 then 1 else 0) + (if 0 < x then 1 else 0) := by
  induction cs generalizing k with
  | nil => simp at hk
  | cons n r ih =>
    cases k with
    | zero => simp [nnz]; omega
    | succ k => have := ih k (by simpa using hk); simp only [List.set_cons_succ, nnz, List.getD_cons_succ, this]; omega
theorem nnz_le (cs : List Int) : 0 ≤ nnz cs ∧ nnz cs ≤ cs.length := by
  induction cs with
  | nil => simp [nnz]
  | cons n r ih => simp only [nnz, List.length_cons]; split <;> omega
theorem isum_nonneg {cs : List Int} (h : ∀ x ∈ cs, 0 ≤ x) : 0 ≤ isum cs := by
  induction cs with
  | nil => simp [isum]
  | cons n r ih =>
    have h1 := h n (by simp)
    have h2 := ih (fun y hy => h y (by simp [hy]))
    simp only [isum]; omega
theorem le_isum {cs : List Int} (h : ∀ x ∈ cs, 0 ≤ x) : ∀ x ∈ cs, x ≤ isum cs := by
  induction cs with
  | nil => intro x hx; cases hx
  | cons n r ih =>
    intro x hx
    have h1 := h n (by simp)
    have h2 := isum_nonneg (fun y hy => h y (List.mem_cons_of_mem _ hy) : ∀ y ∈ r, 0 ≤ y)
    simp only [isum]
    cases hx with
    | head => omega
    | tail _ hx => have := ih (fun y hy => h y (List.mem_cons_of_mem _ hy)) x hx; omega
theorem getD_mem' (cs : List Int) (k : Nat) (hk : k < cs.length) : cs.getD k 0 ∈ cs := by
  rw [show cs.getD k 0 = cs[k] by simp [List.getD, List.getElem?_eq_getElem hk]]
  exact List.getElem_mem hk
theorem Dv.bound {l u t : Int} {cs : List Int} (v : Dv l u t cs) : 0 ≤ t ∧ 0 ≤ u ∧ u ≤ 131072 ∧ cs.length ≤ 131072 := by
  have h1 := isum_nonneg v.pos
  have h2 := nnz_le cs
  have h3 := v.tot
  have h4 := v.used
  have h5 : (2 : Nat) ^ l.toNat ≤ 2 ^ 16 := Nat.pow_le_pow_right (by omega) (by have := v.l2; omega)
  have h6 : (2 : Nat) ^ 16 = 65536 := rfl
  have h7 := v.len
  omega
theorem Dv.at {l u t : Int} {cs : List Int} (v : Dv l u t cs) (n : Nat) (hn : n < cs.length) : 0 ≤ cs.getD n 0 ∧ cs.getD n 0 ≤ t := by
  refine ⟨v.pos _ (getD_mem' cs n hn), ?_⟩
  rw [v.tot]; exact le_isum v.pos _ (getD_mem' cs n hn)
theorem Dv.set {l u t : Int} {cs : List Int} (v : Dv l u t cs) (n : Nat) (x : Int) (hn : n < cs.length) (h1 : 1 ≤ n) (hx : 0 ≤ x) (hm : t - cs.getD n 0 + x ≤ 72057594037927935) :
    Dv l (u - (if 0 < cs.getD n 0 then 1 else 0) + (if 0 < x then 1 else 0)) (t - cs.getD n 0 + x) (cs.set n x) where
  l1 := v.l1
  l2 := v.l2
  len := by simpa using v.len
  pos := fun y hy => by
    rcases List.mem_or_eq_of_mem_set hy with h | h
    · exact v.pos y h
    · rw [h]; exact hx
  first := by
    have := v.first
    cases cs with
    | nil => simp at hn
    | cons a r => obtain ⟨m, rfl⟩ : ∃ m, n = m + 1 := ⟨n - 1, by omega⟩; simpa using this
  tot := by rw [isum_set cs n x hn, v.tot]
  most := hm
  used := by rw [nnz_set cs n x hn, v.used]
def dAddCode (l : Int) (cs : List Int) (id c : Int) : Int := if rightB l id = false ∨ c < 0 then 2 else if 72057594037927935 < isum cs + c then 5 else 0
def dAdd (l : Int) (cs : List Int) (id c : Int) : List Int := if dAddCode l cs id c = 0 then cs.set id.toNat (cs.getD id.toNat 0 + c) else cs
def dTake (l : Int) (cs : List Int) (id : Int) : List Int := if rightB l id then cs.set id.toNat 0 else cs
end Nl
def DnV (w : World) (g h : Nat) (l : Int) (cs : List Int) : Prop := ∃ u t, Dn w g h l u t cs ∧ Dv l u t cs
theorem d_add {w : World} {g h : Nat} {l u t : Int} {cs : List Int} (id c : Int) (d : Dn w g h l u t cs) (v : Dv l u t cs) (bi : -9223372036854775808 ≤ id ∧ id ≤ 9223372036854775807) (bc : -9223372036854775808 ≤ c ∧ c ≤ 9223372036854775807) :
    Calls Tryz.prog 119 #[.pointer (some ⟨g, 0, none⟩), .int .i64 id, .int .i64 c] w fun e w' => e = .returned (.int .i64 (dAddCode l cs id c)) ∧ DnV w' g h l (dAdd l cs id c) ∧ Tch g h w w' := by
  have c0 : w.cell? ⟨g, 0, none⟩ = some (.int .i64 l) := d.1.cell 0
  have c1 : w.cell? ⟨g, 1, none⟩ = some (.int .i64 u) := d.1.cell 1
  have c2 : w.cell? ⟨g, 2, none⟩ = some (.int .i64 t) := d.1.cell 2
  have c3 : w.cell? ⟨g, 3, none⟩ = some (.slice (some ⟨h, 0, none⟩) cs.length cs.length) := d.1.cell 3
  have hl1 := v.l1
  have hl2 := v.l2
  have hbd := v.bound
  have hm := v.most
  have ht := hid v.tot
  obtain ⟨r, er⟩ : ∃ r, rightB l id = r := ⟨_, rfl⟩
  have Er := hid er
  cases r
  · have e : dAddCode l cs id c = 2 := by unfold dAddCode; rw [if_pos (.inl er)]
    have e2 : dAdd l cs id c = cs := by unfold dAdd; rw [e, if_neg (by decide)]
    rw [e, e2]
    clear er e e2
    go_enter Tryz.func119, Tryz.ntmps119
    go_wp2_with fail
    refine (twig_right l id w (by omega) (by omega) bi.1 bi.2).mono ?_
    rintro e w' ⟨rfl, rfl⟩
    rw [Er.out]
    go_wp2_with fail
    go_ret
    exact ⟨rfl, ⟨u, t, d, v⟩, Tch.refl _ _ _⟩
  · by_cases h1 : c < 0
    · have e : dAddCode l cs id c = 2 := by unfold dAddCode; rw [if_pos (.inr h1)]
      have e2 : dAdd l cs id c = cs := by unfold dAdd; rw [e, if_neg (by decide)]
      rw [e, e2]
      clear er e e2
      go_enter Tryz.func119, Tryz.ntmps119
      go_wp2_with fail
      refine (twig_right l id w (by omega) (by omega) bi.1 bi.2).mono ?_
      rintro e w' ⟨rfl, rfl⟩
      rw [Er.out]
      go_wp2_with fail
      go_ret
      exact ⟨rfl, ⟨u, t, d, v⟩, Tch.refl _ _ _⟩
    · obtain ⟨o, eo⟩ : ∃ o, addOk t c = o := ⟨_, rfl⟩
      have Eo := hid eo
      cases o
      · have hx : 72057594037927935 < isum cs + c := by
          have := ht.out
          simp only [addOk, decide_eq_false_iff_not] at eo
          omega
        have e : dAddCode l cs id c = 5 := by unfold dAddCode; rw [if_neg (by rw [er]; simp; omega), if_pos hx]
        have e2 : dAdd l cs id c = cs := by unfold dAdd; rw [e, if_neg (by decide)]
        rw [e, e2]
        clear er e e2 hx eo
        go_enter Tryz.func119, Tryz.ntmps119
        go_wp2_with fail
        refine (twig_right l id w (by omega) (by omega) bi.1 bi.2).mono ?_
        rintro e w' ⟨rfl, rfl⟩
        rw [Er.out]
        go_wp2_with fail
        refine (add_any t c w (by omega) (by omega) bc.1 bc.2).mono ?_
        rintro e w' ⟨rfl, rfl⟩
        rw [Eo.out]
        go_wp2_with fail
        go_ret
        exact ⟨rfl, ⟨u, t, d, v⟩, Tch.refl _ _ _⟩
      · have ev : addV t c = t + c := by unfold addV; rw [eo]; rfl
        have Ev := hid ev
        by_cases h2 : 72057594037927935 < t + c
        · have hx : 72057594037927935 < isum cs + c := by rw [← ht.out]; exact h2
          have e : dAddCode l cs id c = 5 := by unfold dAddCode; rw [if_neg (by rw [er]; simp; omega), if_pos hx]
          have e2 : dAdd l cs id c = cs := by unfold dAdd; rw [e, if_neg (by decide)]
          rw [e, e2]
          clear er e e2 hx eo ev
          go_enter Tryz.func119, Tryz.ntmps119
          go_wp2_with fail
          refine (twig_right l id w (by omega) (by omega) bi.1 bi.2).mono ?_
          rintro e w' ⟨rfl, rfl⟩
          rw [Er.out]
          go_wp2_with fail
          refine (add_any t c w (by omega) (by omega) bc.1 bc.2).mono ?_
          rintro e w' ⟨rfl, rfl⟩
          rw [Eo.out, Ev.out]
          go_wp2_with fail
          go_ret
          exact ⟨rfl, ⟨u, t, d, v⟩, Tch.refl _ _ _⟩
        · obtain ⟨n, rfl, hn1, hn2⟩ := right_nat er
          have hn3 : n < cs.length := by rw [v.len]; exact hn2
          have c4 : w.cell? ⟨h, n, none⟩ = some (.int .i64 (cs.getD n 0)) := (d.2.1.cell n).trans (icells_get cs n hn3)
          have f1 := d.1.free 1
          have f2 := d.1.free 2
          have f3 := d.2.1.free n
          have e : dAddCode l cs n c = 0 := by unfold dAddCode; rw [if_neg (by rw [er]; simp; omega), if_neg (by rw [← ht.out]; exact h2)]
          have e2 : dAdd l cs n c = cs.set n (cs.getD n 0 + c) := by unfold dAdd; rw [if_pos e]; rfl
          rw [e, e2]
          have hx := v.at n hn3
          have V := fun q => v.set n (cs.getD n 0 + c) hn3 hn1 q (by omega)
          have V2 := V (by omega)
          have V3 := hid V2
          have e5 := hid (icells_set cs n (cs.getD n 0 + c))
          have e6 : Hid ((cs.set n (cs.getD n 0 + c)).length = cs.length) := by show _ = _; simp
          have hgh := d.2.2
          have hlg := d.1.lt
          have hlh := d.2.1.lt
          have D1 := d.1
          have D2 := d.2.1
          clear V V2 v er e e2 ev eo hn2
          obtain ⟨cs', ecs⟩ : ∃ cs', cs.set n (cs.getD n 0 + c) = cs' := ⟨_, rfl⟩
          rw [ecs] at V3 e5 e6 ⊢
          clear ecs
          generalize hxx : cs.getD n 0 = x at *
          clear hxx
          by_cases h3 : x = 0
          · have h5 : (x == 0) = true := by simpa using h3
            have H3 := hid h3
            clear h3
            by_cases h4 : 0 < c
            · go_enter Tryz.func119, Tryz.ntmps119
              go_wp2_with fail
              refine (twig_right l n w (by omega) (by omega) bi.1 bi.2).mono ?_
              rintro e w' ⟨rfl, rfl⟩
              rw [Er.out]
              go_wp2_with fail
              refine (add_any t c w (by omega) (by omega) bc.1 bc.2).mono ?_
              rintro e w' ⟨rfl, rfl⟩
              rw [Eo.out, Ev.out]
              go_wp2_with fail
              go_ret
              have B1 := ((D1.set 1 (.int .i64 (u + 1))).set_other (g' := h) n (.int .i64 (x + c)) hgh).set 2 (.int .i64 (t + c))
              have B2 := ((D2.set_other (g' := g) 1 (.int .i64 (u + 1)) (Ne.symm hgh)).set n (.int .i64 (x + c))).set_other (g' := g) 2 (.int .i64 (t + c)) (Ne.symm hgh)
              rw [e5.out] at B2
              have T1 := ((Tch.set1 (g := g) (h := h) w 1 (.int .i64 (u + 1))).trans (Tch.set2 _ n (.int .i64 (x + c)))).trans (Tch.set1 _ 2 (.int .i64 (t + c)))
              refine ⟨rfl, ⟨u + 1, t + c, ⟨?_, B2, hgh⟩, ?_⟩, T1⟩
              · rw [e6.out]; exact B1
              · have q := V3.out
                rw [if_neg (by rw [H3.out]; decide), if_pos (by omega)] at q
                rw [show u + 1 = u - 0 + 1 by omega, show t + c = t - x + (x + c) by omega]
                exact q
            · go_enter Tryz.func119, Tryz.ntmps119
              go_wp2_with fail
              refine (twig_right l n w (by omega) (by omega) bi.1 bi.2).mono ?_
              rintro e w' ⟨rfl, rfl⟩
              rw [Er.out]
              go_wp2_with fail
              refine (add_any t c w (by omega) (by omega) bc.1 bc.2).mono ?_
              rintro e w' ⟨rfl, rfl⟩
              rw [Eo.out, Ev.out]
              go_wp2_with fail
              go_ret
              have B1 := (D1.set_other (g' := h) n (.int .i64 (x + c)) hgh).set 2 (.int .i64 (t + c))
              have B2 := (D2.set n (.int .i64 (x + c))).set_other (g' := g) 2 (.int .i64 (t + c)) (Ne.symm hgh)
              rw [e5.out] at B2
              have T1 := (Tch.set2 (g := g) (h := h) w n (.int .i64 (x + c))).trans (Tch.set1 _ 2 (.int .i64 (t + c)))
              refine ⟨rfl, ⟨u, t + c, ⟨?_, B2, hgh⟩, ?_⟩, T1⟩
              · rw [e6.out]; exact B1
              · have q := V3.out
                have hu : u - (if 0 < x then 1 else 0) + (if 0 < x + c then 1 else 0) = u := by
                  have := H3.out
                  split <;> split <;> omega
                rw [hu] at q
                rw [show t + c = t - x + (x + c) by omega]
                exact q
          · have h5 : (x == 0) = false := by simpa using h3
            have H3 := hid h3
            clear h3
            go_enter Tryz.func119, Tryz.ntmps119
            go_wp2_with fail
            refine (twig_right l n w (by omega) (by omega) bi.1 bi.2).mono ?_
            rintro e w' ⟨rfl, rfl⟩
            rw [Er.out]
            go_wp2_with fail
            refine (add_any t c w (by omega) (by omega) bc.1 bc.2).mono ?_
            rintro e w' ⟨rfl, rfl⟩
            rw [Eo.out, Ev.out]
            go_wp2_with fail
            go_ret
            have B1 := (D1.set_other (g' := h) n (.int .i64 (x + c)) hgh).set 2 (.int .i64 (t + c))
            have B2 := (D2.set n (.int .i64 (x + c))).set_other (g' := g) 2 (.int .i64 (t + c)) (Ne.symm hgh)
            rw [e5.out] at B2
            have T1 := (Tch.set2 (g := g) (h := h) w n (.int .i64 (x + c))).trans (Tch.set1 _ 2 (.int .i64 (t + c)))
            refine ⟨rfl, ⟨u, t + c, ⟨?_, B2, hgh⟩, ?_⟩, T1⟩
            · rw [e6.out]; exact B1
            · have q := V3.out
              have hu : u - (if 0 < x then 1 else 0) + (if 0 < x + c then 1 else 0) = u := by
                have := H3.out
                split <;> split <;> omega
              rw [hu] at q
              rw [show t + c = t - x + (x + c) by omega]
              exact q
theorem d_take {w : World} {g h : Nat} {l u t : Int} {cs : List Int} (id : Int) (d : Dn w g h l u t cs) (v : Dv l u t cs) (bi : -9223372036854775808 ≤ id ∧ id ≤ 9223372036854775807) :
    Calls Tryz.prog 232 #[.pointer (some ⟨g, 0, none⟩), .int .i64 id] w fun e w' => e = .returned (.int .i64 (dGet l cs id)) ∧ DnV w' g h l (dTake l cs id) ∧ Tch g h w w' := by
  have c1 : w.cell? ⟨g, 1, none⟩ = some (.int .i64 u) := d.1.cell 1
  have c2 : w.cell? ⟨g, 2, none⟩ = some (.int .i64 t) := d.1.cell 2
  have c3 : w.cell? ⟨g, 3, none⟩ = some (.slice (some ⟨h, 0, none⟩) cs.length cs.length) := d.1.cell 3
  have hbd := v.bound
  have hm := v.most
  obtain ⟨q, eq⟩ : ∃ q, dGet l cs id = q := ⟨_, rfl⟩
  have Eq := hid eq
  by_cases hq : 0 < q
  · have er : rightB l id = true := by
      cases hr : rightB l id
      · rw [← eq] at hq; unfold dGet at hq; rw [hr] at hq; simp at hq
      · rfl
    obtain ⟨n, rfl, hn1, hn2⟩ := right_nat er
    have hn3 : n < cs.length := by rw [v.len]; exact hn2
    have eg : dGet l cs n = cs.getD n 0 := by unfold dGet; rw [er]; rfl
    have c4 : w.cell? ⟨h, n, none⟩ = some (.int .i64 q) := ((d.2.1.cell n).trans (icells_get cs n hn3)).trans (by rw [← eg, eq])
    have f1 := d.1.free 1
    have f2 := d.1.free 2
    have f3 := d.2.1.free n
    have e2 : dTake l cs n = cs.set n 0 := by unfold dTake; rw [er]; rfl
    rw [e2]
    have hx := v.at n hn3
    have V2 := v.set n 0 hn3 hn1 (Int.le_refl _) (by omega)
    rw [← eg, eq] at V2 hx
    have V3 := hid V2
    have e5 := hid (icells_set cs n 0)
    have e6 : Hid ((cs.set n 0).length = cs.length) := by show _ = _; simp
    have hgh := d.2.2
    have D1 := d.1
    have D2 := d.2.1
    have hu : 1 ≤ u := by
      have h1 := V2.used
      have h2 := (nnz_le (cs.set n 0)).1
      rw [if_pos hq] at h1
      simp at h1
      omega
    have G := hid (d_get (n : Int) d v bi)
    clear V2 v er e2 eq eg hn2 d
    obtain ⟨cs', ecs⟩ : ∃ cs', cs.set n 0 = cs' := ⟨_, rfl⟩
    rw [ecs] at V3 e5 e6 ⊢
    clear ecs
    rw [Eq.out] at G ⊢
    go_enter Tryz.func232, Tryz.ntmps232
    go_wp2_with fail
    refine G.out.mono ?_
    rintro e w' ⟨rfl, rfl⟩
    go_wp2_with fail
    go_ret
    have B1 := ((D1.set_other (g' := h) n (.int .i64 0) hgh).set 1 (.int .i64 (u - 1))).set 2 (.int .i64 (t - q))
    have B2 := ((D2.set n (.int .i64 0)).set_other (g' := g) 1 (.int .i64 (u - 1)) (Ne.symm hgh)).set_other (g' := g) 2 (.int .i64 (t - q)) (Ne.symm hgh)
    rw [e5.out] at B2
    have T1 := ((Tch.set2 (g := g) (h := h) w n (.int .i64 0)).trans (Tch.set1 _ 1 (.int .i64 (u - 1)))).trans (Tch.set1 _ 2 (.int .i64 (t - q)))
    refine ⟨rfl, ⟨u - 1, t - q, ⟨?_, B2, hgh⟩, ?_⟩, T1⟩
    · rw [e6.out]; exact B1
    · have p := V3.out
      rw [if_pos hq, if_neg (by decide)] at p
      rw [show u - 1 = u - 1 + 0 by omega, show t - q = t - q + 0 by omega]
      exact p
  · have e2 : dTake l cs id = cs := by
      unfold dTake
      cases er : rightB l id
      · rfl
      · obtain ⟨n, rfl, hn1, hn2⟩ := right_nat er
        have hn3 : n < cs.length := by rw [v.len]; exact hn2
        have eg : dGet l cs n = cs.getD n 0 := by unfold dGet; rw [er]; rfl
        have hx := v.at n hn3
        have hz : cs.getD n 0 = 0 := by rw [← eg, eq] at hx ⊢; omega
        have hz2 : cs[n] = 0 := by simpa [List.getD, List.getElem?_eq_getElem hn3] using hz
        simp only [if_true, Int.toNat_natCast]
        apply List.ext_getElem
        · simp
        · intro i h1 h2
          rw [List.getElem_set]
          split
          · rename_i hi; subst hi; exact hz2.symm
          · rfl
    rw [e2]
    have G := hid (d_get id d v bi)
    rw [Eq.out] at G ⊢
    clear eq e2
    go_enter Tryz.func232, Tryz.ntmps232
    go_wp2_with fail
    refine G.out.mono ?_
    rintro e w' ⟨rfl, rfl⟩
    go_wp2_with fail
    go_ret
    exact ⟨rfl, ⟨u, t, d, v⟩, Tch.refl _ _ _⟩
theorem isum_zeros (n : Nat) : isum (List.replicate n 0) = 0 := by induction n with | zero => rfl | succ n ih => simp [List.replicate_succ, isum, ih]
theorem nnz_zeros (n : Nat) : nnz (List.replicate n 0) = 0 := by induction n with | zero => rfl | succ n ih => simp [List.replicate_succ, nnz, ih]
theorem Dv.new {l : Int} (h1 : 1 ≤ l) (h2 : l ≤ 16) : Dv l 0 0 (List.replicate (2 * 2 ^ l.toNat) 0) where
  l1 := h1
  l2 := h2
  len := by simp
  pos := fun x hx => by rw [List.eq_of_mem_replicate hx]; decide
  first := by
    have : (1 : Nat) ≤ 2 ^ l.toNat := Nat.one_le_two_pow
    obtain ⟨m, hm⟩ : ∃ m, 2 * 2 ^ l.toNat = m + 1 := ⟨2 * 2 ^ l.toNat - 1, by omega⟩
    rw [hm]; rfl
  tot := (isum_zeros _).symm
  most := by decide
  used := (nnz_zeros _).symm
theorem d_new_no (l : Int) (w : World) (h : l < 1 ∨ 16 < l) :
    Calls Tryz.prog 110 #[.int .i64 l] w fun e w' => e = .returned (.tuple #[.pointer none, .int .i64 2]) ∧ w = w' := by
  by_cases h1 : l < 1
  · go_enter Tryz.func110, Tryz.ntmps110
    go_wp2
    go_ret2
    exact ⟨rfl, rfl⟩
  · have h2 : 16 < l := by omega
    go_enter Tryz.func110, Tryz.ntmps110
    go_wp2
    go_ret2
    exact ⟨rfl, rfl⟩
def DNewPost (l : Int) (cs : List Int) (w : World) (e : Ending) (w' : World) : Prop :=
  ∃ g h, e = .returned (.tuple #[.pointer (some ⟨g, 0, none⟩), .int .i64 0]) ∧ DnV w' g h l cs ∧ w.heap.size ≤ g ∧ w.heap.size ≤ h ∧ Below w.heap.size w w'
theorem d_new (l : Int) (w : World) (h1 : 1 ≤ l) (h2 : l ≤ 16) :
    Calls Tryz.prog 110 #[.int .i64 l] w (DNewPost l (List.replicate (2 * 2 ^ l.toNat) 0) w) := by
  have V := hid (Dv.new h1 h2)
  obtain ⟨n, rfl⟩ := Int.eq_ofNat_of_zero_le (show 0 ≤ l by omega)
  have hp : (2 : Nat) ^ n ≤ 2 ^ 16 := Nat.pow_le_pow_right (by omega) (by omega)
  have hp2 : (2 : Nat) ^ 16 = 65536 := rfl
  have hwr : wrap64 (2 * 2 ^ n) = ((2 * 2 ^ n : Nat) : Int) := by
    rw [show (2 : Int) * 2 ^ n = ((2 * 2 ^ n : Nat) : Int) by simp]
    exact IntWalk.wrap64_in _ ⟨by omega, by omega⟩
  have hmk := make_ints (2 * 2 ^ n) (by omega)
  rw [← hwr] at hmk
  have hN : 2 * 2 ^ n ≤ 131072 := by omega
  simp only [Int.toNat_natCast] at V ⊢
  generalize 2 * 2 ^ n = N at *
  clear hwr hp
  go_enter Tryz.func110, Tryz.ntmps110
  go_wp2
  have hlen : (List.replicate N (0 : Int)).length = N := by simp
  refine bodyPost_ret (v := .tuple #[.pointer (some ⟨w.heap.size + 1, 0, none⟩), .int .i64 0]) (by simp [results, Tryz.results110, go_sem]) rfl ⟨w.heap.size + 1, w.heap.size, rfl, ⟨0, 0, ⟨?_, (Blk.new _ _ _).alloc _, by omega⟩, V.out⟩, by omega, nlr, ((Below.refl _ _).alloc nlr _).alloc (by simp) _⟩
  rw [hlen]
  have h := Blk.new (w.alloc (Obj.cells (icells (List.replicate N 0)) 3)) #[.int .i64 n, .int .i64 0, .int .i64 0, .slice (some ⟨w.heap.size, 0, none⟩) N N] 214
  simpa using h
end Go.Proofs.YtdnlejboijkcfaaGreatDoor
/- The walks of the dense store: Snap, Clone. -/
namespace Go.Proofs.YtdnlejboijkcfaaGreatDoor
set_option maxHeartbeats 8000000
set_option maxRecDepth 100000
open Go.RowKit Nl
namespace Nl
def snapF : Nat → List Int → List (Int × Int)
  | _, [] => []
  | k, n :: r => if 0 < n then ((k : Int), n) :: snapF (k + 1) r else snapF (k + 1) r
theorem snapF_append (k : Nat) (xs ys : List Int) : snapF k (xs ++ ys) = snapF k xs ++ snapF (k + xs.length) ys := by
  induction xs generalizing k with
  | nil => simp [snapF]
  | cons n r ih =>
    simp only [List.cons_append, snapF, ih, List.length_cons]
    rw [show k + 1 + r.length = k + (r.length + 1) by omega]
    split <;> simp
theorem snapF_length (k : Nat) (xs : List Int) : (snapF k xs).length ≤ xs.length := by
  induction xs generalizing k with
  | nil => simp [snapF]
  | cons n r ih => have := ih (k + 1); simp only [snapF, List.length_cons]; split <;> simp <;> omega
theorem snapF_take (cs : List Int) (k : Nat) (hk : k < cs.length) : snapF 0 (cs.take (k + 1)) = snapF 0 (cs.take k) ++ (if 0 < cs.getD k 0 then [((k : Int), cs.getD k 0)] else []) := by
  rw [take_at (d := (0 : Int)) cs k hk, snapF_append]
  simp only [List.length_take, snapF]
  rw [show 0 + min k cs.length = k by omega]
end Nl
def SnapRel (w : World) (cs : List Int) (out i : Value) (wr : World) : Prop :=
  ∃ k : Nat, i = .int .i64 k ∧ k ≤ cs.length ∧ OwnN wr w.heap.size out (snapF 0 (cs.take k)) ∧ Below w.heap.size w wr
theorem d_snap {w : World} {g h : Nat} {l u t : Int} {cs : List Int} (d : Dn w g h l u t cs) (hcl : cs.length ≤ 131072) :
    Calls Tryz.prog 163 #[.pointer (some ⟨g, 0, none⟩)] w (IsNodes (snapF 0 cs) w) := by
  have c3 : w.cell? ⟨g, 3, none⟩ = some (.slice (some ⟨h, 0, none⟩) cs.length cs.length) := d.1.cell 3
  have D2 := d.2.1
  have hlh := D2.lt
  go_enter Tryz.func163, Tryz.ntmps163
  go_wp2_with fail
  go_loopw [3, 13] (fun out i wr => SnapRel w cs out i wr) (fun _ i _ => cs.length - (intOf i).toNat)
  case atStart => exact ⟨0, rfl, by omega, by simp [snapF]; exact OwnN.nil _ _, Below.refl _ _⟩
  case round =>
    obtain ⟨k, rfl, hk, hown, hbl⟩ := hrel
    have hwr := hbl.size
    by_cases h1 : k < cs.length
    · have c4 : wr.cell? ⟨h, k, none⟩ = some (.int .i64 (cs.getD k 0)) := ((D2.below hbl nlr).cell k).trans (icells_get cs k h1)
      have hst := snapF_take cs k h1
      have hsl := snapF_length 0 (cs.take k)
      rw [List.length_take] at hsl
      generalize snapF 0 (cs.take k) = zs at *
      have Hst := hid hst
      clear hst
      generalize cs.getD k 0 = x at *
      obtain ⟨p, cap, rfl⟩ := hown.val
      by_cases h2 : 0 < x
      · go_wp2_with (at_builtin; refine appendN (wr := wr) (b := k) (c := x) _ _ hown (by omega) (by omega) rfl rfl rfl rfl rfl ?_; intro v3 w3 ho3 hg3 hnn)
        go_roundw
        case rel => exact ⟨k + 1, by go_num, by omega, by rw [Hst.out, if_pos h2]; exact ho3, hbl.trans (below_grown hg3 (by omega) hown.lt)⟩
        case measure => simp [intOf]; omega
      · go_wp2_with fail
        go_roundw
        case rel => exact ⟨k + 1, by go_num, by omega, by rw [Hst.out, if_neg h2]; simpa using hown, hbl⟩
        case measure => simp [intOf]; omega
    · rw [List.take_of_length_le (by omega)] at hown
      go_wp2_with fail
      go_ret
      exact ⟨_, rfl, hown, hbl⟩
def DClonePost (l : Int) (cs : List Int) (w : World) (e : Ending) (w' : World) : Prop :=
  ∃ g h, e = .returned (.pointer (some ⟨g, 0, none⟩)) ∧ DnV w' g h l cs ∧ w.heap.size ≤ g ∧ w.heap.size ≤ h ∧ Below w.heap.size w w'
theorem d_clone {w : World} {g h : Nat} {l u t : Int} {cs : List Int} (d : Dn w g h l u t cs) (v : Dv l u t cs) :
    Calls Tryz.prog 183 #[.pointer (some ⟨g, 0, none⟩)] w (DClonePost l cs w) := by
  have c0 : w.cell? ⟨g, 0, none⟩ = some (.int .i64 l) := d.1.cell 0
  have c1 : w.cell? ⟨g, 1, none⟩ = some (.int .i64 u) := d.1.cell 1
  have c2 : w.cell? ⟨g, 2, none⟩ = some (.int .i64 t) := d.1.cell 2
  have c3 : w.cell? ⟨g, 3, none⟩ = some (.slice (some ⟨h, 0, none⟩) cs.length cs.length) := d.1.cell 3
  have hlh := d.2.1.lt
  have hlg := d.1.lt
  have hbd := v.bound
  have hmk := make_ints cs.length (by omega)
  go_enter Tryz.func183, Tryz.ntmps183
  go_wp2_with fail
  have X : Blk ((w.alloc (.cells #[.int .i64 l, .int .i64 u, .int .i64 t, .slice (some ⟨w.heap.size + 1, 0, none⟩) cs.length cs.length] 214)).alloc (.cells (icells (List.replicate cs.length 0)) 3)) w.heap.size #[.int .i64 l, .int .i64 u, .int .i64 t, .slice (some ⟨w.heap.size + 1, 0, none⟩) cs.length cs.length] 214 := (Blk.new _ _ _).alloc _
  have Y : Blk ((w.alloc (.cells #[.int .i64 l, .int .i64 u, .int .i64 t, .slice (some ⟨w.heap.size + 1, 0, none⟩) cs.length cs.length] 214)).alloc (.cells (icells (List.replicate cs.length 0)) 3)) (w.heap.size + 1) (icells (List.replicate cs.length 0)) 3 := by
    have q := Blk.new (w.alloc (.cells #[.int .i64 l, .int .i64 u, .int .i64 t, .slice (some ⟨w.heap.size + 1, 0, none⟩) cs.length cs.length] 214)) (icells (List.replicate cs.length 0)) 3
    simpa using q
  have hb : Below w.heap.size w ((w.alloc (.cells #[.int .i64 l, .int .i64 u, .int .i64 t, .slice (some ⟨w.heap.size + 1, 0, none⟩) cs.length cs.length] 214)).alloc (.cells (icells (List.replicate cs.length 0)) 3)) := ((Below.refl _ _).alloc nlr _).alloc (by simp) _
  have D := d.below hb nlr
  generalize ((w.alloc (.cells #[.int .i64 l, .int .i64 u, .int .i64 t, .slice (some ⟨w.heap.size + 1, 0, none⟩) cs.length cs.length] 214)).alloc (.cells (icells (List.replicate cs.length 0)) 3)) = w4 at *
  have x3 : w4.cell? ⟨w.heap.size, 3, none⟩ = some (.slice (some ⟨w.heap.size + 1, 0, none⟩) cs.length cs.length) := X.cell 3
  have y3 : w4.cell? ⟨g, 3, none⟩ = some (.slice (some ⟨h, 0, none⟩) cs.length cs.length) := D.1.cell 3
  have hcp : (Builtin.copy_ #[22, 22] 3 #[.slice (some ⟨w.heap.size + 1, 0, none⟩) cs.length cs.length, .slice (some ⟨h, 0, none⟩) cs.length cs.length]).run Tryz.prog w4.drew = .ok (goInt cs.length) (w4.drew.setRow (w.heap.size + 1) (icells cs)) := by
    have q := run_copy_row (P := Tryz.prog) w4.drew 22 22 3 3 (w.heap.size + 1) 0 cs.length cs.length ⟨h, 0, none⟩ cs.length cs.length (icells (List.replicate cs.length 0)) 3 (icells cs).toList Tryz.underlying22 (by kernel_rfl) Y (by simp [icells]) ?_ (by simp [icells]) ?_
    · simpa [icells] using q
    · intro j x hj
      have hadd : (⟨h, 0, none⟩ : Addr).add j = ⟨h, j, none⟩ := by unfold Addr.add; split <;> simp_all
      rw [hadd]
      exact (D.2.1.cell j).trans (by simpa using hj)
    · intro x hx
      simp [icells] at hx
      obtain ⟨a, _, rfl⟩ := hx
      rfl
  go_region
  go_wp2_with fail
  go_ret
  have hne : w.heap.size ≠ w.heap.size + 1 := by omega
  have hlen : (List.replicate cs.length (0 : Int)).length = cs.length := by simp
  refine ⟨w.heap.size, w.heap.size + 1, rfl, ⟨u, t, ⟨X.keep (setRow_other _ _ _ _ hne), ?_, hne⟩, v⟩, nlr, Nat.le_succ _, ?_⟩
  · exact setRow_heap _ _ _ _ _ _ Y
  · exact below_setRow (below_drewN hb 1) (Nat.le_succ _) _
end Go.Proofs.YtdnlejboijkcfaaGreatDoor
/- The dense store is the document's: plain law. -/
namespace Go.Proofs.YtdnlejboijkcfaaGreatDoor
set_option maxHeartbeats 8000000
set_option maxRecDepth 100000
open Go.RowKit
namespace Nl
theorem snapF_mem {k : Nat} {cs : List Int} : ∀ x ∈ snapF k cs, (k : Int) ≤ x.1 ∧ x.1 < k + cs.length ∧ 0 < x.2 := by
  induction cs generalizing k with
  | nil => intro x hx; simp [snapF] at hx
  | cons n r ih =>
    intro x hx
    have hr : ∀ x ∈ snapF (k + 1) r, (k : Int) ≤ x.1 ∧ x.1 < k + (n :: r).length ∧ 0 < x.2 := fun x hx => by
      have := ih x hx; simp only [List.length_cons]; omega
    simp only [snapF] at hx
    split at hx
    · cases hx with
      | head => simp only [List.length_cons]; exact ⟨Int.le_refl _, by omega, by assumption⟩
      | tail _ hx => exact hr x hx
    · exact hr x hx
theorem snapF_pair (k : Nat) (cs : List Int) : (snapF k cs).Pairwise (fun a b => a.1 < b.1) := by
  induction cs generalizing k with
  | nil => simp [snapF]
  | cons n r ih =>
    simp only [snapF]
    split
    · rw [List.pairwise_cons]
      exact ⟨fun y hy => by have := (snapF_mem y hy).1; simp only; omega, ih _⟩
    · exact ih _
theorem snapF_strict {cs : List Int} (h : cs.getD 0 0 = 0) : Strict (snapF 0 cs) := by
  refine ⟨snapF_pair 0 cs, ?_⟩
  cases cs with
  | nil => intro x hx; simp [snapF] at hx
  | cons n r =>
    simp at h
    subst h
    intro x hx
    simp only [snapF] at hx
    have := snapF_mem x hx
    omega
theorem snapF_sum (k : Nat) {cs : List Int} (h : ∀ x ∈ cs, 0 ≤ x) : sumL (snapF k cs) = isum cs := by
  induction cs generalizing k with
  | nil => rfl
  | cons n r ih =>
    have h1 := h n (by simp)
    simp only [snapF, isum]
    split
    · simp only [sumL]; rw [ih _ (fun x hx => h x (by simp [hx]))]
    · rw [ih _ (fun x hx => h x (by simp [hx]))]; omega
theorem snapF_nnz (k : Nat) (cs : List Int) : ((snapF k cs).length : Int) = nnz cs := by
  induction cs generalizing k with
  | nil => rfl
  | cons n r ih =>
    simp only [snapF, nnz]
    split
    · simp only [List.length_cons]; have := ih (k + 1); omega
    · have := ih (k + 1); omega
theorem findL_app {id : Int} {xs ys : List (Int × Int)} (h : ∀ x ∈ xs, x.1 ≠ id) : findL id (xs ++ ys) = findL id ys := by
  induction xs with
  | nil => rfl
  | cons x r ih =>
    rw [List.cons_append, findL, if_neg (h x (by simp)), ih (fun y hy => h y (by simp [hy]))]
theorem findL_no {id : Int} {xs : List (Int × Int)} (h : ∀ x ∈ xs, x.1 ≠ id) : findL id xs = 0 := by
  have := findL_app (ys := []) h
  simpa [findL] using this
theorem snapF_split (cs : List Int) (n : Nat) (hn : n < cs.length) : snapF 0 cs = snapF 0 (cs.take n) ++ ((if 0 < cs.getD n 0 then [((n : Int), cs.getD n 0)] else []) ++ snapF (n + 1) (cs.drop (n + 1))) := by
  conv => lhs; rw [← List.take_append_drop (n + 1) cs]
  rw [snapF_append, snapF_take cs n hn, List.length_take, show 0 + min (n + 1) cs.length = n + 1 by omega]
  simp
theorem snapF_set (cs : List Int) (n : Nat) (hn : n < cs.length) (x : Int) : snapF 0 (cs.set n x) = snapF 0 (cs.take n) ++ ((if 0 < x then [((n : Int), x)] else []) ++ snapF (n + 1) (cs.drop (n + 1))) := by
  have h := snapF_split (cs.set n x) n (by simpa using hn)
  have e : (cs.set n x).getD n 0 = x := by simp [List.getD, hn]
  rw [e] at h
  rw [h, List.take_set_of_le (Nat.le_refl n), List.drop_set_of_lt (Nat.lt_succ_self n)]
theorem snap_low (cs : List Int) (n : Nat) : ∀ x ∈ snapF 0 (cs.take n), x.1 < n := fun x hx => by
  have := snapF_mem x hx
  simp only [List.length_take] at this
  omega
theorem snap_high (cs : List Int) (n : Nat) : ∀ x ∈ snapF (n + 1) (cs.drop (n + 1)), (n : Int) < x.1 := fun x hx => by
  have := snapF_mem x hx; omega
theorem right_len {l u t : Int} {cs : List Int} (v : Dv l u t cs) {id : Int} (h : rightB l id = true) : ∃ n : Nat, id = n ∧ 1 ≤ n ∧ n < cs.length := by
  obtain ⟨n, h1, h2, h3⟩ := right_nat h
  exact ⟨n, h1, h2, by rw [v.len]; exact h3⟩
theorem right_no {l u t : Int} {cs : List Int} (v : Dv l u t cs) {id : Int} (h : rightB l id = false) : ∀ x ∈ snapF 0 cs, x.1 ≠ id := by
  intro x hx e
  have h1 := (snapF_strict v.first).2 x hx
  have h2 := snapF_mem x hx
  have e2 : (2 : Int) * 2 ^ l.toNat = ((2 * 2 ^ l.toNat : Nat) : Int) := by simp
  have h3 := v.len
  have h4 := v.l1
  have h5 := v.l2
  have : rightB l id = true := by
    unfold rightB
    rw [e2]
    simp only [decide_eq_true_eq]
    omega
  rw [h] at this
  cases this
theorem find_snap {l u t : Int} {cs : List Int} (v : Dv l u t cs) (id : Int) : findL id (snapF 0 cs) = dGet l cs id := by
  unfold dGet
  cases h : rightB l id
  · exact findL_no (right_no v h)
  · obtain ⟨n, rfl, h1, h2⟩ := right_len v h
    rw [snapF_split cs n h2, findL_app (fun x hx => by have := snap_low cs n x hx; omega)]
    simp only [if_true, Int.toNat_natCast]
    have hno : findL (n : Int) (snapF (n + 1) (cs.drop (n + 1))) = 0 := findL_no (fun x hx => by have := snap_high cs n x hx; omega)
    have hx := v.at n h2
    split
    · simp [findL]
    · rw [List.nil_append, hno]; omega
theorem tot_snap {l u t : Int} {cs : List Int} (v : Dv l u t cs) : totV (snapF 0 cs) = t := by
  rw [totV_sum (snapF_strict v.first).pos, snapF_sum 0 v.pos, v.tot]
  rw [snapF_sum 0 v.pos, ← v.tot]; exact v.most
theorem add_snap {l u t : Int} {cs : List Int} (v : Dv l u t cs) (id c : Int) : stAdd l (snapF 0 cs) id c = (snapF 0 (dAdd l cs id c), dAddCode l cs id c) := by
  unfold stAdd
  rw [tot_snap v]
  unfold dAdd dAddCode
  have ht := v.tot
  by_cases h1 : rightB l id = false ∨ c < 0
  · rw [if_pos h1, if_pos h1, if_neg (by decide)]
  · rw [if_neg h1, if_neg h1]
    by_cases h2 : 72057594037927935 < isum cs + c
    · rw [if_pos (show 72057594037927935 - t < c by omega), if_pos h2, if_neg (by decide)]
    · rw [if_neg (show ¬ 72057594037927935 - t < c by omega), if_neg h2, if_pos rfl]
      have hr : rightB l id = true := by
        cases h : rightB l id
        · exact absurd (.inl h) h1
        · rfl
      have hc : 0 ≤ c := by
        by_cases h : c < 0
        · exact absurd (.inr h) h1
        · omega
      obtain ⟨n, rfl, hn1, hn2⟩ := right_len v hr
      have hx := v.at n hn2
      rw [foldL_add (snapF_strict v.first) (by omega) hc (by rw [snapF_sum 0 v.pos]; omega)]
      simp only [Option.getD_some, Int.toNat_natCast, Prod.mk.injEq, and_true]
      rw [snapF_set cs n hn2, snapF_split cs n hn2]
      exact addS_parts (snap_low cs n) (snap_high cs n) hx.1 hc
theorem take_snap {l u t : Int} {cs : List Int} (v : Dv l u t cs) (id : Int) : stTake (snapF 0 cs) id = (snapF 0 (dTake l cs id), dGet l cs id) := by
  unfold stTake
  rw [find_snap v]
  congr 1
  unfold dTake
  cases h : rightB l id
  · rw [List.filter_eq_self.2 (fun x hx => by simpa using right_no v h x hx)]; rfl
  · obtain ⟨n, rfl, h1, h2⟩ := right_len v h
    simp only [if_true, Int.toNat_natCast]
    rw [snapF_set cs n h2, snapF_split cs n h2, List.filter_append, List.filter_append]
    have f1 : (snapF 0 (cs.take n)).filter (fun x => x.1 ≠ (n : Int)) = snapF 0 (cs.take n) := List.filter_eq_self.2 (fun x hx => by have := snap_low cs n x hx; simp; omega)
    have f2 : (snapF (n + 1) (cs.drop (n + 1))).filter (fun x => x.1 ≠ (n : Int)) = snapF (n + 1) (cs.drop (n + 1)) := List.filter_eq_self.2 (fun x hx => by have := snap_high cs n x hx; simp; omega)
    rw [f1, f2]
    congr 2
    split <;> simp
end Nl
open Nl
theorem DnV.tch {w w' : World} {g h g' h' : Nat} {l : Int} {cs : List Int} (d : DnV w g h l cs) (tc : Tch g' h' w w') (e1 : g ≠ g') (e2 : g ≠ h') (e3 : h ≠ g') (e4 : h ≠ h') : DnV w' g h l cs := by
  obtain ⟨u, t, d, v⟩ := d; exact ⟨u, t, d.tch tc e1 e2 e3 e4, v⟩
theorem DnV.below {w w' : World} {g h B : Nat} {l : Int} {cs : List Int} (d : DnV w g h l cs) (b : Below B w w') (hB : w.heap.size ≤ B) : DnV w' g h l cs := by
  obtain ⟨u, t, d, v⟩ := d; exact ⟨u, t, d.below b hB, v⟩
theorem DnV.lt {w : World} {g h : Nat} {l : Int} {cs : List Int} (d : DnV w g h l cs) : g < w.heap.size ∧ h < w.heap.size ∧ g ≠ h := by
  obtain ⟨u, t, d, v⟩ := d; exact ⟨d.1.lt, d.2.1.lt, d.2.2⟩
end Go.Proofs.YtdnlejboijkcfaaGreatDoor
