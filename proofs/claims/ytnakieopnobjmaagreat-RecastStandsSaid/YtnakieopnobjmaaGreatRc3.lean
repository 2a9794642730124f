/- The walks of recast.may, Grow, Coarsen, Turn. -/
import Derived.Test.YtnakieopnobjmaaGreatRc2
import Derived.Test.YtnakieopnobjmaaGreatDgNil
namespace Go.Proofs.YtnakieopnobjmaaGreat
open Go.RowKit Nl

set_option maxRecDepth 100000 in
set_option maxHeartbeats 1000000 in
theorem rc_may (l k kind : Int) (w : World) :
    Calls Tryz.prog 47 #[.agg #[.int .i64 l, .int .i64 k, .int .i64 kind]] w fun e w' => e = .returned (.bool (poolIs kind l)) ∧ Below w.heap.size w w' := by
  have hba : Below w.heap.size w (w.alloc (.cells #[.int .i64 l, .int .i64 k, .int .i64 kind] 23)) := (Below.refl _ _).alloc (Nat.le_refl _) _
  have hsx : (w.alloc (.cells #[.int .i64 l, .int .i64 k, .int .i64 kind] 23)).heap.size = w.heap.size + 1 := by simp
  cases hp : poolIs kind l
  · have N := hid (fun W : World => dg_new_no kind l 1 W ⟨by decide, by decide⟩ (by rw [hp]; rfl))
    clear hp
    go_enter Tryz.func47, Tryz.ntmps47
    go_wp2_with fail
    refine (N.out _).mono ?_
    rintro e w2 ⟨rfl, hb2⟩
    go_wp2_with fail
    go_ret
    exact ⟨rfl, hba.trans (hb2.mono (by omega))⟩
  · have N := hid (fun W : World => dg_new kind l 1 W hp (by decide))
    clear hp
    go_enter Tryz.func47, Tryz.ntmps47
    go_wp2_with fail
    refine (N.out _).mono ?_
    rintro e w2 ⟨dg, q, g, h, rfl, -, -, -, -, -, hb2⟩
    go_wp2_with fail
    go_ret
    exact ⟨rfl, hba.trans (hb2.mono (by omega))⟩

set_option maxRecDepth 100000 in
set_option maxHeartbeats 1000000 in
theorem moves_grow (c : Nat) (l by_ : Int) (hb : 0 ≤ by_) (hl : l + by_ ≤ 48) : Moves 49 c l (graftV by_) (fun w => Blk w c #[.int .i64 by_] 3) where
  keep := fun {_ _} h hk => h.keep hk
  lt := fun {_} h => h.lt
  ent := enters_of Tryz.func49 (by kernel_rfl) rfl
  call := fun w id h hr => by
    have c0 : w.cell? ⟨c, 0, none⟩ = some (.int .i64 by_) := h.cell 0
    have T := hid (t_graft w hr hb hl)
    generalize graftV by_ id = V at *
    clear hb hl hr
    go_enter Tryz.func49, Tryz.ntmps49
    go_wp2_with fail
    refine T.out.mono ?_
    rintro e w2 ⟨rfl, hb2⟩
    go_wp2_with fail
    go_ret
    exact ⟨rfl, hb2⟩
set_option maxRecDepth 100000 in
set_option maxHeartbeats 1000000 in
theorem moves_coar (c : Nat) (l t k kind : Int) (ht : 0 ≤ t) (ht2 : t ≤ 48) : Moves 58 c l (pruneV t) (fun w => Blk w c #[.int .i64 t, .int .i64 k, .int .i64 kind] 23) where
  keep := fun {_ _} h hk => h.keep hk
  lt := fun {_} h => h.lt
  ent := enters_of Tryz.func58 (by kernel_rfl) rfl
  call := fun w id h hr => by
    have c0 : w.cell? ⟨c, 0, none⟩ = some (.int .i64 t) := h.cell 0
    have T := hid (t_prune w hr ht ht2)
    generalize pruneV t id = V at *
    clear ht ht2 hr
    go_enter Tryz.func58, Tryz.ntmps58
    go_wp2_with fail
    refine T.out.mono ?_
    rintro e w2 ⟨rfl, rfl⟩
    go_wp2_with fail
    go_ret
    exact ⟨rfl, Below.refl _ _⟩

set_option maxRecDepth 100000 in
set_option maxHeartbeats 1000000 in
theorem rc_grow_nil (l : Int) (w : World) :
    Calls Tryz.prog 12 #[.pointer none, .int .i64 l] w fun e w' => e = .returned (.tuple #[.pointer none, .int .i64 1]) ∧ w = w' := by
  go_enter Tryz.func12, Tryz.ntmps12
  go_wp2_with fail
  go_ret2
  exact ⟨rfl, rfl⟩
set_option maxRecDepth 100000 in
set_option maxHeartbeats 1000000 in
theorem rc_coar_nil (l : Int) (w : World) :
    Calls Tryz.prog 19 #[.pointer none, .int .i64 l] w fun e w' => e = .returned (.tuple #[.pointer none, .int .i64 1]) ∧ w = w' := by
  go_enter Tryz.func19, Tryz.ntmps19
  go_wp2_with fail
  go_ret2
  exact ⟨rfl, rfl⟩
set_option maxRecDepth 100000 in
set_option maxHeartbeats 1000000 in
theorem rc_turn_nil (l : Int) (w : World) :
    Calls Tryz.prog 43 #[.pointer none, .int .i64 l] w fun e w' => e = .returned (.tuple #[.pointer none, .int .i64 1]) ∧ w = w' := by
  go_enter Tryz.func43, Tryz.ntmps43
  go_wp2_with fail
  go_ret2
  exact ⟨rfl, rfl⟩

/-- May a digest of l bits be grown to l'? -/
def Nl.growB (kind l l' : Int) : Bool := decide (l ≤ l') && poolIs kind l'
theorem Nl.pool_bd {kind l : Int} (h : poolIs kind l = true) : 1 ≤ l ∧ l ≤ 48 := by unfold poolIs at h; simp at h; omega

set_option maxRecDepth 100000 in
set_option maxHeartbeats 2000000 in
theorem rc_grow {w : World} {dg q g h m : Nat} {kind l k : Int} {zs : List Nd} (l' : Int) (d : DgV w dg q g h kind l k m zs) (hm : m ≤ 100000) (hz : zs.length ≤ 1999) (hg : growB kind l l' = true) :
    Calls Tryz.prog 12 #[.pointer (some ⟨dg, 0, none⟩), .int .i64 l'] w (DgNew kind l' k 2000 (growL (l' - l) zs) w) := by
  simp only [growB, Bool.and_eq_true, decide_eq_true_eq] at hg
  obtain ⟨hl, hp⟩ := hg
  obtain ⟨lb1, lb2⟩ := pool_bd hp
  obtain ⟨s1, s2, s3, s4, s5⟩ := grow_spec d.inv (show 0 ≤ l' - l by omega) (show l + (l' - l) ≤ 48 by omega)
  have el : l + (l' - l) = l' := by omega
  have HR := fun id (h : rightB l id = true) => graft_right (by_ := l' - l) (by omega) (by omega) h
  rw [el] at s2 HR
  have l1 := d.inv.roll.l1
  have CF := hid (dg_conf d)
  have MY0 := fun W : World => rc_may l' k kind W
  rw [hp] at MY0
  have MY := hid MY0
  have MV := hid (fun W c (y : DgV W dg q g h kind l k m zs) (i : Blk W c #[.int .i64 (l' - l)] 3) => rc_moved kind l' y hm hz (moves_grow c l (l' - l) (by omega) (by omega)) i hp s1 s2 s3 HR)
  have hZ : Hid (movedL (graftV (l' - l)) zs = growL (l' - l) zs) := rfl
  clear MY0 s1 s2 s3 s4 s5 HR hp el hz hm
  go_enter Tryz.func12, Tryz.ntmps12
  go_wp2_with fail
  refine CF.out.mono ?_
  rintro e w1 ⟨rfl, hb1⟩
  have hs1 := hb1.size
  have d1 := d.below hb1 (Nat.le_refl _)
  have hba : Below w1.heap.size w1 ((w1.alloc (.cells #[.int .i64 l', .int .i64 k, .int .i64 kind] 23)).alloc (.cells #[.int .i64 (l' - l)] 3)) := ((Below.refl _ _).alloc (Nat.le_refl _) _).alloc (by simp) _
  have Y : Blk ((w1.alloc (.cells #[.int .i64 l', .int .i64 k, .int .i64 kind] 23)).alloc (.cells #[.int .i64 (l' - l)] 3)) (w1.heap.size + 1) #[.int .i64 (l' - l)] 3 := by
    have h := Blk.new (w1.alloc (.cells #[.int .i64 l', .int .i64 k, .int .i64 kind] 23)) #[.int .i64 (l' - l)] 3
    simpa using h
  have X := (Blk.new w1 #[.int .i64 l', .int .i64 k, .int .i64 kind] 23).alloc (.cells #[.int .i64 (l' - l)] 3)
  have hw : wrap64 (l' - l) = l' - l := IntWalk.wrap64_in _ ⟨by omega, by omega⟩
  go_wp2_with fail
  generalize ((w1.alloc (.cells #[.int .i64 l', .int .i64 k, .int .i64 kind] 23)).alloc (.cells #[.int .i64 (l' - l)] 3)) = w2 at *
  refine (MY.out _).mono ?_
  rintro e w3 ⟨rfl, hb3⟩
  have hs2 := hba.size
  have hs3 := hb3.size
  have d3 := (d1.below hba (Nat.le_refl _)).below hb3 (Nat.le_refl _)
  have X3 := X.below hb3 (Nat.le_refl _)
  have Y3 := Y.below hb3 (Nat.le_refl _)
  have hbw3 := (hb1.trans (hba.mono hs1)).trans (hb3.mono (by omega))
  have MVV := hid (MV.out _ _ d3 Y3)
  have x0 : w3.cell? ⟨w1.heap.size, 0, none⟩ = some (.int .i64 l') := X3.cell 0
  have x1 : w3.cell? ⟨w1.heap.size, 1, none⟩ = some (.int .i64 k) := X3.cell 1
  have x2 : w3.cell? ⟨w1.heap.size, 2, none⟩ = some (.int .i64 kind) := X3.cell 2
  clear X Y d1 d3 Y3 MV MY hba hb3 hb1
  go_wp2_with fail
  refine MVV.out.mono ?_
  rintro e w4 ⟨dg', q', g', h', rfl, d4, e1, e2, e3, e4, hb4⟩
  rw [hZ.out] at d4
  go_wp2_with fail
  go_ret2
  exact ⟨dg', q', g', h', rfl, d4, by omega, by omega, by omega, by omega, hbw3.trans (hb4.mono hbw3.size)⟩

set_option maxRecDepth 100000 in
set_option maxHeartbeats 2000000 in
theorem rc_grow_no {w : World} {dg q g h m : Nat} {kind l k : Int} {zs : List Nd} (l' : Int) (d : DgV w dg q g h kind l k m zs) (hg : growB kind l l' = false) :
    Calls Tryz.prog 12 #[.pointer (some ⟨dg, 0, none⟩), .int .i64 l'] w fun e w' => e = .returned (.tuple #[.pointer none, .int .i64 2]) ∧ Below w.heap.size w w' := by
  have l1 := d.inv.roll.l1
  have l2 := d.inv.roll.l2
  have CF := hid (dg_conf d)
  by_cases h1 : l ≤ l'
  · by_cases h2 : l' ≤ 48
    · have hp : poolIs kind l' = false := by
        unfold growB at hg
        rw [decide_eq_true h1] at hg
        simpa using hg
      have MY0 := fun W : World => rc_may l' k kind W
      rw [hp] at MY0
      have MY := hid MY0
      clear MY0 hp hg d
      go_enter Tryz.func12, Tryz.ntmps12
      go_wp2_with fail
      refine CF.out.mono ?_
      rintro e w1 ⟨rfl, hb1⟩
      have hs1 := hb1.size
      have hba : Below w1.heap.size w1 ((w1.alloc (.cells #[.int .i64 l', .int .i64 k, .int .i64 kind] 23)).alloc (.cells #[.int .i64 (l' - l)] 3)) := ((Below.refl _ _).alloc (Nat.le_refl _) _).alloc (by simp) _
      have hw : wrap64 (l' - l) = l' - l := IntWalk.wrap64_in _ ⟨by omega, by omega⟩
      go_wp2_with fail
      generalize ((w1.alloc (.cells #[.int .i64 l', .int .i64 k, .int .i64 kind] 23)).alloc (.cells #[.int .i64 (l' - l)] 3)) = w2 at *
      refine (MY.out _).mono ?_
      rintro e w3 ⟨rfl, hb3⟩
      have hs2 := hba.size
      go_wp2_with fail
      go_ret2
      exact ⟨rfl, (hb1.trans (hba.mono hs1)).trans (hb3.mono (by omega))⟩
    · clear d hg
      go_enter Tryz.func12, Tryz.ntmps12
      go_wp2_with fail
      refine CF.out.mono ?_
      rintro e w1 ⟨rfl, hb1⟩
      have hs1 := hb1.size
      go_wp2_with fail
      go_ret2
      exact ⟨rfl, hb1.trans ((((Below.refl _ _).alloc (Nat.le_refl _) _).alloc (by simp) _).mono hs1)⟩
  · clear d hg
    go_enter Tryz.func12, Tryz.ntmps12
    go_wp2_with fail
    refine CF.out.mono ?_
    rintro e w1 ⟨rfl, hb1⟩
    have hs1 := hb1.size
    go_wp2_with fail
    go_ret2
    exact ⟨rfl, hb1.trans ((((Below.refl _ _).alloc (Nat.le_refl _) _).alloc (by simp) _).mono hs1)⟩

set_option maxRecDepth 100000 in
set_option maxHeartbeats 2000000 in
theorem rc_coar {w : World} {dg q g h m : Nat} {kind l k : Int} {zs : List Nd} (b : Int) (d : DgV w dg q g h kind l k m zs) (hm : m ≤ 100000) (hz : zs.length ≤ 1999) (hb : 0 ≤ b) (hbl : b < l) :
    Calls Tryz.prog 19 #[.pointer (some ⟨dg, 0, none⟩), .int .i64 b] w (DgNew kind (l - b) k 2000 (coarL (l - b) zs) w) := by
  have l1 := d.inv.roll.l1
  have l2 := d.inv.roll.l2
  obtain ⟨s1, s2, s3, s4, s5⟩ := coar_spec d.inv (show 1 ≤ l - b by omega) (show l - b ≤ l by omega)
  have HR := fun id (h : rightB l id = true) => prune_right (t := l - b) (by omega) (by omega) h
  have hp : poolIs kind (l - b) = true := by
    have h := d.pool.is
    unfold poolIs at h ⊢
    simp at h ⊢
    omega
  have CF := hid (dg_conf d)
  have MV := hid (fun W c (y : DgV W dg q g h kind l k m zs) (i : Blk W c #[.int .i64 (l - b), .int .i64 k, .int .i64 kind] 23) => rc_moved kind (l - b) y hm hz (moves_coar c l (l - b) k kind (by omega) (by omega)) i hp s1 s2 s3 HR)
  have hZ : Hid (movedL (pruneV (l - b)) zs = coarL (l - b) zs) := rfl
  clear s1 s2 s3 s4 s5 HR hp hz hm
  go_enter Tryz.func19, Tryz.ntmps19
  go_wp2_with fail
  refine CF.out.mono ?_
  rintro e w1 ⟨rfl, hb1⟩
  have hs1 := hb1.size
  have hba : Below w1.heap.size w1 (w1.alloc (.cells #[.int .i64 (l - b), .int .i64 k, .int .i64 kind] 23)) := (Below.refl _ _).alloc (Nat.le_refl _) _
  have X := Blk.new w1 #[.int .i64 (l - b), .int .i64 k, .int .i64 kind] 23
  have d3 := (d.below hb1 (Nat.le_refl _)).below hba (Nat.le_refl _)
  have hbw3 := hb1.trans (hba.mono hs1)
  have MVV := hid (MV.out _ _ d3 X)
  have hs2 := hbw3.size
  clear X d3 MV hba d hb1
  go_wp2_with fail
  refine MVV.out.mono ?_
  rintro e w4 ⟨dg', q', g', h', rfl, d4, e1, e2, e3, e4, hb4⟩
  rw [hZ.out] at d4
  go_wp2_with fail
  go_ret2
  exact ⟨dg', q', g', h', rfl, d4, by omega, by omega, by omega, by omega, hbw3.trans (hb4.mono hbw3.size)⟩

set_option maxRecDepth 100000 in
set_option maxHeartbeats 2000000 in
theorem rc_coar_no {w : World} {dg q g h m : Nat} {kind l k : Int} {zs : List Nd} (b : Int) (d : DgV w dg q g h kind l k m zs) (hb : b < 0 ∨ l ≤ b) :
    Calls Tryz.prog 19 #[.pointer (some ⟨dg, 0, none⟩), .int .i64 b] w fun e w' => e = .returned (.tuple #[.pointer none, .int .i64 2]) ∧ Below w.heap.size w w' := by
  have CF := hid (dg_conf d)
  have hb2 : b < 0 ∨ (0 ≤ b ∧ l ≤ b) := by omega
  clear d hb
  rcases hb2 with h1 | ⟨h1, h2⟩
  all_goals
    go_enter Tryz.func19, Tryz.ntmps19
    go_wp2_with fail
    refine CF.out.mono ?_
    rintro e w1 ⟨rfl, hb1⟩
    have hs1 := hb1.size
    go_wp2_with fail
    go_ret2
    exact ⟨rfl, hb1.trans (((Below.refl _ _).alloc (Nat.le_refl _) _).mono hs1)⟩
end Go.Proofs.YtnakieopnobjmaaGreat
