/- The walks of the reference's layer 7: Get, Total, Add, Take, Do. -/
import Derived.Test.YtejoecoenehooaaNdRef3
import Derived.Test.YtejoecoenehooaaTwig
namespace Go.Proofs.Ytejoecoenehooaa
open Go.RowKit Nl

/-- A slice of nodes that reads as xs, in a block from B on (or nil). -/
def RdB (w : World) (B : Nat) (v : Value) (xs : List Nd) : Prop := RdN w v xs ∧ ∀ k, v.ownBlock = some k → B ≤ k
theorem RdB.nil (w : World) (B : Nat) : RdB w B (.slice none 0 0) [] := ⟨RdN.nil w, none_lt⟩
theorem RdB.below {w w' : World} {B B' : Nat} {v : Value} {xs : List Nd} (h : RdB w B v xs) (hb : Below B' w w') (hB : w.heap.size ≤ B') : RdB w' B v xs := ⟨h.1.below hb hB, h.2⟩
theorem RdB.mono {w : World} {B B' : Nat} {v : Value} {xs : List Nd} (h : RdB w B v xs) (hB : B' ≤ B) : RdB w B' v xs := ⟨h.1, fun k hk => Nat.le_trans hB (h.2 k hk)⟩
theorem RdB.of_own {w : World} {B : Nat} {v : Value} {xs : List Nd} (h : OwnN w B v xs) : RdB w B v xs := ⟨h.rd, h.lt⟩
theorem RdB.drewN {w : World} {B : Nat} {v : Value} {xs : List Nd} (h : RdB w B v xs) (n : Nat) : RdB (w.drewN n) B v xs := ⟨h.1.drewN n, h.2⟩

namespace Nl
def stAdd (l : Int) (xs : List Nd) (id c : Int) : List Nd × Int :=
  if rightB l id = false ∨ c < 0 then (xs, 2) else if 72057594037927935 - totV xs < c then (xs, 5) else ((foldL (xs ++ [(id, c)])).getD [], 0)
def stTake (xs : List Nd) (id : Int) : List Nd × Int := (xs.filter (fun x => x.1 ≠ id), findL id xs)
def stDo (l : Int) (xs : List Nd) (kind id c : Int) : List Nd × Int :=
  if kind = 0 then stAdd l xs id c else if kind = 1 then stTake xs id else (xs, findL id xs)
end Nl

/-- A store's value, and a number. -/
def StPost (l : Int) (r : List Nd × Int) (B : Nat) (v0 : Value) (w : World) (e : Ending) (w' : World) : Prop :=
  ∃ v, e = .returned (.tuple #[.agg #[.int .i64 l, v], .int .i64 r.2]) ∧ RdB w' B v r.1 ∧ (v = v0 ∨ ∀ k, v.ownBlock = some k → w.heap.size ≤ k) ∧ Below w.heap.size w w'

set_option maxHeartbeats 400000 in
theorem r_stget {v : Value} {xs : List Nd} (l id : Int) (w : World) (hr : RdN w v xs) (hl : xs.length < 1048576) :
    Calls Try.prog 122 #[.agg #[.int .i64 l, v], .int .i64 id] w fun e w' => e = .returned (.int .i64 (findL id xs)) ∧ Below w.heap.size w w' := by
  obtain ⟨p, cap, rfl⟩ := hr.val
  go_enter Try.func122, Try.ntmps122
  go_wp2_with fail
  refine (r_find id _ (hr.alloc _) (by omega)).mono ?_
  rintro e w' ⟨rfl, rfl⟩
  go_wp2_with fail
  go_ret
  exact ⟨rfl, (Below.refl _ _).alloc (Nat.le_refl _) _⟩

set_option maxHeartbeats 400000 in
theorem r_sttotal {v : Value} {xs : List Nd} (l : Int) (w : World) (hr : RdN w v xs) (hl : xs.length < 1048576) :
    Calls Try.prog 45 #[.agg #[.int .i64 l, v]] w fun e w' => e = .returned (.int .i64 (totV xs)) ∧ Below w.heap.size w w' := by
  obtain ⟨p, cap, rfl⟩ := hr.val
  go_enter Try.func45, Try.ntmps45
  go_wp2_with fail
  refine (r_total _ (hr.alloc _) (by omega)).mono ?_
  rintro e w' ⟨rfl, rfl⟩
  go_wp2_with fail
  go_ret
  exact ⟨rfl, (Below.refl _ _).alloc (Nat.le_refl _) _⟩

set_option maxHeartbeats 1000000 in
theorem r_stadd {v : Value} {xs : List Nd} {B : Nat} (l id c : Int) (w : World) (hr : RdB w B v xs) (hB : B ≤ w.heap.size) (hl : xs.length < 1000000)
    (bl : -9223372036854775808 ≤ l ∧ l ≤ 9223372036854775807) (bi : -9223372036854775808 ≤ id ∧ id ≤ 9223372036854775807) (bc : -9223372036854775808 ≤ c ∧ c ≤ 9223372036854775807) (ht : 0 ≤ totV xs ∧ totV xs ≤ 72057594037927935) :
    Calls Try.prog 82 #[.agg #[.int .i64 l, v], .int .i64 id, .int .i64 c] w (StPost l (stAdd l xs id c) B v w) := by
  obtain ⟨p, cap, rfl⟩ := hr.1.val
  obtain ⟨r, er⟩ : ∃ r, rightB l id = r := ⟨_, rfl⟩
  obtain ⟨t, et⟩ : ∃ t, totV xs = t := ⟨_, rfl⟩
  have HS : Hid (stAdd l xs id c = if r = false ∨ c < 0 then (xs, 2) else if 72057594037927935 - t < c then (xs, 5) else ((foldL (xs ++ [(id, c)])).getD [], 0)) := by
    show _ = _; unfold stAdd; rw [er, et]
  rw [et] at ht
  have Er := hid er
  have Et := hid et
  clear er et
  have hc2 : Below w.heap.size w ((w.alloc (.cells #[.int .i64 l, .slice p xs.length cap] 43)).alloc (.cells #[.int .i64 0, .slice none 0 0] 43)) := ((Below.refl _ _).alloc (Nat.le_refl _) _).alloc (by simp) _
  cases r
  · rw [show stAdd l xs id c = (xs, 2) by rw [HS.out, if_pos (.inl rfl)]]
    clear HS
    go_enter Try.func82, Try.ntmps82
    go_wp2_with fail
    refine (r_right l id _ bl.1 bl.2 bi.1 bi.2).mono ?_
    rintro e w' ⟨rfl, rfl⟩
    rw [Er.out]
    go_wp2_with fail
    refine bodyPost_ret (v := .tuple #[.agg #[.int .i64 l, .slice p xs.length cap], .int .i64 2]) (by simp [results, Try.results82, go_sem]) rfl ⟨_, rfl, hr.below (((Below.refl _ _).alloc (Nat.le_refl _) _).alloc (by simp) _) (Nat.le_refl _), .inl rfl, ((Below.refl _ _).alloc (Nat.le_refl _) _).alloc (by simp) _⟩
  · by_cases h1 : c < 0
    · rw [show stAdd l xs id c = (xs, 2) by rw [HS.out, if_pos (.inr h1)]]
      clear HS
      go_enter Try.func82, Try.ntmps82
      go_wp2_with fail
      refine (r_right l id _ bl.1 bl.2 bi.1 bi.2).mono ?_
      rintro e w' ⟨rfl, rfl⟩
      rw [Er.out]
      go_wp2_with fail
      refine bodyPost_ret (v := .tuple #[.agg #[.int .i64 l, .slice p xs.length cap], .int .i64 2]) (by simp [results, Try.results82, go_sem]) rfl ⟨_, rfl, hr.below (((Below.refl _ _).alloc (Nat.le_refl _) _).alloc (by simp) _) (Nat.le_refl _), .inl rfl, ((Below.refl _ _).alloc (Nat.le_refl _) _).alloc (by simp) _⟩
    · by_cases h2 : 72057594037927935 - t < c
      · rw [show stAdd l xs id c = (xs, 5) by rw [HS.out, if_neg (by simp; omega), if_pos h2]]
        clear HS
        go_enter Try.func82, Try.ntmps82
        go_wp2_with fail
        refine (r_right l id _ bl.1 bl.2 bi.1 bi.2).mono ?_
        rintro e w' ⟨rfl, rfl⟩
        rw [Er.out]
        go_wp2_with fail
        refine (r_sttotal l _ ((hr.1.alloc _).alloc _) (by omega)).mono ?_
        rintro e w1 ⟨rfl, hb1⟩
        have hs1 := hb1.size
        simp at hs1
        have hw1 : w.heap.size < w1.heap.size := by omega
        have hw2 : w.heap.size + 1 < w1.heap.size := by omega
        have X : Blk w1 w.heap.size #[.int .i64 l, .slice p xs.length cap] 43 := ((Blk.new _ _ _).alloc _).below hb1 (Nat.le_refl _)
        have Y : Blk w1 (w.heap.size + 1) #[.int .i64 0, .slice none 0 0] 43 := by have h := Blk.new (w.alloc (.cells #[.int .i64 l, .slice p xs.length cap] 43)) #[.int .i64 0, .slice none 0 0] 43; exact Blk.below (by simpa using h) hb1 (Nat.le_refl _)
        have hx0 : w1.cell? ⟨w.heap.size, 0, none⟩ = some (.int .i64 l) := X.cell 0
        have hx1 : w1.cell? ⟨w.heap.size, 1, none⟩ = some (.slice p xs.length cap) := X.cell 1
        have hy0 : w1.cell? ⟨w.heap.size + 1, 0, none⟩ = some (.int .i64 0) := Y.cell 0
        have hy1 : w1.cell? ⟨w.heap.size + 1, 1, none⟩ = some (.slice none 0 0) := Y.cell 1
        have hf0 := X.free 0
        have hf1 := X.free 1
        have hg0 := Y.free 0
        have hg1 := Y.free 1
        have hbw : Below w.heap.size w w1 := (((Below.refl _ _).alloc (Nat.le_refl _) _).alloc (by simp) _).trans (hb1.mono (by simp <;> omega))
        rw [Et.out]
        go_wp2_with fail
        have Z := (Y.set 0 (.int .i64 l)).set 1 (.slice p xs.length cap)
        have z0 : World.cell? _ ⟨w.heap.size + 1, 0, none⟩ = some (.int .i64 l) := Z.cell 0
        have z1 : World.cell? _ ⟨w.heap.size + 1, 1, none⟩ = some (.slice p xs.length cap) := Z.cell 1
        have hbz := (hbw.setCell (p := ⟨w.heap.size + 1, 0, none⟩) (Nat.le_succ _) (.int .i64 l)).setCell (p := ⟨w.heap.size + 1, 1, none⟩) (Nat.le_succ _) (.slice p xs.length cap)
        refine bodyPost_ret (v := .tuple #[.agg #[.int .i64 l, .slice p xs.length cap], .int .i64 5]) (by simp [results, Try.results82, go_sem, z0, z1]) rfl ⟨_, rfl, hr.below hbz (Nat.le_refl _), .inl rfl, hbz⟩
      · rw [show stAdd l xs id c = ((foldL (xs ++ [(id, c)])).getD [], 0) by rw [HS.out, if_neg (by simp; omega), if_neg h2]]
        clear HS
        go_enter Try.func82, Try.ntmps82
        go_wp2_with fail
        refine (r_right l id _ bl.1 bl.2 bi.1 bi.2).mono ?_
        rintro e w' ⟨rfl, rfl⟩
        rw [Er.out]
        go_wp2_with fail
        refine (r_sttotal l _ ((hr.1.alloc _).alloc _) (by omega)).mono ?_
        rintro e w1 ⟨rfl, hb1⟩
        have hs1 := hb1.size
        simp at hs1
        have hw1 : w.heap.size < w1.heap.size := by omega
        have hw2 : w.heap.size + 1 < w1.heap.size := by omega
        have X : Blk w1 w.heap.size #[.int .i64 l, .slice p xs.length cap] 43 := ((Blk.new _ _ _).alloc _).below hb1 (Nat.le_refl _)
        have Y : Blk w1 (w.heap.size + 1) #[.int .i64 0, .slice none 0 0] 43 := by have h := Blk.new (w.alloc (.cells #[.int .i64 l, .slice p xs.length cap] 43)) #[.int .i64 0, .slice none 0 0] 43; exact Blk.below (by simpa using h) hb1 (Nat.le_refl _)
        have hx0 : w1.cell? ⟨w.heap.size, 0, none⟩ = some (.int .i64 l) := X.cell 0
        have hx1 : w1.cell? ⟨w.heap.size, 1, none⟩ = some (.slice p xs.length cap) := X.cell 1
        have hy0 : w1.cell? ⟨w.heap.size + 1, 0, none⟩ = some (.int .i64 0) := Y.cell 0
        have hy1 : w1.cell? ⟨w.heap.size + 1, 1, none⟩ = some (.slice none 0 0) := Y.cell 1
        have hf0 := X.free 0
        have hf1 := X.free 1
        have hg0 := Y.free 0
        have hg1 := Y.free 1
        have hbw : Below w.heap.size w w1 := (((Below.refl _ _).alloc (Nat.le_refl _) _).alloc (by simp) _).trans (hb1.mono (by simp <;> omega))
        rw [Et.out]
        have hrw := (hr.1.below hbw (Nat.le_refl _))
        go_wp2_with (first
          | (at_builtin; refine appendsN (B := w.heap.size + 2) _ _ (OwnN.nil _ _) hrw (by simp <;> omega) (by omega) rfl rfl rfl rfl ?_; intro v2 w2 ho2 hg2
             have hs2 := hg2.size)
          | (at_builtin; refine appendN (wr := w2) (b := id) (c := c) _ _ ho2 (by simp <;> omega) (by omega) rfl rfl rfl rfl rfl ?_; intro v3 w3 ho3 hg3 hnn
             have hs3 := hg3.size))
        have ho3' : OwnN w3 (w.heap.size + 2) v3 (xs ++ [(id, c)]) := by simpa using ho3
        refine (r_fold _ ho3'.rd (by simp; omega)).mono ?_
        rintro e w4 (⟨v4, zs, hz, rfl, ho4, hb4⟩ | ⟨hz, rfl, hb4⟩)
        · rw [hz]
          have Hz := hid hz
          clear hz
          obtain ⟨p4, cap4, rfl⟩ := ho4.val
          have hs4 := hb4.size
          have X4 : Blk w4 w.heap.size #[.int .i64 l, .slice p xs.length cap] 43 := (((X.grown hg2 none_lt (Nat.lt_succ_of_lt (Nat.lt_succ_self _))).grown hg3 ho2.lt (Nat.lt_succ_of_lt (Nat.lt_succ_self _)))).below hb4 (Nat.le_refl _)
          have Y4 : Blk w4 (w.heap.size + 1) #[.int .i64 0, .slice none 0 0] 43 := (((Y.grown hg2 none_lt (Nat.lt_succ_self _)).grown hg3 ho2.lt (Nat.lt_succ_self _))).below hb4 (Nat.le_refl _)
          clear hx0 hx1 hy0 hy1 hf0 hf1 hg0 hg1
          have hx0 : w4.cell? ⟨w.heap.size, 0, none⟩ = some (.int .i64 l) := X4.cell 0
          have hx1 : w4.cell? ⟨w.heap.size, 1, none⟩ = some (.slice p xs.length cap) := X4.cell 1
          have hy0 : w4.cell? ⟨w.heap.size + 1, 0, none⟩ = some (.int .i64 0) := Y4.cell 0
          have hy1 : w4.cell? ⟨w.heap.size + 1, 1, none⟩ = some (.slice none 0 0) := Y4.cell 1
          have hf0 := X4.free 0
          have hf1 := X4.free 1
          have hg0 := Y4.free 0
          have hg1 := Y4.free 1
          have hbv : Below w.heap.size w w4 := hbw.trans (((below_grown hg2 (by omega) none_lt).trans (below_grown hg3 (by omega) (fun k hk => by have := ho2.lt k hk; omega))).trans (hb4.mono (by omega)))
          go_wp2_with fail
          have Z := (((Y4.set_other (g' := w.heap.size) 1 (.slice p4 zs.length cap4) (by omega)).set 0 (.int .i64 l)).set 1 (.slice p4 zs.length cap4))
          have z0 : World.cell? _ ⟨w.heap.size + 1, 0, none⟩ = some (.int .i64 l) := Z.cell 0
          have z1 : World.cell? _ ⟨w.heap.size + 1, 1, none⟩ = some (.slice p4 zs.length cap4) := Z.cell 1
          have hbz := (((hbv.setCell (p := ⟨w.heap.size, 1, none⟩) (Nat.le_refl _) (.slice p4 zs.length cap4)).setCell (p := ⟨w.heap.size + 1, 0, none⟩) (Nat.le_succ _) (.int .i64 l)).setCell (p := ⟨w.heap.size + 1, 1, none⟩) (Nat.le_succ _) (.slice p4 zs.length cap4))
          refine bodyPost_ret (v := .tuple #[.agg #[.int .i64 l, .slice p4 zs.length cap4], .int .i64 0]) (by simp [results, Try.results82, go_sem, z0, z1]) rfl ⟨_, rfl, ?_, .inr (fun k hk => by have := ho4.lt k hk; omega), hbz⟩
          have ho5 : OwnN _ w3.heap.size (.slice p4 zs.length cap4) zs := ho4.keep (w' := ((w4.setCell ⟨w.heap.size, 1, none⟩ (.slice p4 zs.length cap4)).setCell ⟨w.heap.size + 1, 0, none⟩ (.int .i64 l)).setCell ⟨w.heap.size + 1, 1, none⟩ (.slice p4 zs.length cap4)) (fun k hk => by
            have h := ho4.lt k hk
            rw [Below.heap_setCell _ _ _ _ (by show k ≠ w.heap.size + 1; omega), Below.heap_setCell _ _ _ _ (by show k ≠ w.heap.size + 1; omega), Below.heap_setCell _ _ _ _ (by show k ≠ w.heap.size; omega)])
          show RdB _ B _ ((foldL (xs ++ [(id, c)])).getD [])
          rw [Hz.out]
          exact RdB.of_own (ho5.mono (by omega))
        · rw [hz]
          have Hz := hid hz
          clear hz
          have hs4 := hb4.size
          have X4 : Blk w4 w.heap.size #[.int .i64 l, .slice p xs.length cap] 43 := (((X.grown hg2 none_lt (Nat.lt_succ_of_lt (Nat.lt_succ_self _))).grown hg3 ho2.lt (Nat.lt_succ_of_lt (Nat.lt_succ_self _)))).below hb4 (Nat.le_refl _)
          have Y4 : Blk w4 (w.heap.size + 1) #[.int .i64 0, .slice none 0 0] 43 := (((Y.grown hg2 none_lt (Nat.lt_succ_self _)).grown hg3 ho2.lt (Nat.lt_succ_self _))).below hb4 (Nat.le_refl _)
          clear hx0 hx1 hy0 hy1 hf0 hf1 hg0 hg1
          have hx0 : w4.cell? ⟨w.heap.size, 0, none⟩ = some (.int .i64 l) := X4.cell 0
          have hx1 : w4.cell? ⟨w.heap.size, 1, none⟩ = some (.slice p xs.length cap) := X4.cell 1
          have hy0 : w4.cell? ⟨w.heap.size + 1, 0, none⟩ = some (.int .i64 0) := Y4.cell 0
          have hy1 : w4.cell? ⟨w.heap.size + 1, 1, none⟩ = some (.slice none 0 0) := Y4.cell 1
          have hf0 := X4.free 0
          have hf1 := X4.free 1
          have hg0 := Y4.free 0
          have hg1 := Y4.free 1
          have hbv : Below w.heap.size w w4 := hbw.trans (((below_grown hg2 (by omega) none_lt).trans (below_grown hg3 (by omega) (fun k hk => by have := ho2.lt k hk; omega))).trans (hb4.mono (by omega)))
          go_wp2_with fail
          have Z := (((Y4.set_other (g' := w.heap.size) 1 (.slice none 0 0) (by omega)).set 0 (.int .i64 l)).set 1 (.slice none 0 0))
          have z0 : World.cell? _ ⟨w.heap.size + 1, 0, none⟩ = some (.int .i64 l) := Z.cell 0
          have z1 : World.cell? _ ⟨w.heap.size + 1, 1, none⟩ = some (.slice none 0 0) := Z.cell 1
          have hbz := (((hbv.setCell (p := ⟨w.heap.size, 1, none⟩) (Nat.le_refl _) (.slice none 0 0)).setCell (p := ⟨w.heap.size + 1, 0, none⟩) (Nat.le_succ _) (.int .i64 l)).setCell (p := ⟨w.heap.size + 1, 1, none⟩) (Nat.le_succ _) (.slice none 0 0))
          refine bodyPost_ret (v := .tuple #[.agg #[.int .i64 l, .slice none 0 0], .int .i64 0]) (by simp [results, Try.results82, go_sem, z0, z1]) rfl ⟨_, rfl, ?_, .inr (none_lt), hbz⟩
          show RdB _ B _ ((foldL (xs ++ [(id, c)])).getD [])
          rw [Hz.out]
          exact RdB.nil _ _
end Go.Proofs.Ytejoecoenehooaa
