/- The walks of the reference's layer 13: Is, New, Weight, Cap, Compress. -/
import Derived.Test.YtbbkfjbaocpknaaGreatDg4
import Derived.Test.YtbbkfjbaocpknaaGreatPr11
namespace Go.Proofs.YtbbkfjbaocpknaaGreat
open Go.RowKit Nl

set_option maxRecDepth 100000 in
set_option maxHeartbeats 400000 in
theorem r_leaf (l x : Int) (w : World) (bl : In64 l) (bx : In64 x) :
    Calls Tryz.prog 172 #[.int .i64 l, .int .i64 x] w fun e w' => e = .returned (.tuple #[.int .i64 (leafV l x), .bool (leafB l x)]) ∧ w = w' := by
  obtain ⟨l1, l2⟩ := bl
  obtain ⟨x1, x2⟩ := bx
  by_cases hu : 1 ≤ l ∧ l ≤ 48
  · obtain ⟨h1, h2⟩ := hu
    have P := hid (r_power l w (by omega) h2)
    have hb : leafB l x = decide (0 ≤ x ∧ x < 2 ^ l.toNat) := by
      unfold leafB
      rw [decide_eq_decide]
      generalize (2 : Int) ^ l.toNat = M at *
      omega
    have hv : leafV l x = if leafB l x then 2 ^ l.toNat + x else 0 := rfl
    have hp := pow48 (n := l.toNat) (by omega)
    rw [hb] at hv ⊢
    generalize leafV l x = V at *
    generalize (2 : Int) ^ l.toNat = M at *
    clear hb
    by_cases h3 : 0 ≤ x
    · by_cases h4 : x < M
      · have e : V = M + x := by rw [hv, if_pos (by simp [h3, h4])]
        have e2 : decide (0 ≤ x ∧ x < M) = true := by simp [h3, h4]
        rw [e, e2]
        clear e e2 hv
        go_enter Tryz.func172, Tryz.ntmps172
        go_wp2_with (first | (go_at_call 197; go_in) | (go_at_call 89; refine P.out.mono ?_; rintro e w' ⟨rfl, rfl⟩))
        go_ret2
        exact ⟨rfl, rfl⟩
      · have e : V = 0 := by rw [hv, if_neg (by simp; omega)]
        have e2 : decide (0 ≤ x ∧ x < M) = false := by simp; omega
        rw [e, e2]
        clear e e2 hv
        go_enter Tryz.func172, Tryz.ntmps172
        go_wp2_with (first | (go_at_call 197; go_in) | (go_at_call 89; refine P.out.mono ?_; rintro e w' ⟨rfl, rfl⟩))
        go_ret2
        exact ⟨rfl, rfl⟩
    · have e : V = 0 := by rw [hv, if_neg (by simp; omega)]
      have e2 : decide (0 ≤ x ∧ x < M) = false := by simp; omega
      rw [e, e2]
      clear e e2 hv
      go_enter Tryz.func172, Tryz.ntmps172
      go_wp2_with (first | (go_at_call 197; go_in))
      go_ret2
      exact ⟨rfl, rfl⟩
  · have e : leafB l x = false := by simp [leafB]; omega
    have e2 : leafV l x = 0 := by simp [leafV, e]
    rw [e, e2]
    clear e e2
    rcases (show l < 1 ∨ 1 ≤ l ∧ 48 < l by omega) with h1 | ⟨h1, h2⟩
    all_goals
      go_enter Tryz.func172, Tryz.ntmps172
      go_wp2_with (first | (go_at_call 197; go_in))
      go_ret2
      exact ⟨rfl, rfl⟩

set_option maxRecDepth 100000 in
set_option maxHeartbeats 400000 in
theorem r_dis (l k kind : Int) (w : World) :
    Calls Tryz.prog 77 #[.agg #[.int .i64 l, .int .i64 k, .int .i64 kind]] w fun e w' => e = .returned (.bool (isK k && poolIs kind l)) ∧ Below w.heap.size w w' := by
  have K := hid (fun W : World => r_Is k W)
  have P := hid (fun W : World => r_poolIs kind l W)
  generalize isK k = b1 at *
  generalize poolIs kind l = b2 at *
  cases b1
  · go_enter Tryz.func77, Tryz.ntmps77
    go_wp2_with fail
    refine (K.out _).mono ?_
    rintro e w' ⟨rfl, rfl⟩
    go_wp2_with fail
    go_ret
    exact ⟨rfl, (Below.refl _ _).alloc (Nat.le_refl _) _⟩
  · go_enter Tryz.func77, Tryz.ntmps77
    go_wp2_with fail
    refine (K.out _).mono ?_
    rintro e w' ⟨rfl, rfl⟩
    go_wp2_with fail
    refine (P.out _).mono ?_
    rintro e w' ⟨rfl, rfl⟩
    go_wp2_with fail
    go_ret
    exact ⟨rfl, (Below.refl _ _).alloc (Nat.le_refl _) _⟩
set_option maxRecDepth 100000 in
set_option maxHeartbeats 400000 in
theorem r_dweight {w : World} {l : Int} {zs : List Nd} {v : Value} (k : Int) (hr : RdN w v zs) (hl : zs.length < 1048576) (hroll : Roll l zs) :
    Calls Tryz.prog 43 #[.agg #[.int .i64 k, .int .i64 l, v]] w fun e w' => e = .returned (.int .i64 (sumL zs)) ∧ Below w.heap.size w w' := by
  obtain ⟨p, cap, rfl⟩ := hr.val
  have ht := hroll.tot
  have T0 := fun W (q : RdN W (.slice p zs.length cap) zs) => r_sttotal l W q hl
  simp only [ht] at T0
  have T := hid T0
  have hba : Below w.heap.size w (w.alloc (.cells #[.int .i64 k, .int .i64 l, .slice p zs.length cap] 37)) := (Below.refl _ _).alloc (Nat.le_refl _) _
  clear T0 ht
  go_enter Tryz.func43, Tryz.ntmps43
  go_wp2_with fail
  refine (T.out _ (hr.below hba (Nat.le_refl _))).mono ?_
  rintro e w2 ⟨rfl, hb2⟩
  go_wp2_with fail
  go_ret
  exact ⟨rfl, hba.trans (hb2.mono (by simp))⟩
/-- What comes of the reference's Compress, Insert, Do. -/
def RDgPost (l k : Int) (R : List Nd × Int) (v0 : Value) (w : World) (e : Ending) (w' : World) : Prop :=
  ∃ v, e = .returned (.tuple #[.agg #[.int .i64 k, .int .i64 l, v], .int .i64 R.2]) ∧ RdN w' v R.1 ∧ FrV v0 v w.heap.size ∧ Below w.heap.size w w'
set_option maxRecDepth 100000 in
set_option maxHeartbeats 2000000 in
theorem r_dcompress {w : World} {l : Int} {zs : List Nd} {v : Value} (k : Int) (hr : RdN w v zs) (hl : zs.length ≤ 2000) (hroll : Roll l zs) (bk : In64 k) :
    Calls Tryz.prog 135 #[.agg #[.int .i64 k, .int .i64 l, v]] w (RDgPost l k ((comL l k zs).1, ((comL l k zs).2.length : Int)) v w) := by
  obtain ⟨p, cap, rfl⟩ := hr.val
  have R0 := fun W (q : RdN W (.slice p zs.length cap) zs) => r_crun k q hl hroll bk
  have X := (Blk.new w #[.int .i64 k, .int .i64 l, .slice p zs.length cap] 37).alloc (.cells #[.int .i64 0, .int .i64 0, .slice none 0 0] 37)
  have Z := Blk.new (w.alloc (.cells #[.int .i64 k, .int .i64 l, .slice p zs.length cap] 37)) #[.int .i64 0, .int .i64 0, .slice none 0 0] 37
  rw [World.size_alloc] at Z
  have hb0 : Below w.heap.size w ((w.alloc (.cells #[.int .i64 k, .int .i64 l, .slice p zs.length cap] 37)).alloc (.cells #[.int .i64 0, .int .i64 0, .slice none 0 0] 37)) := ((Below.refl _ _).alloc (Nat.le_refl _) _).alloc (by simp) _
  have hsz : ((w.alloc (.cells #[.int .i64 k, .int .i64 l, .slice p zs.length cap] 37)).alloc (.cells #[.int .i64 0, .int .i64 0, .slice none 0 0] 37)).heap.size = w.heap.size + 2 := by simp
  have hr1 := hr.below hb0 (Nat.le_refl _)
  have o1 : NotIn (.slice p zs.length cap) zs w.heap.size := NotIn.of_lt hr (Nat.le_refl _)
  have o2 : NotIn (.slice p zs.length cap) zs (w.heap.size + 1) := NotIn.of_lt hr (by omega)
  unfold comL
  generalize runR l (capV (sumL zs) k) zs = R at *
  obtain ⟨zs2, st⟩ := R
  have RR := hid R0
  clear R0
  go_enter Tryz.func135, Tryz.ntmps135
  go_wp2_with fail
  refine (RR.out _ hr1).mono ?_
  rintro e w2 ⟨v2, o, rfl, hr2, fv, ⟨ho2, _⟩, hb2⟩
  obtain ⟨p2, c2, rfl⟩ := hr2.val
  obtain ⟨po, co, rfl⟩ := ho2.val
  generalize ((w.alloc (.cells #[.int .i64 k, .int .i64 l, .slice p zs.length cap] 37)).alloc (.cells #[.int .i64 0, .int .i64 0, .slice none 0 0] 37)) = w1 at *
  have o12 := o1.next hr1 hr2 fv (by omega)
  have o22 := o2.next hr1 hr2 fv (by omega)
  have X2 := X.below hb2 (Nat.le_refl _)
  have Z2 := Z.below hb2 (Nat.le_refl _)
  have hs2 := hb2.size
  have hbw2 := hb0.trans (hb2.mono (by omega))
  have hbc : Below w2.heap.size w2 (w2.alloc (.cells #[.int .i64 l, .slice p2 zs2.length c2] 35)) := (Below.refl _ _).alloc (Nat.le_refl _) _
  have X3 := X2.below hbc (Nat.le_refl _)
  have Z3 := Z2.below hbc (Nat.le_refl _)
  have hr3 := hr2.below hbc (Nat.le_refl _)
  have hbw3 := hbw2.alloc hbw2.size (.cells #[.int .i64 l, .slice p2 zs2.length c2] 35)
  have fvw : FrV (.slice p zs.length cap) (.slice p2 zs2.length c2) w.heap.size := FrV.trans (.inl rfl) fv (by omega)
  have x20 : w2.cell? ⟨w.heap.size, 0, none⟩ = some (.int .i64 k) := X2.cell 0
  have x21 : w2.cell? ⟨w.heap.size, 1, none⟩ = some (.int .i64 l) := X2.cell 1
  have x22 : w2.cell? ⟨w.heap.size, 2, none⟩ = some (.slice p zs.length cap) := X2.cell 2
  have xf1 := X2.free 1
  have xf2 := X2.free 2
  have z20 : w2.cell? ⟨w.heap.size + 1, 0, none⟩ = some (.int .i64 0) := Z2.cell 0
  have z21 : w2.cell? ⟨w.heap.size + 1, 1, none⟩ = some (.int .i64 0) := Z2.cell 1
  have z22 : w2.cell? ⟨w.heap.size + 1, 2, none⟩ = some (.slice none 0 0) := Z2.cell 2
  have zf0 := Z2.free 0
  have zf1 := Z2.free 1
  have zf2 := Z2.free 2
  have x31 : (w2.alloc (.cells #[.int .i64 l, .slice p2 zs2.length c2] 35)).cell? ⟨w.heap.size, 1, none⟩ = some (.int .i64 l) := X3.cell 1
  have x32 : (w2.alloc (.cells #[.int .i64 l, .slice p2 zs2.length c2] 35)).cell? ⟨w.heap.size, 2, none⟩ = some (.slice p zs.length cap) := X3.cell 2
  have xg1 := X3.free 1
  have xg2 := X3.free 2
  have hne : w.heap.size + 1 ≠ w.heap.size := by omega
  have X4 := (X3.set 1 (.int .i64 l)).set 2 (.slice p2 zs2.length c2)
  have Z4 := (Z3.set_other 1 (.int .i64 l) hne).set_other 2 (.slice p2 zs2.length c2) hne
  have hr4 := (hr3.set_off o12 1 (.int .i64 l)).set_off o12 2 (.slice p2 zs2.length c2)
  have hbw4 := (hbw3.setCell (p := ⟨w.heap.size, 1, none⟩) (Nat.le_refl _) (.int .i64 l)).setCell (p := ⟨w.heap.size, 2, none⟩) (Nat.le_refl _) (.slice p2 zs2.length c2)
  have x40 : World.cell? _ ⟨w.heap.size, 0, none⟩ = some (.int .i64 k) := X4.cell 0
  have x41 : World.cell? _ ⟨w.heap.size, 1, none⟩ = some (.int .i64 l) := X4.cell 1
  have x42 : World.cell? _ ⟨w.heap.size, 2, none⟩ = some (.slice p2 zs2.length c2) := X4.cell 2
  have z40 : World.cell? _ ⟨w.heap.size + 1, 0, none⟩ = some (.int .i64 0) := Z4.cell 0
  have z41 : World.cell? _ ⟨w.heap.size + 1, 1, none⟩ = some (.int .i64 0) := Z4.cell 1
  have z42 : World.cell? _ ⟨w.heap.size + 1, 2, none⟩ = some (.slice none 0 0) := Z4.cell 2
  have zg0 := Z4.free 0
  have zg1 := Z4.free 1
  have zg2 := Z4.free 2
  clear RR hb2 hr2 X Z hb0 o1 o2 fv hr1
  go_wp2_with fail
  have Z5 := ((Z4.set 0 (.int .i64 k)).set 1 (.int .i64 l)).set 2 (.slice p2 zs2.length c2)
  have z50 : World.cell? _ ⟨w.heap.size + 1, 0, none⟩ = some (.int .i64 k) := Z5.cell 0
  have z51 : World.cell? _ ⟨w.heap.size + 1, 1, none⟩ = some (.int .i64 l) := Z5.cell 1
  have z52 : World.cell? _ ⟨w.heap.size + 1, 2, none⟩ = some (.slice p2 zs2.length c2) := Z5.cell 2
  refine bodyPost_ret (v := .tuple #[.agg #[.int .i64 k, .int .i64 l, .slice p2 zs2.length c2], .int .i64 st.length]) (by simp [results, Tryz.results135, go_sem, z50, z51, z52]) rfl ⟨_, rfl, ((hr4.set_off o22 _ _).set_off o22 _ _).set_off o22 _ _, fvw, ?_⟩
  exact ((hbw4.setCell (p := ⟨w.heap.size + 1, 0, none⟩) (by show w.heap.size ≤ w.heap.size + 1; omega) _).setCell (p := ⟨w.heap.size + 1, 1, none⟩) (by show w.heap.size ≤ w.heap.size + 1; omega) _).setCell (p := ⟨w.heap.size + 1, 2, none⟩) (by show w.heap.size ≤ w.heap.size + 1; omega) _
end Go.Proofs.YtbbkfjbaocpknaaGreat
