/- Texts laid together: Bl6, Bl7, Bl8, Bl9, Bl10. -/
import Derived.Test.YtbbkfjbaocpknaaGreatMM
import Derived.Test.YtbbkfjbaocpknaaGreatDR
import Derived.Test.YtbbkfjbaocpknaaGreatBL
/- The walks of the reference's layer 14. -/
namespace Go.Proofs.YtbbkfjbaocpknaaGreat
open Go.RowKit Nl

set_option maxRecDepth 100000 in
set_option maxHeartbeats 2000000 in
theorem r_blower_no {w : World} {l K : Int} {p : Option Addr} {n c : Nat} (k : Int) (h : k < 1 ∨ K < k) :
    Calls Tryz.prog 41 #[.agg #[.int .i64 K, .int .i64 l, .slice p n c], .int .i64 k] w fun e w' => e = .returned (.tuple #[.agg #[.int .i64 0, .int .i64 0, .slice none 0 0], .int .i64 2]) ∧ Below w.heap.size w w' := by
  have hb0 : Below w.heap.size w ((w.alloc (.cells #[.int .i64 K, .int .i64 l, .slice p n c] 37)).alloc (.cells #[.int .i64 0, .int .i64 0, .slice none 0 0] 37)) := ((Below.refl _ _).alloc (Nat.le_refl _) _).alloc (by simp) _
  by_cases h1 : k < 1
  · go_enter Tryz.func41, Tryz.ntmps41
    go_wp2_with fail
    exact bodyPost_ret (v := .tuple #[.agg #[.int .i64 0, .int .i64 0, .slice none 0 0], .int .i64 2]) (by simp [results, Tryz.results41, go_sem]) rfl ⟨rfl, hb0⟩
  · have h2 : K < k := by omega
    go_enter Tryz.func41, Tryz.ntmps41
    go_wp2_with fail
    exact bodyPost_ret (v := .tuple #[.agg #[.int .i64 0, .int .i64 0, .slice none 0 0], .int .i64 2]) (by simp [results, Tryz.results41, go_sem]) rfl ⟨rfl, hb0⟩

set_option maxRecDepth 100000 in
set_option maxHeartbeats 2000000 in
theorem r_blower {w : World} {l K : Int} {zs : List Nd} {v : Value} (k : Int) (hr : RdN w v zs) (hl : zs.length ≤ 2000) (hroll : Roll l zs) (h1 : 1 ≤ k) (h2 : k ≤ K) (bK : In64 K) :
    Calls Tryz.prog 41 #[.agg #[.int .i64 K, .int .i64 l, v], .int .i64 k] w fun e w' => ∃ v', e = .returned (.tuple #[.agg #[.int .i64 k, .int .i64 l, v'], .int .i64 0]) ∧ RdN w' v' (lowL l k zs) ∧ Below w.heap.size w w' := by
  obtain ⟨p, cap, rfl⟩ := hr.val
  have R0 := fun W (q : RdN W (.slice p zs.length cap) zs) => r_crun k q hl hroll ⟨by omega, by have := bK.2; omega⟩
  have X := (Blk.new w #[.int .i64 K, .int .i64 l, .slice p zs.length cap] 37).alloc (.cells #[.int .i64 0, .int .i64 0, .slice none 0 0] 37)
  have Z := Blk.new (w.alloc (.cells #[.int .i64 K, .int .i64 l, .slice p zs.length cap] 37)) #[.int .i64 0, .int .i64 0, .slice none 0 0] 37
  rw [World.size_alloc] at Z
  have hb0 : Below w.heap.size w ((w.alloc (.cells #[.int .i64 K, .int .i64 l, .slice p zs.length cap] 37)).alloc (.cells #[.int .i64 0, .int .i64 0, .slice none 0 0] 37)) := ((Below.refl _ _).alloc (Nat.le_refl _) _).alloc (by simp) _
  have hsz : ((w.alloc (.cells #[.int .i64 K, .int .i64 l, .slice p zs.length cap] 37)).alloc (.cells #[.int .i64 0, .int .i64 0, .slice none 0 0] 37)).heap.size = w.heap.size + 2 := by simp
  have hr1 := hr.below hb0 (Nat.le_refl _)
  have o2 : NotIn (.slice p zs.length cap) zs (w.heap.size + 1) := NotIn.of_lt hr (by omega)
  unfold lowL
  generalize runR l (capV (sumL zs) k) zs = R at *
  obtain ⟨zs2, st⟩ := R
  have RR := hid R0
  clear R0
  go_enter Tryz.func41, Tryz.ntmps41
  go_wp2_with fail
  refine (RR.out _ hr1).mono ?_
  rintro e w2 ⟨v2, o, rfl, hr2, fv, ⟨ho2, _⟩, hb2⟩
  obtain ⟨p2, c2, rfl⟩ := hr2.val
  obtain ⟨po, co, rfl⟩ := ho2.val
  generalize ((w.alloc (.cells #[.int .i64 K, .int .i64 l, .slice p zs.length cap] 37)).alloc (.cells #[.int .i64 0, .int .i64 0, .slice none 0 0] 37)) = w1 at *
  have o22 := o2.next hr1 hr2 fv (by omega)
  have Z2 := Z.below hb2 (Nat.le_refl _)
  have hs2 := hb2.size
  have hbw2 := hb0.trans (hb2.mono (by omega))
  have hbc : Below w2.heap.size w2 (w2.alloc (.cells #[.int .i64 l, .slice p2 zs2.length c2] 35)) := (Below.refl _ _).alloc (Nat.le_refl _) _
  have Z3 := Z2.below hbc (Nat.le_refl _)
  have hr3 := hr2.below hbc (Nat.le_refl _)
  have hbw3 := hbw2.alloc hbw2.size (.cells #[.int .i64 l, .slice p2 zs2.length c2] 35)
  have z20 : w2.cell? ⟨w.heap.size + 1, 0, none⟩ = some (.int .i64 0) := Z2.cell 0
  have z21 : w2.cell? ⟨w.heap.size + 1, 1, none⟩ = some (.int .i64 0) := Z2.cell 1
  have z22 : w2.cell? ⟨w.heap.size + 1, 2, none⟩ = some (.slice none 0 0) := Z2.cell 2
  have zf0 := Z2.free 0
  have zf1 := Z2.free 1
  have zf2 := Z2.free 2
  have hlz : w.heap.size + 1 < w2.heap.size := by omega
  have Z5 := (((Z2.set 0 (.int .i64 k)).set 1 (.int .i64 l)).set 2 (.slice p2 zs2.length c2)).alloc (.cells #[.int .i64 l, .slice p2 zs2.length c2] 35)
  have z50 : World.cell? _ ⟨w.heap.size + 1, 0, none⟩ = some (.int .i64 k) := Z5.cell 0
  have z51 : World.cell? _ ⟨w.heap.size + 1, 1, none⟩ = some (.int .i64 l) := Z5.cell 1
  have z52 : World.cell? _ ⟨w.heap.size + 1, 2, none⟩ = some (.slice p2 zs2.length c2) := Z5.cell 2
  clear RR hb2 X Z hb0 o2 fv hr1
  go_wp2_with fail
  refine bodyPost_ret (v := .tuple #[.agg #[.int .i64 k, .int .i64 l, .slice p2 zs2.length c2], .int .i64 0]) (by simp [results, Tryz.results41, go_sem, z50, z51, z52]) rfl ⟨_, rfl, (((hr2.set_off o22 _ _).set_off o22 _ _).set_off o22 _ _).alloc _, ?_⟩
  exact (((hbw2.setCell (p := ⟨w.heap.size + 1, 0, none⟩) (by show w.heap.size ≤ w.heap.size + 1; omega) _).setCell (p := ⟨w.heap.size + 1, 1, none⟩) (by show w.heap.size ≤ w.heap.size + 1; omega) _).setCell (p := ⟨w.heap.size + 1, 2, none⟩) (by show w.heap.size ≤ w.heap.size + 1; omega) _).alloc (by simp; omega) _
end Go.Proofs.YtbbkfjbaocpknaaGreat

/- The walk of law 14's Like, where it holds. -/
namespace Go.Proofs.YtbbkfjbaocpknaaGreat
open Go.RowKit Nl

set_option maxRecDepth 100000 in
set_option maxHeartbeats 4000000 in
theorem d_like14 {w : World} {dg q g h m : Nat} {kind l k : Int} {zs : List Nd} {v : Value} (d : DgV w dg q g h kind l k m zs) (hm : m ≤ 100000) (hr : RdN w v zs) (hl : zs.length ≤ 4000) :
    Calls Tryz.prog 12 #[.pointer (some ⟨dg, 0, none⟩), .int .i64 kind, .agg #[.int .i64 k, .int .i64 l, v]] w fun e w' => e = .returned (.bool true) ∧ Below w.heap.size w w' := by
  obtain ⟨p, cap, rfl⟩ := hr.val
  have hroll := d.inv.roll
  have CF := hid (fun W (y : DgV W dg q g h kind l k m zs) => dg_conf y)
  have NN := hid (fun W (y : DgV W dg q g h kind l k m zs) => dg_n y)
  have NO := hid (fun W (y : DgV W dg q g h kind l k m zs) => dg_nodes y hm)
  have WT := hid (fun W (y : RdN W (.slice p zs.length cap) zs) => r_dweight k y (by omega) hroll)
  have SM0 := fun W va (x : RdN W va zs) (y : RdN W (.slice p zs.length cap) zs) => r_same W x y (by omega) (by omega)
  simp only [decide_true] at SM0
  have SM := hid SM0
  have Y := Blk.new w #[.int .i64 k, .int .i64 l, .slice p zs.length cap] 37
  have hb0 : Below w.heap.size w (w.alloc (.cells #[.int .i64 k, .int .i64 l, .slice p zs.length cap] 37)) := (Below.refl _ _).alloc (Nat.le_refl _) _
  have hsz : (w.alloc (.cells #[.int .i64 k, .int .i64 l, .slice p zs.length cap] 37)).heap.size = w.heap.size + 1 := by simp
  have d1 := d.below hb0 (Nat.le_refl _)
  have hr1 := hr.below hb0 (Nat.le_refl _)
  have hce := fun W : World => conf_eq3 l k kind l k kind W
  have hz : ((l == l) && ((k == k) && (kind == kind))) = true := by simp
  rw [hz] at hce
  generalize sumL zs = S at *
  clear SM0 hroll d hz
  go_enter Tryz.func12, Tryz.ntmps12
  go_wp2_with fail
  generalize (w.alloc (.cells #[.int .i64 k, .int .i64 l, .slice p zs.length cap] 37)) = w1 at *
  have FX := hid (fun W (hb : Below w1.heap.size w1 W) => show W.cell? ⟨w.heap.size, 0, none⟩ = some (.int .i64 k) ∧ W.cell? ⟨w.heap.size, 1, none⟩ = some (.int .i64 l) ∧ W.cell? ⟨w.heap.size, 2, none⟩ = some (.slice p zs.length cap) ∧ Below w1.heap.size w1 W from
    ⟨(Y.below hb (Nat.le_refl _)).cell 0, (Y.below hb (Nat.le_refl _)).cell 1, (Y.below hb (Nat.le_refl _)).cell 2, hb⟩)
  have hB0 := Below.refl w1.heap.size w1
  have e1 : (S == S) = true := by simp
  go_region_held3 (fun w' => w'.cell? ⟨w.heap.size, 0, none⟩ = some (.int .i64 k) ∧ w'.cell? ⟨w.heap.size, 1, none⟩ = some (.int .i64 l) ∧ w'.cell? ⟨w.heap.size, 2, none⟩ = some (.slice p zs.length cap) ∧ Below w1.heap.size w1 w')
    (first
      | exact FX.out _ (below_drewN hB0 1)
      | exact FX.out _ hBn)
    (first
      | (go_at_call 30; have hBa := (‹_ ∧ _ ∧ _ ∧ Below w1.heap.size w1 _›).2.2.2; refine (CF.out _ (d1.below hBa (Nat.le_refl _))).mono ?_; rintro e w2 ⟨rfl, hb2⟩
         have hBn := hBa.trans (hb2.mono hBa.size))
      | (go_at_call 33; have hBa := (‹_ ∧ _ ∧ _ ∧ Below w1.heap.size w1 _›).2.2.2; refine (NO.out _ (d1.below hBa (Nat.le_refl _))).mono ?_; rintro e w3 hN; obtain ⟨v3, rfl, own3, hb3⟩ := hN; obtain ⟨p3, c3, rfl⟩ := own3.val
         have hBn := hBa.trans (hb3.mono hBa.size))
      | (go_at_call 32; have hBa := (‹_ ∧ _ ∧ _ ∧ Below w1.heap.size w1 _›).2.2.2; refine (SM.out _ _ own3.rd (hr1.below hBa (Nat.le_refl _))).mono ?_; rintro e w4 ⟨rfl, n4, rfl⟩
         have hBn := below_drewN hBa n4)
      | (go_at_call 31; have hBn := (‹_ ∧ _ ∧ _ ∧ Below w1.heap.size w1 _›).2.2.2; refine (NN.out _ (d1.below hBn (Nat.le_refl _))).mono ?_; rintro e w5 ⟨rfl, rfl⟩)
      | (go_at_call 43; have hBa := (‹_ ∧ _ ∧ _ ∧ Below w1.heap.size w1 _›).2.2.2; refine (WT.out _ (hr1.below hBa (Nat.le_refl _))).mono ?_; rintro e w6 ⟨rfl, hb6⟩
         have hBn := hBa.trans (hb6.mono hBa.size)))
  all_goals
    go_wp2_with fail
    go_ret
    exact ⟨rfl, hb0.trans (hBn.mono (by omega))⟩
end Go.Proofs.YtbbkfjbaocpknaaGreat

/- The walk of law 13's Few, where there is no digest. -/
namespace Go.Proofs.YtbbkfjbaocpknaaGreat
open Go.RowKit Nl

set_option maxRecDepth 100000 in
set_option maxHeartbeats 1000000 in
theorem d_few_no (l k kind n : Int) (w : World) (hP : (isK k && poolIs kind l) = false) :
    Calls Tryz.prog 37 #[.agg #[.int .i64 l, .int .i64 k, .int .i64 kind], .int .i64 n] w fun e w' => e = .returned (.bool false) ∧ Below w.heap.size w w' := by
  have IS0 := fun W : World => r_dis l k kind W
  rw [hP] at IS0
  have IS := hid IS0
  have hba : Below w.heap.size w (w.alloc (.cells #[.int .i64 l, .int .i64 k, .int .i64 kind] 27)) := (Below.refl _ _).alloc (Nat.le_refl _) _
  clear IS0 hP
  by_cases h60 : n ≤ 60
  · go_enter Tryz.func37, Tryz.ntmps37
    go_wp2_with fail
    refine (IS.out _).mono ?_
    rintro e w2 ⟨rfl, hb2⟩
    go_wp2_with fail
    go_ret
    exact ⟨rfl, hba.trans (hb2.mono hba.size)⟩
  · go_enter Tryz.func37, Tryz.ntmps37
    go_wp2_with fail
    go_ret
    exact ⟨rfl, hba⟩

set_option maxRecDepth 100000 in
set_option maxHeartbeats 1000000 in
/-- Law 14's Few is law 13's. -/
theorem s_few (l k kind : Int) (v : Value) (os : List Op3) (w : World) (ho : RdO w v os) (C : Bool → Prop)
    (F : ∀ W : World, Calls Tryz.prog 37 #[.agg #[.int .i64 l, .int .i64 k, .int .i64 kind], .int .i64 os.length] W fun e w' => ∃ b, e = .returned (.bool b) ∧ C b ∧ Below W.heap.size W w') :
    Calls Tryz.prog 8 #[.agg #[.int .i64 l, .int .i64 k, .int .i64 kind, v]] w fun e w' => ∃ b, e = .returned (.bool b) ∧ C b ∧ Below w.heap.size w w' := by
  obtain ⟨p, cap, rfl, hlen, -⟩ := id ho
  have FH := hid F
  have hba : Below w.heap.size w (w.alloc (.cells #[.int .i64 l, .int .i64 k, .int .i64 kind, .slice p os.length cap] 30)) := (Below.refl _ _).alloc (Nat.le_refl _) _
  clear ho F
  go_enter Tryz.func8, Tryz.ntmps8
  go_wp2_with fail
  refine (FH.out _).mono ?_
  rintro e w2 ⟨b, rfl, hC, hb2⟩
  go_wp2_with fail
  go_ret
  exact ⟨b, rfl, hC, hba.trans (hb2.mono hba.size)⟩
end Go.Proofs.YtbbkfjbaocpknaaGreat

/- The walk of the reference's Of: the digest of calls. -/
namespace Go.Proofs.YtbbkfjbaocpknaaGreat
open Go.RowKit Nl

def OfPost (l k : Int) (n : Nat) (Z : List Nd) (w : World) (e : Ending) (w' : World) : Prop := ∃ v, e = .returned (.agg #[.int .i64 k, .int .i64 l, v]) ∧ RdN w' v Z ∧ NotD v Z (fun j => j < w.heap.size) ∧ Dg l k Z ∧ Z.length ≤ n ∧ Below w.heap.size w w'
def OfRel (l k : Int) (os : List Op3) (N : Nat) (w : World) (gn : Nat) (i : Value) (wr : World) : Prop :=
  ∃ (j : Nat) (zs : List Nd) (v : Value), i = .int .i64 j ∧ j ≤ N ∧ N - j ≤ gn ∧ zs.length ≤ j ∧
    Blk wr w.heap.size #[.int .i64 0, .int .i64 0, .slice none 0 0] 37 ∧ Blk wr (w.heap.size + 1) #[.int .i64 k, .int .i64 l, v] 37 ∧ RdN wr v zs ∧ NotD v zs (fun j => j ≤ w.heap.size + 1) ∧ Dg l k zs ∧ Hid (dgAll l k (os.take j) = zs) ∧ Below w.heap.size w wr

set_option maxRecDepth 100000 in
set_option maxHeartbeats 4000000 in
theorem r_of (l k : Int) (v : Value) (os : List Op3) (w : World) (ho : RdO w v os) (hN : os.length ≤ 1000) (inv0 : Dg l k []) :
    Calls Tryz.prog 38 #[.int .i64 k, .int .i64 l, v] w (OfPost l k os.length (dgAll l k os) w) := by
  obtain ⟨p, cap, rfl, hlen, -⟩ := id ho
  have X := (Blk.new w #[.int .i64 0, .int .i64 0, .slice none 0 0] 37).alloc (.cells #[.int .i64 k, .int .i64 l, .slice none 0 0] 37)
  have Y := Blk.new (w.alloc (.cells #[.int .i64 0, .int .i64 0, .slice none 0 0] 37)) #[.int .i64 k, .int .i64 l, .slice none 0 0] 37
  rw [World.size_alloc] at Y
  have hb0 : Below w.heap.size w ((w.alloc (.cells #[.int .i64 0, .int .i64 0, .slice none 0 0] 37)).alloc (.cells #[.int .i64 k, .int .i64 l, .slice none 0 0] 37)) := ((Below.refl _ _).alloc (Nat.le_refl _) _).alloc (by simp) _
  have R0 : Hid (OfRel l k os os.length w os.length (.int .i64 (0 : Nat)) ((w.alloc (.cells #[.int .i64 0, .int .i64 0, .slice none 0 0] 37)).alloc (.cells #[.int .i64 k, .int .i64 l, .slice none 0 0] 37))) :=
    ⟨0, [], _, rfl, Nat.zero_le _, Nat.le_refl _, Nat.le_refl _, X, Y, RdN.nil _, .inl rfl, inv0, rfl, hb0⟩
  clear X Y hb0 inv0
  go_enter Tryz.func38, Tryz.ntmps38
  go_wp2_with fail
  generalize ((w.alloc (.cells #[.int .i64 0, .int .i64 0, .slice none 0 0] 37)).alloc (.cells #[.int .i64 k, .int .i64 l, .slice none 0 0] 37)) = w1 at *
  go_loopg [8] os.length (fun gn i wr => OfRel l k os os.length w gn i wr)
  case atStart => exact R0.out
  case round =>
    obtain ⟨j, zs, vz, rfl, hj, hgn, hzl, X, Y, hr, nd, inv, st, hbw⟩ := hrel
    obtain ⟨pz, cz, rfl⟩ := hr.val
    by_cases hlt : j < os.length
    · obtain ⟨o, x, wt, eo⟩ : ∃ o x wt, os.getD j (0, 0, 0) = (o, x, wt) := ⟨_, _, _, rfl⟩
      obtain ⟨p', cap', hv, _, hat⟩ := ho.below hbw (Nat.le_refl _)
      obtain ⟨gs, off, hp, hg', q0, q1, q2, bo, bx, bw⟩ := hat j hlt
      rw [eo] at q0 q1 q2 bo bx bw
      simp only [Value.slice.injEq, true_and] at hv
      obtain ⟨rfl, rfl⟩ := hv
      subst hp
      have st2 : dgAll l k (os.take (j + 1)) = (dgDo l k zs o x wt).1 := by rw [dgAll_step hlt eo, st.out]
      obtain ⟨DI, DL⟩ := inv.doo o x wt
      have RD := hid (fun W (y : RdN W (.slice pz zs.length cz) zs) => r_ddo o x wt y (by omega) inv bx bw)
      obtain ⟨R, eR⟩ : ∃ R, dgDo l k zs o x wt = R := ⟨_, rfl⟩
      rw [eR] at RD DI DL st2
      have ST := hid st2
      have y0 : wr.cell? ⟨w.heap.size + 1, 0, none⟩ = some (.int .i64 k) := Y.cell 0
      have y1 : wr.cell? ⟨w.heap.size + 1, 1, none⟩ = some (.int .i64 l) := Y.cell 1
      have y2 : wr.cell? ⟨w.heap.size + 1, 2, none⟩ = some (.slice pz zs.length cz) := Y.cell 2
      have hB0 := Below.refl wr.heap.size wr
      have hyl := Y.lt
      obtain ⟨Z, nn⟩ := R
      clear hat eo eR st2 st inv
      go_wp2_with fail
      go_region_with ((go_at_call 78; refine (RD.out _ (hr.below (below_drewN hB0 1) (Nat.le_refl _))).mono ?_; rintro e w5 ⟨v5, rfl, r5, fv5, hb5⟩; obtain ⟨p5, c5, rfl⟩ := r5.val; have Y5 := (Y.drewN 1).below hb5 (Nat.le_refl _); have c50 : w5.cell? ⟨w.heap.size + 1, 0, none⟩ = _ := Y5.cell 0; have c51 : w5.cell? ⟨w.heap.size + 1, 1, none⟩ = _ := Y5.cell 1; have c52 : w5.cell? ⟨w.heap.size + 1, 2, none⟩ = _ := Y5.cell 2; have f50 := Y5.free 0; have f51 := Y5.free 1; have f52 := Y5.free 2; have hl5 := Y5.lt))
      all_goals
        have hs5 := hb5.size
        have hs5' : wr.heap.size ≤ w5.heap.size := hs5
        have X5 := (X.drewN 1).below hb5 (Nat.le_refl _)
        have nd5 : NotD (.slice p5 Z.length c5) Z (fun j => j ≤ w.heap.size + 1) := nd.next hr r5 fv5 (fun i hi => by
          show i < wr.heap.size
          have : i ≤ w.heap.size + 1 := hi
          omega)
        have n1 : NotIn (.slice p5 Z.length c5) Z (w.heap.size + 1) := by
          rcases nd5 with h | h
          · exact .inl h
          · exact .inr fun i hi e => h i hi (by show i ≤ w.heap.size + 1; omega)
        have hbw5 : Below w.heap.size w w5 := hbw.trans (((below_drewN hB0 1).trans (hb5.mono (Nat.le_refl _))).mono hbw.size)
        have hx7 : w.heap.size ≠ w.heap.size + 1 := by omega
        have Y6 := ((Y5.set 0 (.int .i64 k)).set 1 (.int .i64 l)).set 2 (.slice p5 Z.length c5)
        have X6 := ((X5.set_other 0 (.int .i64 k) hx7).set_other 1 (.int .i64 l) hx7).set_other 2 (.slice p5 Z.length c5) hx7
        have r6 := ((r5.set_off n1 0 (.int .i64 k)).set_off n1 1 (.int .i64 l)).set_off n1 2 (.slice p5 Z.length c5)
        have hw5 : w.heap.size ≤ w.heap.size + 1 := by omega
        have hbw6 := ((hbw5.setCell (p := ⟨w.heap.size + 1, 0, none⟩) hw5 (.int .i64 k)).setCell (p := ⟨w.heap.size + 1, 1, none⟩) hw5 (.int .i64 l)).setCell (p := ⟨w.heap.size + 1, 2, none⟩) hw5 (.slice p5 Z.length c5)
        clear X5 Y5 hbw5 RD y0 y1 y2 hb5
        go_wp2_with fail
        go_roundg (os.length - (j + 1))
        case rel => exact ⟨j + 1, Z, _, by go_num, by omega, Nat.le_refl _, Nat.le_trans DL (by omega), X6, Y6, r6, nd5, DI, ST.out, hbw6⟩
        case measure => omega
    · have hjn : j = os.length := by omega
      have hst : zs = dgAll l k os := by rw [← st.out, hjn, dgAll_all]
      have HST := hid hst
      have y0 : wr.cell? ⟨w.heap.size + 1, 0, none⟩ = some (.int .i64 k) := Y.cell 0
      have y1 : wr.cell? ⟨w.heap.size + 1, 1, none⟩ = some (.int .i64 l) := Y.cell 1
      have y2 : wr.cell? ⟨w.heap.size + 1, 2, none⟩ = some (.slice pz zs.length cz) := Y.cell 2
      have x0 : wr.cell? ⟨w.heap.size, 0, none⟩ = some (.int .i64 0) := X.cell 0
      have x1 : wr.cell? ⟨w.heap.size, 1, none⟩ = some (.int .i64 0) := X.cell 1
      have x2 : wr.cell? ⟨w.heap.size, 2, none⟩ = some (.slice none 0 0) := X.cell 2
      have f0 := X.free 0
      have f1 := X.free 1
      have f2 := X.free 2
      have hxl := X.lt
      have n0 : NotIn (.slice pz zs.length cz) zs w.heap.size := by
        rcases nd with h | h
        · exact .inl h
        · exact .inr fun i hi e => h i hi (by show i ≤ w.heap.size + 1; omega)
      have X6 := ((X.set 0 (.int .i64 k)).set 1 (.int .i64 l)).set 2 (.slice pz zs.length cz)
      have r6 := ((hr.set_off n0 0 (.int .i64 k)).set_off n0 1 (.int .i64 l)).set_off n0 2 (.slice pz zs.length cz)
      have hbw6 := ((hbw.setCell (p := ⟨w.heap.size, 0, none⟩) (Nat.le_refl _) (.int .i64 k)).setCell (p := ⟨w.heap.size, 1, none⟩) (Nat.le_refl _) (.int .i64 l)).setCell (p := ⟨w.heap.size, 2, none⟩) (Nat.le_refl _) (.slice pz zs.length cz)
      have z0 : World.cell? _ ⟨w.heap.size, 0, none⟩ = some (.int .i64 k) := X6.cell 0
      have z1 : World.cell? _ ⟨w.heap.size, 1, none⟩ = some (.int .i64 l) := X6.cell 1
      have z2 : World.cell? _ ⟨w.heap.size, 2, none⟩ = some (.slice pz zs.length cz) := X6.cell 2
      clear hst st
      go_wp2_with fail
      refine bodyPost_ret (v := .agg #[.int .i64 k, .int .i64 l, .slice pz zs.length cz]) (by simp [results, Tryz.results38, go_sem, z0, z1, z2]) rfl ⟨_, rfl, ?_, ?_, ?_, ?_, hbw6⟩
      · rw [← HST.out]; exact r6
      · rw [← HST.out]; exact nd.imp id (fun h i hi e => h i hi (by have : i < w.heap.size := e; show i ≤ w.heap.size + 1; omega))
      · rw [← HST.out]; exact inv
      · rw [← HST.out]; omega
end Go.Proofs.YtbbkfjbaocpknaaGreat

/- The walk of law 14's Made: a side's digest, and the document's. -/
namespace Go.Proofs.YtbbkfjbaocpknaaGreat
open Go.RowKit Nl

def SdPost (l k kind : Int) (n : Nat) (F : List Nd) (w : World) (e : Ending) (w' : World) : Prop :=
  ∃ dg q g h v, e = .returned (.tuple #[.pointer (some ⟨dg, 0, none⟩), .agg #[.int .i64 k, .int .i64 l, v]]) ∧ DgV w' dg q g h kind l k 2000 F ∧ RdN w' v F ∧ F.length ≤ n ∧ (∀ j, DB dg q g h j → w.heap.size ≤ j) ∧ Below w.heap.size w w'
/-- The same; the document's nodes lie in memory of their own. -/
def SdPostF (l k kind : Int) (n : Nat) (F : List Nd) (w : World) (e : Ending) (w' : World) : Prop :=
  ∃ dg q g h v, e = .returned (.tuple #[.pointer (some ⟨dg, 0, none⟩), .agg #[.int .i64 k, .int .i64 l, v]]) ∧ DgV w' dg q g h kind l k 2000 F ∧ RdN w' v F ∧ F.length ≤ n ∧ (∀ j, DB dg q g h j → w.heap.size ≤ j) ∧ NotD v F (fun j => j < w.heap.size) ∧ Below w.heap.size w w'

set_option maxRecDepth 100000 in
set_option maxHeartbeats 4000000 in
theorem s_madeF (l k kind : Int) (v : Value) (os : List Op3) (w : World) (ho : RdO w v os) (hN : os.length ≤ 1000) (hP1 : poolIs kind l = true) (hP2 : isK k = true) :
    Calls Tryz.prog 9 #[.agg #[.int .i64 l, .int .i64 k, .int .i64 kind, v]] w (SdPostF l k kind os.length (dgAll l k os) w) := by
  obtain ⟨p, cap, rfl, hlen, -⟩ := id ho
  have X := (Blk.new w #[.int .i64 l, .int .i64 k, .int .i64 kind, .slice p os.length cap] 30).alloc (.cells #[.int .i64 0, .int .i64 0, .slice none 0 0] 37)
  have Y := Blk.new (w.alloc (.cells #[.int .i64 l, .int .i64 k, .int .i64 kind, .slice p os.length cap] 30)) #[.int .i64 0, .int .i64 0, .slice none 0 0] 37
  rw [World.size_alloc] at Y
  have hb0 : Below w.heap.size w ((w.alloc (.cells #[.int .i64 l, .int .i64 k, .int .i64 kind, .slice p os.length cap] 30)).alloc (.cells #[.int .i64 0, .int .i64 0, .slice none 0 0] 37)) := ((Below.refl _ _).alloc (Nat.le_refl _) _).alloc (by simp) _
  have hsx : ((w.alloc (.cells #[.int .i64 l, .int .i64 k, .int .i64 kind, .slice p os.length cap] 30)).alloc (.cells #[.int .i64 0, .int .i64 0, .slice none 0 0] 37)).heap.size = w.heap.size + 2 := by simp
  have ho1 := ho.below hb0 (Nat.le_refl _)
  have MD := hid (fun (W : World) (h : RdO W (.slice p os.length cap) os) => d_madeF l k kind _ os W h hN hP1 hP2)
  have OF := hid (fun (W : World) (h : RdO W (.slice p os.length cap) os) (i : Dg l k []) => r_of l k _ os W h hN i)
  clear ho hP1 hP2 hlen
  go_enter Tryz.func9, Tryz.ntmps9
  go_wp2_with fail
  refine (MD.out _ ho1).mono ?_
  rintro e w2 ⟨dg, q, g, h0, v2, zs, its, rfl, d, rb, -, ⟨mi, rfl⟩, hzl, hil, hdb, hb2⟩
  obtain ⟨p2, c2, rfl⟩ := rb.val
  generalize ((w.alloc (.cells #[.int .i64 l, .int .i64 k, .int .i64 kind, .slice p os.length cap] 30)).alloc (.cells #[.int .i64 0, .int .i64 0, .slice none 0 0] 37)) = w1 at *
  have inv0 : Dg l k [] := Dg.nil mi.dg.roll.l1 mi.dg.roll.l2 mi.dg.k1 mi.dg.k2
  have hs2 := hb2.size
  have hb3 : Below w2.heap.size w2 (w2.alloc (.cells #[.int .i64 l, .slice p2 its.length c2] 53)) := (Below.refl _ _).alloc (Nat.le_refl _) _
  have X3 := (X.below hb2 (Nat.le_refl _)).below hb3 (Nat.le_refl _)
  have Y3 := (Y.below hb2 (Nat.le_refl _)).below hb3 (Nat.le_refl _)
  have d3 := d.below hb3 (Nat.le_refl _)
  have ho3 := (ho1.below hb2 (Nat.le_refl _)).below hb3 (Nat.le_refl _)
  have hbw2 := hb0.trans (hb2.mono (by omega))
  have hbw3 := hbw2.trans (hb3.mono hbw2.size)
  have hs3 : (w2.alloc (.cells #[.int .i64 l, .slice p2 its.length c2] 53)).heap.size = w2.heap.size + 1 := by simp
  have hltd := d.ltB
  have x0 : World.cell? _ ⟨w.heap.size, 0, none⟩ = some (.int .i64 l) := X3.cell 0
  have x1 : World.cell? _ ⟨w.heap.size, 1, none⟩ = some (.int .i64 k) := X3.cell 1
  have x3 : World.cell? _ ⟨w.heap.size, 3, none⟩ = some (.slice p os.length cap) := X3.cell 3
  have OFF := hid (OF.out _ ho3 inv0)
  clear X Y d rb hb2 hb0 ho1 MD mi hzl hil OF hbw2
  go_wp2_with fail
  generalize (w2.alloc (.cells #[.int .i64 l, .slice p2 its.length c2] 53)) = w3 at *
  refine OFF.out.mono ?_
  rintro e w4 ⟨v4, rfl, r4, nd4, i4, hl4, hb4⟩
  have hs4 := hb4.size
  generalize dgAll l k os = F at *
  obtain ⟨p4, c4, rfl⟩ := r4.val
  have Y4 := Y3.below hb4 (Nat.le_refl _)
  have d4 := d3.below hb4 (Nat.le_refl _)
  have hbw4 := hbw3.trans (hb4.mono hbw3.size)
  have y40 : w4.cell? ⟨w.heap.size + 1, 0, none⟩ = some (.int .i64 0) := Y4.cell 0
  have y41 : w4.cell? ⟨w.heap.size + 1, 1, none⟩ = some (.int .i64 0) := Y4.cell 1
  have y42 : w4.cell? ⟨w.heap.size + 1, 2, none⟩ = some (.slice none 0 0) := Y4.cell 2
  have f0 := Y4.free 0
  have f1 := Y4.free 1
  have f2 := Y4.free 2
  have hyl := Y4.lt
  have nf : NotD (.slice p4 F.length c4) F (fun j => j < w.heap.size) := by
    rcases nd4 with h | h
    · exact .inl h
    · exact .inr fun i hi e => h i hi (by have h5 : i < w.heap.size := e; show i < w3.heap.size; omega)
  have n0 : NotIn (.slice p4 F.length c4) F (w.heap.size + 1) := by
    rcases nd4 with h | h
    · exact .inl h
    · exact .inr fun i hi e => h i hi (by show i < w3.heap.size; omega)
  have Y6 := ((Y4.set 0 (.int .i64 k)).set 1 (.int .i64 l)).set 2 (.slice p4 F.length c4)
  have hw5 : w.heap.size ≤ w.heap.size + 1 := by omega
  have hbw6 := ((hbw4.setCell (p := ⟨w.heap.size + 1, 0, none⟩) hw5 (.int .i64 k)).setCell (p := ⟨w.heap.size + 1, 1, none⟩) hw5 (.int .i64 l)).setCell (p := ⟨w.heap.size + 1, 2, none⟩) hw5 (.slice p4 F.length c4)
  have z0 : World.cell? _ ⟨w.heap.size + 1, 0, none⟩ = some (.int .i64 k) := Y6.cell 0
  have z1 : World.cell? _ ⟨w.heap.size + 1, 1, none⟩ = some (.int .i64 l) := Y6.cell 1
  have z2 : World.cell? _ ⟨w.heap.size + 1, 2, none⟩ = some (.slice p4 F.length c4) := Y6.cell 2
  have r6 := ((r4.set_off n0 0 (.int .i64 k)).set_off n0 1 (.int .i64 l)).set_off n0 2 (.slice p4 F.length c4)
  have d6 : DgV (((w4.setCell ⟨w.heap.size + 1, 0, none⟩ (.int .i64 k)).setCell ⟨w.heap.size + 1, 1, none⟩ (.int .i64 l)).setCell ⟨w.heap.size + 1, 2, none⟩ (.slice p4 F.length c4)) dg q g h0 kind l k 2000 F := d4.keepB (fun i _ hi => by
    have h1 := hdb i hi
    have h2 : i ≠ w.heap.size + 1 := by omega
    exact ((Below.heap_setCell _ ⟨w.heap.size + 1, 2, none⟩ _ i h2).trans (Below.heap_setCell _ ⟨w.heap.size + 1, 1, none⟩ _ i h2)).trans (Below.heap_setCell _ ⟨w.heap.size + 1, 0, none⟩ _ i h2))
  clear Y4 d4 r4 hbw4 OFF nd4
  go_wp2_with fail
  exact bodyPost_ret (v := .tuple #[.pointer (some ⟨dg, 0, none⟩), .agg #[.int .i64 k, .int .i64 l, .slice p4 F.length c4]]) (by simp [results, Tryz.results9, go_sem, z0, z1, z2]) rfl ⟨dg, q, g, h0, _, rfl, d6, r6, hl4, fun j hj => by have := hdb j hj; omega, nf, hbw6⟩
theorem s_made (l k kind : Int) (v : Value) (os : List Op3) (w : World) (ho : RdO w v os) (hN : os.length ≤ 1000) (hP1 : poolIs kind l = true) (hP2 : isK k = true) :
    Calls Tryz.prog 9 #[.agg #[.int .i64 l, .int .i64 k, .int .i64 kind, v]] w (SdPost l k kind os.length (dgAll l k os) w) :=
  (s_madeF l k kind v os w ho hN hP1 hP2).mono fun _ _ ⟨dg, q, g, h, u, h1, h2, h3, h4, h5, _, h7⟩ => ⟨dg, q, g, h, u, h1, h2, h3, h4, h5, h7⟩
end Go.Proofs.YtbbkfjbaocpknaaGreat
