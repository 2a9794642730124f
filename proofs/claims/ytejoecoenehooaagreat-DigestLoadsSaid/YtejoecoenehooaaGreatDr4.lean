/- The walks of the statements' Few, and of DigestPlays. -/
import Derived.Test.YtejoecoenehooaaGreatDr3
namespace Go.Proofs.YtejoecoenehooaaGreat
open Go.RowKit Nl

def FewPost (n : Int) (w : World) (e : Ending) (w' : World) : Prop := ∃ b, e = .returned (.bool b) ∧ (b = true → n ≤ 60) ∧ Below w.heap.size w w'
set_option maxRecDepth 100000 in
set_option maxHeartbeats 4000000 in
theorem d_few (l k kind n : Int) (w : World) (hk : isK k = true) (hp : poolIs kind l = true) (_h1 : 0 ≤ n) (hl1 : 1 ≤ l) (hl2 : l ≤ 48) :
    Calls Tryz.prog 19 #[.agg #[.int .i64 l, .int .i64 k, .int .i64 kind], .int .i64 n] w (FewPost n w) := by
  have IS0 := fun W : World => r_dis l k kind W
  rw [hk, hp] at IS0
  have IS := hid IS0
  simp only [isK, decide_eq_true_eq] at hk
  obtain ⟨k1, k2⟩ := hk
  have X := Blk.new w #[.int .i64 l, .int .i64 k, .int .i64 kind] 44
  have hba : Below w.heap.size w (w.alloc (.cells #[.int .i64 l, .int .i64 k, .int .i64 kind] 44)) := (Below.refl _ _).alloc (Nat.le_refl _) _
  have hsx : (w.alloc (.cells #[.int .i64 l, .int .i64 k, .int .i64 kind] 44)).heap.size = w.heap.size + 1 := by simp
  clear IS0 hp
  by_cases h60 : n ≤ 60
  · have P : ∀ b W, Below w.heap.size w W → FewPost n w (.returned (.bool b)) W := fun b W hb => ⟨b, rfl, fun _ => h60, hb⟩
    have P' := hid P
    have hm0 : 0 ≤ l * k := Int.mul_nonneg (by omega) (by omega)
    have hm1 : l * k ≤ 48 * 1048576 := Int.mul_le_mul hl2 k2 (by omega) (by omega)
    obtain ⟨M, eM⟩ : ∃ M, l * k = M := ⟨_, rfl⟩
    rw [eM] at hm0 hm1
    have hw1 : IntKind.i64.wrap (l * k) = M := by rw [eM]; exact IntWalk.i64_in _ ⟨by omega, by omega⟩
    have hw2 : wrap64 (l * k) = M := by rw [eM]; exact IntWalk.wrap64_in _ ⟨by omega, by omega⟩
    have HW1 := hid hw1
    have HW2 := hid hw2
    clear eM hw1 hw2 P
    by_cases h50 : k ≤ 50
    · by_cases hm : M ≤ 50
      · rcases (show (kind == 2) = true ∨ (kind == 2) = false by cases kind == 2 <;> simp) with hkd | hkd
        all_goals
          by_cases hl : l ≤ 10
          all_goals
            go_enter Tryz.func19, Tryz.ntmps19
            go_wp2_with fail
            refine (IS.out _).mono ?_
            rintro e w2 ⟨rfl, hb2⟩
            have X2 := X.below hb2 (Nat.le_refl _)
            have x0 : w2.cell? ⟨w.heap.size, 0, none⟩ = some (.int .i64 l) := X2.cell 0
            have x1 : w2.cell? ⟨w.heap.size, 1, none⟩ = some (.int .i64 k) := X2.cell 1
            have x2 : w2.cell? ⟨w.heap.size, 2, none⟩ = some (.int .i64 kind) := X2.cell 2
            have hw1 := HW1.out
            have hw2 := HW2.out
            go_wp2_with fail
            go_ret
            exact P'.out _ _ (hba.trans (hb2.mono (by omega)))
      · go_enter Tryz.func19, Tryz.ntmps19
        go_wp2_with fail
        refine (IS.out _).mono ?_
        rintro e w2 ⟨rfl, hb2⟩
        have X2 := X.below hb2 (Nat.le_refl _)
        have x0 : w2.cell? ⟨w.heap.size, 0, none⟩ = some (.int .i64 l) := X2.cell 0
        have x1 : w2.cell? ⟨w.heap.size, 1, none⟩ = some (.int .i64 k) := X2.cell 1
        have hw1 := HW1.out
        have hw2 := HW2.out
        go_wp2_with fail
        go_ret
        exact P'.out _ _ (hba.trans (hb2.mono (by omega)))
    · go_enter Tryz.func19, Tryz.ntmps19
      go_wp2_with fail
      refine (IS.out _).mono ?_
      rintro e w2 ⟨rfl, hb2⟩
      have X2 := X.below hb2 (Nat.le_refl _)
      have x1 : w2.cell? ⟨w.heap.size, 1, none⟩ = some (.int .i64 k) := X2.cell 1
      go_wp2_with fail
      go_ret
      exact P'.out _ _ (hba.trans (hb2.mono (by omega)))
  · have P : FewPost n w (.returned (.bool false)) (w.alloc (.cells #[.int .i64 l, .int .i64 k, .int .i64 kind] 44)) := ⟨false, rfl, (fun h => by cases h), hba⟩
    have P' := hid P
    clear P
    go_enter Tryz.func19, Tryz.ntmps19
    go_wp2_with fail
    go_ret
    exact P'.out

/-- A list's slice does not lie in the blocks S. -/
def NotD (v : Value) (xs : List Nd) (S : Nat → Prop) : Prop := xs = [] ∨ ∀ j, v.ownBlock = some j → ¬ S j
theorem NotD.next {w w' : World} {v v' : Value} {xs xs' : List Nd} {S : Nat → Prop} {n : Nat} (o : NotD v xs S) (h : RdN w v xs) (h' : RdN w' v' xs') (hv : FrV v v' n) (hS : ∀ j, S j → j < n) : NotD v' xs' S := by
  rcases hv with rfl | hv
  · rcases o with rfl | o
    · obtain ⟨p, c, e⟩ := h.val
      obtain ⟨p', c', e'⟩ := h'.val
      rw [e] at e'
      simp only [List.length_nil, Value.slice.injEq] at e'
      exact .inl (List.eq_nil_of_length_eq_zero e'.2.1.symm)
    · exact .inr o
  · exact .inr fun j hj hs => by have := hv j hj; have := hS j hs; omega
theorem NotD.keep {w w' : World} {v : Value} {xs : List Nd} {S S' : Nat → Prop} (o : NotD v xs S) (r : RdN w v xs) (c : ChB S' w w') (hS : ∀ j, S' j → S j) : RdN w' v xs := by
  rcases o with rfl | o
  · exact r.any
  · exact r.keep (fun j hj e => c.block j hj (fun hp => o j e (hS j hp))) c.size
theorem NotD.more {w : World} {v : Value} {xs : List Nd} {S S' : Nat → Prop} (o : NotD v xs S) (r : RdN w v xs) (hS : ∀ j, S' j → S j ∨ w.heap.size ≤ j) : NotD v xs S' := by
  rcases o with h | o
  · exact .inl h
  · rcases r.ltE with h | h
    · exact .inl h
    · exact .inr fun j hj hs => by
        rcases hS j hs with e | e
        · exact o j hj e
        · have := h j hj; omega

def PlyRel (dg q g h B b7 : Nat) (kind l k : Int) (N : Nat) (w : World) (gn : Nat) (i : Value) (wr : World) : Prop :=
  ∃ (j : Nat) (zs : List Nd) (h' : Nat) (v : Value), i = .int .i64 j ∧ j ≤ N ∧ N - j ≤ gn ∧ zs.length ≤ j ∧ (h' = h ∨ B ≤ h') ∧ B ≤ wr.heap.size ∧ DgV wr dg q g h' kind l k 2000 zs ∧
    Blk wr w.heap.size #[.int .i64 l, .int .i64 k, .int .i64 kind] 44 ∧ Blk wr b7 #[.int .i64 k, .int .i64 l, v] 52 ∧ RdN wr v zs ∧ NotD v zs (fun j => DB dg q g h' j ∨ j = b7) ∧ Below w.heap.size w wr

set_option maxRecDepth 100000 in
set_option maxHeartbeats 4000000 in
theorem DigestPlays_walk (l k kind : Int) (v : Value) (os : List Op3) (w : World) (_bl : In64 l) (bk : In64 k) (_bkind : In64 kind) (ho : RdO w v os) :
    Calls Tryz.prog 4 #[.agg #[.int .i64 l, .int .i64 k, .int .i64 kind], v] w fun e w' => e = .returned (.bool true) ∧ Below w.heap.size w w' := by
  have A := hid (fun W : World => d_alive W)
  have IS := hid (fun W : World => r_dis l k kind W)
  obtain ⟨p, cap, rfl, hlen, -⟩ := id ho
  have hba : Below w.heap.size w (w.alloc (.cells #[.int .i64 l, .int .i64 k, .int .i64 kind] 44)) := (Below.refl _ _).alloc (Nat.le_refl _) _
  have X := Blk.new w #[.int .i64 l, .int .i64 k, .int .i64 kind] 44
  have hsx : (w.alloc (.cells #[.int .i64 l, .int .i64 k, .int .i64 kind] 44)).heap.size = w.heap.size + 1 := by simp
  cases hP : (poolIs kind l && isK k)
  · have N := hid (fun W : World => dg_new_no kind l k W bk hP)
    have hP' : (isK k && poolIs kind l) = false := by rw [Bool.and_comm]; exact hP
    rw [hP'] at IS
    clear hP hP' ho
    go_enter Tryz.func4, Tryz.ntmps4
    go_wp2_with fail
    refine (N.out _).mono ?_
    rintro e w2 ⟨rfl, hb2⟩
    have X2 := X.below hb2 (Nat.le_refl _)
    have x0 : w2.cell? ⟨w.heap.size, 0, none⟩ = some (.int .i64 l) := X2.cell 0
    have x1 : w2.cell? ⟨w.heap.size, 1, none⟩ = some (.int .i64 k) := X2.cell 1
    have x2 : w2.cell? ⟨w.heap.size, 2, none⟩ = some (.int .i64 kind) := X2.cell 2
    have hB2 := hba.trans (hb2.mono (by omega))
    go_wp2_with fail
    refine (IS.out _).mono ?_
    rintro e w3 ⟨rfl, hb3⟩
    have hB3 := hB2.trans (hb3.mono hB2.size)
    go_wp2_with fail
    refine (A.out _).mono ?_
    rintro e w4 ⟨rfl, hb4⟩
    go_wp2_with fail
    go_ret
    exact ⟨rfl, hB3.trans (hb4.mono hB3.size)⟩
  simp only [Bool.and_eq_true] at hP
  have N := hid (fun W : World => dg_new kind l k W hP.1 hP.2)
  have hP2 := hP.2
  have hP1 := hP.1
  rw [hP1, hP2] at IS
  simp only [Bool.and_self] at IS
  have FW0 := fun (h1 : 1 ≤ l) (h2 : l ≤ 48) (W : World) => d_few l k kind os.length W hP2 hP1 (by omega) h1 h2
  have FW := hid FW0
  have RN := hid (fun W : World => r_dnew l k kind W)
  have hkb := hP2
  simp only [isK, decide_eq_true_eq] at hkb
  obtain ⟨k1, k2⟩ := hkb
  clear hP hP1 hP2 FW0
  go_enter Tryz.func4, Tryz.ntmps4
  go_wp2_with fail
  refine (N.out _).mono ?_
  rintro e w2 ⟨dg, q, g, h, rfl, d, hdg, hq, hg, hh, hb2⟩
  generalize (w.alloc (.cells #[.int .i64 l, .int .i64 k, .int .i64 kind] 44)) = w1 at *
  have X2 := X.below hb2 (Nat.le_refl _)
  have x0 : w2.cell? ⟨w.heap.size, 0, none⟩ = some (.int .i64 l) := X2.cell 0
  have x1 : w2.cell? ⟨w.heap.size, 1, none⟩ = some (.int .i64 k) := X2.cell 1
  have x2 : w2.cell? ⟨w.heap.size, 2, none⟩ = some (.int .i64 kind) := X2.cell 2
  have hs2 := hb2.size
  have hB2 := hba.trans (hb2.mono (by omega))
  have FW2 := hid (FW.out d.inv.roll.l1 d.inv.roll.l2)
  clear X hb2 N FW
  go_wp2_with fail
  refine (IS.out _).mono ?_
  rintro e w3 ⟨rfl, hb3⟩
  have X3 := X2.below hb3 (Nat.le_refl _)
  have d3 := d.below hb3 (Nat.le_refl _)
  have hs3 := hb3.size
  have hB3 := hB2.trans (hb3.mono hB2.size)
  have y0 : w3.cell? ⟨w.heap.size, 0, none⟩ = some (.int .i64 l) := X3.cell 0
  have y1 : w3.cell? ⟨w.heap.size, 1, none⟩ = some (.int .i64 k) := X3.cell 1
  have y2 : w3.cell? ⟨w.heap.size, 2, none⟩ = some (.int .i64 kind) := X3.cell 2
  clear X2 d hB2 x0 x1 x2 hb3
  go_wp2_with fail
  refine (FW2.out _).mono ?_
  rintro e w4 hF
  obtain ⟨b, rfl, hfew, hb4⟩ := hF
  have X4 := X3.below hb4 (Nat.le_refl _)
  have d4 := d3.below hb4 (Nat.le_refl _)
  have hs4 := hb4.size
  have hB4 := hB3.trans (hb4.mono hB3.size)
  have z0 : w4.cell? ⟨w.heap.size, 0, none⟩ = some (.int .i64 l) := X4.cell 0
  have z1 : w4.cell? ⟨w.heap.size, 1, none⟩ = some (.int .i64 k) := X4.cell 1
  have z2 : w4.cell? ⟨w.heap.size, 2, none⟩ = some (.int .i64 kind) := X4.cell 2
  clear X3 d3 hB3 y0 y1 y2 hb4 FW2 IS
  cases b
  · go_wp2_with fail
    refine (A.out _).mono ?_
    rintro e w5 ⟨rfl, hb5⟩
    go_wp2_with fail
    go_ret
    exact ⟨rfl, hB4.trans (hb5.mono hB4.size)⟩
  · have h60 : os.length ≤ 60 := by have := hfew rfl; omega
    clear hfew
    go_wp2_with fail
    refine (RN.out _).mono ?_
    rintro e w5 ⟨rfl, hb5⟩
    have hs5 := hb5.size
    have hbb : Below w5.heap.size w5 (w5.alloc (.cells #[.int .i64 k, .int .i64 l, .slice none 0 0] 52)) := (Below.refl _ _).alloc (Nat.le_refl _) _
    have Y6 := Blk.new w5 #[.int .i64 k, .int .i64 l, .slice none 0 0] 52
    have X6 := (X4.below hb5 (Nat.le_refl _)).below hbb (Nat.le_refl _)
    have d6 := (d4.below hb5 (Nat.le_refl _)).below hbb (Nat.le_refl _)
    have hB5 := hB4.trans (hb5.mono hB4.size)
    have hB6 := hB5.trans (hbb.mono hB5.size)
    have hs6 : (w5.alloc (.cells #[.int .i64 k, .int .i64 l, .slice none 0 0] 52)).heap.size = w5.heap.size + 1 := by simp
    have R0 : Hid (PlyRel dg q g h (w5.heap.size + 1) w5.heap.size kind l k os.length w os.length (.int .i64 (0 : Nat)) (w5.alloc (.cells #[.int .i64 k, .int .i64 l, .slice none 0 0] 52))) :=
      ⟨0, [], h, .slice none 0 0, rfl, Nat.zero_le _, Nat.le_refl _, Nat.zero_le _, .inl rfl, by omega, d6, X6, Y6, RdN.nil _, .inl rfl, hB6⟩
    have ltd := d4.ltB
    have lt7 : ∀ j, DB dg q g h j → j < w5.heap.size := fun j hj => by have := ltd j hj; omega
    have ltx := X4.lt
    clear Y6 X6 d6 hB5 hB6 X4 d4 hB4 hb5 hbb z0 z1 z2 RN ltd
    go_wp2_with fail
    generalize (w5.alloc (.cells #[.int .i64 k, .int .i64 l, .slice none 0 0] 52)) = w6 at *
    go_loopg [45] os.length (fun gn i wr => PlyRel dg q g h (w5.heap.size + 1) w5.heap.size kind l k os.length w gn i wr)
    case atStart => exact R0.out
    case round =>
      obtain ⟨j, zs, h', vz, rfl, hj, hgn, hzl, hh', hBr, d, Xc, Y7, hrz, nd, hbw⟩ := hrel
      by_cases hlt : j < os.length
      · obtain ⟨o, x, wt, eo⟩ : ∃ o x wt, os.getD j (0, 0, 0) = (o, x, wt) := ⟨_, _, _, rfl⟩
        obtain ⟨p', cap', hv, _, hat⟩ := ho.below hbw (Nat.le_refl _)
        obtain ⟨gs, off, hp, hg', q0, q1, q2, bo, bx, bw⟩ := hat j hlt
        rw [eo] at q0 q1 q2 bo bx bw
        simp only [Value.slice.injEq, true_and] at hv
        obtain ⟨rfl, rfl⟩ := hv
        subst hp
        have EO := hid eo
        obtain ⟨pz, cz, rfl⟩ := hrz.val
        have hba3 : Below wr.heap.size wr (wr.alloc (.cells #[.int .i64 o, .int .i64 x, .int .i64 wt] 55)) := (Below.refl _ _).alloc (Nat.le_refl _) _
        have Xo := Blk.new wr #[.int .i64 o, .int .i64 x, .int .i64 wt] 55
        have d3 := d.below hba3 (Nat.le_refl _)
        have Xc3 := Xc.below hba3 (Nat.le_refl _)
        have Y3 := Y7.below hba3 (Nat.le_refl _)
        have hr3 := hrz.below hba3 (Nat.le_refl _)
        have hs3' : (wr.alloc (.cells #[.int .i64 o, .int .i64 x, .int .i64 wt] 55)).heap.size = wr.heap.size + 1 := by simp
        have hbw3 := hbw.trans (hba3.mono hbw.size)
        have ltd := d.ltB
        have hl7 := Y7.lt
        have RD := hid (r_ddo o x wt hr3 (by omega) d.inv bx bw)
        have DI := d.inv.doo o x wt
        have DO := hid (fun W (y : DgV W dg q g h' kind l k 2000 zs) => dg_do y o x wt (by decide) (by omega) (by omega) bx bw)
        have y70 : wr.cell? ⟨w5.heap.size, 0, none⟩ = some (.int .i64 k) := Y7.cell 0
        have y71 : wr.cell? ⟨w5.heap.size, 1, none⟩ = some (.int .i64 l) := Y7.cell 1
        have y72 : wr.cell? ⟨w5.heap.size, 2, none⟩ = some (.slice pz zs.length cz) := Y7.cell 2
        clear hat eo hba3 d Xc Y7
        go_wp2_with fail
        refine RD.out.mono ?_
        rintro e w4' ⟨v4, rfl, hr4, fv4, hb4⟩
        generalize (wr.alloc (.cells #[.int .i64 o, .int .i64 x, .int .i64 wt] 55)) = w3' at *
        generalize dgDo l k zs o x wt = R at *
        obtain ⟨zs2, n2⟩ := R
        simp only at hr4
        obtain ⟨p4, c4, rfl⟩ := hr4.val
        obtain ⟨dinv, dlen⟩ := DI
        simp only at dinv dlen
        have DV := hid dinv
        clear dinv
        have dl2 : List.length (α := Nd) zs2 ≤ zs.length + 1 := dlen
        have hdb : ∀ i, DB dg q g h' i → i ≠ w5.heap.size ∧ i ≠ w.heap.size ∧ i ≠ wr.heap.size := fun i hi => by
          have h1 := ltd i hi
          rcases hi with e | e | e | e
          · have := lt7 dg (.inl rfl); omega
          · have := lt7 q (.inr (.inl rfl)); omega
          · have := lt7 g (.inr (.inr (.inl rfl))); omega
          · have := lt7 h (.inr (.inr (.inr rfl))); omega
        have o4 : NotD (.slice p4 zs2.length c4) zs2 (fun j => DB dg q g h' j ∨ j = w5.heap.size) := nd.next hr3 hr4 fv4 (fun i hi => by
          rcases hi with e | e
          · have := ltd i e; omega
          · omega)
        have hs4' := hb4.size
        have hbc : Below w4'.heap.size w4' (w4'.alloc (.cells #[.int .i64 k, .int .i64 l, .slice p4 zs2.length c4] 52)) := (Below.refl _ _).alloc (Nat.le_refl _) _
        have Y5 := (Y3.below hb4 (Nat.le_refl _)).below hbc (Nat.le_refl _)
        have Xc5 := (Xc3.below hb4 (Nat.le_refl _)).below hbc (Nat.le_refl _)
        have Xo5 := (Xo.below hb4 (Nat.le_refl _)).below hbc (Nat.le_refl _)
        have d5 := (d3.below hb4 (Nat.le_refl _)).below hbc (Nat.le_refl _)
        have hr5 := hr4.below hbc (Nat.le_refl _)
        have hbw5 := (hbw3.trans (hb4.mono hbw3.size)).trans (hbc.mono (by have := hbw3.size; omega))
        have f50 := Y5.free 0
        have f51 := Y5.free 1
        have f52 := Y5.free 2
        have u50 : World.cell? _ ⟨w5.heap.size, 0, none⟩ = some (.int .i64 k) := Y5.cell 0
        have u51 : World.cell? _ ⟨w5.heap.size, 1, none⟩ = some (.int .i64 l) := Y5.cell 1
        have u52 : World.cell? _ ⟨w5.heap.size, 2, none⟩ = some (.slice pz zs.length cz) := Y5.cell 2
        have nb : NotIn (.slice p4 zs2.length c4) zs2 w5.heap.size := by
          rcases o4 with h | h
          · exact .inl h
          · exact .inr fun i hi e => h i hi (.inr e)
        have Y6 := ((Y5.set 0 (.int .i64 k)).set 1 (.int .i64 l)).set 2 (.slice p4 zs2.length c4)
        have hx7 : w.heap.size ≠ w5.heap.size := by omega
        have hx8 : wr.heap.size ≠ w5.heap.size := by omega
        have Xc6 := ((Xc5.set_other 0 (.int .i64 k) hx7).set_other 1 (.int .i64 l) hx7).set_other 2 (.slice p4 zs2.length c4) hx7
        have Xo6 := ((Xo5.set_other 0 (.int .i64 k) hx8).set_other 1 (.int .i64 l) hx8).set_other 2 (.slice p4 zs2.length c4) hx8
        have hr6 := ((hr5.set_off nb 0 (.int .i64 k)).set_off nb 1 (.int .i64 l)).set_off nb 2 (.slice p4 zs2.length c4)
        have hw5 : w.heap.size ≤ w5.heap.size := by omega
        have hbw6 := ((hbw5.setCell (p := ⟨w5.heap.size, 0, none⟩) hw5 (.int .i64 k)).setCell (p := ⟨w5.heap.size, 1, none⟩) hw5 (.int .i64 l)).setCell (p := ⟨w5.heap.size, 2, none⟩) hw5 (.slice p4 zs2.length c4)
        have d6 : DgV ((((w4'.alloc (.cells #[.int .i64 k, .int .i64 l, .slice p4 zs2.length c4] 52)).setCell ⟨w5.heap.size, 0, none⟩ (.int .i64 k)).setCell ⟨w5.heap.size, 1, none⟩ (.int .i64 l)).setCell ⟨w5.heap.size, 2, none⟩ (.slice p4 zs2.length c4)) dg q g h' kind l k 2000 zs := d5.keepB (fun i _ hi => by
          have := (hdb i hi).1
          exact ((Below.heap_setCell _ ⟨w5.heap.size, 2, none⟩ _ i this).trans (Below.heap_setCell _ ⟨w5.heap.size, 1, none⟩ _ i this)).trans (Below.heap_setCell _ ⟨w5.heap.size, 0, none⟩ _ i this))
        have hs6' : ((((w4'.alloc (.cells #[.int .i64 k, .int .i64 l, .slice p4 zs2.length c4] 52)).setCell ⟨w5.heap.size, 0, none⟩ (.int .i64 k)).setCell ⟨w5.heap.size, 1, none⟩ (.int .i64 l)).setCell ⟨w5.heap.size, 2, none⟩ (.slice p4 zs2.length c4)).heap.size = w4'.heap.size + 1 := by simp
        have DO6 := hid (DO.out _ d6)
        have xo0 : World.cell? _ ⟨wr.heap.size, 0, none⟩ = some (.int .i64 o) := Xo6.cell 0
        have xo1 : World.cell? _ ⟨wr.heap.size, 1, none⟩ = some (.int .i64 x) := Xo6.cell 1
        have xo2 : World.cell? _ ⟨wr.heap.size, 2, none⟩ = some (.int .i64 wt) := Xo6.cell 2
        have w4o0 : w4'.cell? ⟨wr.heap.size, 0, none⟩ = some (.int .i64 o) := (Xo.below hb4 (Nat.le_refl _)).cell 0
        clear Y5 Xc5 Xo5 d5 hr5 hbw5 DO d3 Xc3 Y3 hr3 RD nd hr4 hbc hrz y70 y71 y72
        go_wp2_with fail
        generalize ((((w4'.alloc (.cells #[.int .i64 k, .int .i64 l, .slice p4 zs2.length c4] 52)).setCell ⟨w5.heap.size, 0, none⟩ (.int .i64 k)).setCell ⟨w5.heap.size, 1, none⟩ (.int .i64 l)).setCell ⟨w5.heap.size, 2, none⟩ (.slice p4 zs2.length c4)) = w6' at *
        refine DO6.out.mono ?_
        rintro e w8 ⟨rfl, h8, d8, hh8, c8⟩
        have hs8 := c8.size
        have Y8 := Y6.keep (c8.block _ Y6.lt (fun hp => (hdb _ hp).1 rfl))
        have Xc8 := Xc6.keep (c8.block _ Xc6.lt (fun hp => (hdb _ hp).2.1 rfl))
        have hr8 := o4.keep hr6 c8 (fun i hi => .inl hi)
        have nd8 : NotD (.slice p4 zs2.length c4) zs2 (fun j => DB dg q g h8 j ∨ j = w5.heap.size) := o4.more hr6 (fun i hi => by
          rcases hi with (e | e | e | e) | e
          · exact .inl (.inl (.inl e))
          · exact .inl (.inl (.inr (.inl e)))
          · exact .inl (.inl (.inr (.inr (.inl e))))
          · rcases hh8 with f | f
            · exact .inl (.inl (.inr (.inr (.inr (e.trans f)))))
            · exact .inr (by omega)
          · exact .inl (.inr e))
        have hbw8 : Below w.heap.size w w8 := hbw6.trans (c8.below (fun i hi hp => by
          rcases hp with e | e | e | e <;> omega) hbw6.size)
        have hne : (n2 != n2) = false := by simp
        have LK := hid (d_like d8 (by decide) hr8 (Nat.le_trans dlen (by omega)))
        have v80 : w8.cell? ⟨w5.heap.size, 0, none⟩ = some (.int .i64 k) := Y8.cell 0
        have v81 : w8.cell? ⟨w5.heap.size, 1, none⟩ = some (.int .i64 l) := Y8.cell 1
        have v82 : w8.cell? ⟨w5.heap.size, 2, none⟩ = some (.slice p4 zs2.length c4) := Y8.cell 2
        have x80 : w8.cell? ⟨w.heap.size, 0, none⟩ = some (.int .i64 l) := Xc8.cell 0
        have x81 : w8.cell? ⟨w.heap.size, 1, none⟩ = some (.int .i64 k) := Xc8.cell 1
        have x82 : w8.cell? ⟨w.heap.size, 2, none⟩ = some (.int .i64 kind) := Xc8.cell 2
        clear DO6 c8 hr6 d6 Xc6 Xo6 Y6
        go_wp2_with fail
        refine LK.out.mono ?_
        rintro e w9 ⟨rfl, hb9⟩
        have hs9 := hb9.size
        have Y9 := Y8.below hb9 (Nat.le_refl _)
        have Xc9 := Xc8.below hb9 (Nat.le_refl _)
        have hr9 := hr8.below hb9 (Nat.le_refl _)
        have d9 := hid (d8.below hb9 (Nat.le_refl _))
        have hbw9 := hbw8.trans (hb9.mono hbw8.size)
        clear LK d8 hr8 Y8 Xc8 v80 v81 v82 x80 x81 x82 hb9
        go_wp2_with fail
        go_roundg (os.length - (j + 1))
        case rel => exact ⟨j + 1, zs2, h8, _, by go_num, by omega, Nat.le_refl _, Nat.le_trans dlen (by omega), by omega, by omega, d9.out, Xc9, Y9, hr9, nd8, hbw9⟩
        case measure => omega
      · go_wp2_with fail
        refine (A.out _).mono ?_
        rintro e w7 ⟨rfl, hb7⟩
        go_wp2_with fail
        go_ret
        exact ⟨rfl, hbw.trans (hb7.mono hbw.size)⟩
end Go.Proofs.YtejoecoenehooaaGreat
