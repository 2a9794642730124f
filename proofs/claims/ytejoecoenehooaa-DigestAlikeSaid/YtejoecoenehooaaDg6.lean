/- The walks of digest.Clone, and of DigestBounds. -/
import Derived.Test.YtejoecoenehooaaDg4
import Derived.Test.YtejoecoenehooaaOpenDop
import Derived.Deep.CutBlock
import Derived.Deep.LoopGhost
namespace Go.Proofs.Ytejoecoenehooaa
open Go.RowKit Nl

def DgClone (kind l k : Int) (m : Nat) (zs : List Nd) (w : World) (e : Ending) (w' : World) : Prop :=
  ∃ dg q g h, e = .returned (.pointer (some ⟨dg, 0, none⟩)) ∧ DgV w' dg q g h kind l k m zs ∧ w.heap.size ≤ dg ∧ w.heap.size ≤ q ∧ w.heap.size ≤ g ∧ w.heap.size ≤ h ∧ Below w.heap.size w w'
section
variable {w : World} {dg q g h m : Nat} {kind l k : Int} {zs : List Nd}
set_option maxRecDepth 100000 in
set_option maxHeartbeats 1000000 in
theorem dg_clone (d : DgV w dg q g h kind l k m zs) (hm : m ≤ 100000) :
    Calls Try.prog 58 #[.pointer (some ⟨dg, 0, none⟩)] w (DgClone kind l k m zs w) := by
  have C := hid (fun W (x : PoolV W q g h kind l m zs) => pl_clone x hm)
  have dp := d.pool
  have inv := hid d.inv
  have bd := d.1
  have hdl := bd.lt
  have c0 : w.cell? ⟨dg, 0, none⟩ = some (.int .i64 k) := bd.cell 0
  have c1 : w.cell? ⟨dg, 1, none⟩ = some (.pointer (some ⟨q, 0, none⟩)) := bd.cell 1
  have hB0 := Below.refl w.heap.size w
  clear d
  go_enter Try.func58, Try.ntmps58
  go_wp2_with fail
  go_region_held3 (fun w' => w'.cell? ⟨dg, 0, none⟩ = some (.int .i64 k) ∧ w'.cell? ⟨dg, 1, none⟩ = some (.pointer (some ⟨q, 0, none⟩)) ∧ Below w.heap.size w w')
    (first
      | exact ⟨c0, c1, below_drewN hB0 1⟩
      | exact ⟨(bd.below' hBn hdl).cell 0, (bd.below' hBn hdl).cell 1, hBn⟩
      | exact ⟨(bd.below' hBm hdl).cell 0, (bd.below' hBm hdl).cell 1, hBm⟩)
    ((go_at_call 110; have hBa := (‹_ ∧ _ ∧ Below w.heap.size w _›).2.2; refine (C.out _ (dp.below hBa (Nat.le_refl _))).mono ?_; rintro e w5 ⟨q5, g5, h5, rfl, d5, hq5, hg5, hh5, hb5⟩
      have hBn := hBa.trans (hb5.mono hBa.size)
      have hsa := hBa.size
      have hBm := hBn.alloc hBn.size (.cells #[.int .i64 k, .pointer (some ⟨q5, 0, none⟩)] 137)))
  have Y := Blk.new w5 #[.int .i64 k, .pointer (some ⟨q5, 0, none⟩)] 137
  have d6 := d5.below ((Below.refl w5.heap.size w5).alloc (Nat.le_refl _) (.cells #[.int .i64 k, .pointer (some ⟨q5, 0, none⟩)] 137)) (Nat.le_refl _)
  have lt5 := d5.lt
  have hs5 := hBn.size
  go_wp2_with fail
  go_ret
  exact ⟨w5.heap.size, q5, g5, h5, rfl, ⟨Y, d6, by omega, by omega, by omega, inv.out⟩, by omega, by omega, by omega, by omega, hBm⟩
end

/-- What a call does to what all nodes weigh. -/
theorem Nl.bnd_cases {l k : Int} {zs : List (Int × Int)} (d : Dg l k zs) (o x wt : Int) :
    (o = 2 ∧ sumL (dgDo l k zs o x wt).1 = 0) ∨ (o = 1 ∧ sumL (dgDo l k zs o x wt).1 = sumL zs ∧ ((dgDo l k zs o x wt).1.length : Int) ≤ 4 * k - 1 ∧ comL l k (dgDo l k zs o x wt).1 = ((dgDo l k zs o x wt).1, [])) ∨
    (o ≠ 1 ∧ o ≠ 2 ∧ (dgDo l k zs o x wt).2 = 0 ∧ sumL (dgDo l k zs o x wt).1 = sumL zs + wt ∧ 1 ≤ wt ∧ sumL zs + wt ≤ 72057594037927935) ∨
    (o ≠ 1 ∧ o ≠ 2 ∧ (dgDo l k zs o x wt).2 ≠ 0 ∧ sumL (dgDo l k zs o x wt).1 = sumL zs) := by
  by_cases h1 : o = 1
  · subst h1
    obtain ⟨_, c2, _, c4, _⟩ := d.com
    exact .inr (.inl ⟨rfl, c2, c4, com_twice d⟩)
  by_cases h2 : o = 2
  · subst h2; exact .inl ⟨rfl, rfl⟩
  have e : dgDo l k zs o x wt = dgIns l k zs x wt := by unfold dgDo; rw [if_neg h1, if_neg h2]
  rw [e]
  obtain ⟨_, _, i3, i4⟩ := d.ins x wt
  by_cases h3 : (dgIns l k zs x wt).2 = 0
  · obtain ⟨_, j2, j3, j4⟩ := i3 h3
    exact .inr (.inr (.inl ⟨h1, h2, h3, j4, j2, j3⟩))
  · exact .inr (.inr (.inr ⟨h1, h2, h3, by rw [i4 h3]⟩))
/-- Folded once, nothing can be folded. -/
theorem Nl.bnd_com {l k : Int} {zs : List (Int × Int)} (d : Dg l k zs) : comL l k (comL l k zs).1 = ((comL l k zs).1, []) := com_twice d

/-- Under way: so many calls, and what came of them. -/
def BndRel (dg q g h B : Nat) (kind l k : Int) (N : Nat) (w : World) (gn : Nat) (nv i : Value) (wr : World) : Prop :=
  ∃ (j : Nat) (zs : List Nd) (h' : Nat), i = .int .i64 j ∧ j ≤ N ∧ N - j ≤ gn ∧ nv = .int .i64 (sumL zs) ∧ zs.length ≤ j ∧ (h' = h ∨ B ≤ h') ∧ B ≤ wr.heap.size ∧ DgV wr dg q g h' kind l k 2000 zs ∧ Blk wr w.heap.size #[.int .i64 l, .int .i64 k, .int .i64 kind] 68 ∧ Below w.heap.size w wr

set_option maxRecDepth 100000 in
set_option maxHeartbeats 4000000 in
theorem DigestBounds_walk (l k kind : Int) (v : Value) (os : List Op3) (w : World) (bl : In64 l) (bk : In64 k) (_bkind : In64 kind) (ho : RdO w v os) :
    Calls Try.prog 9 #[.agg #[.int .i64 l, .int .i64 k, .int .i64 kind], v] w fun e w' => e = .returned (.bool true) ∧ Below w.heap.size w w' := by
  have A := hid (fun W : World => d_alive W)
  obtain ⟨p, cap, rfl, hlen, hat⟩ := id ho
  have hba : Below w.heap.size w (w.alloc (.cells #[.int .i64 l, .int .i64 k, .int .i64 kind] 68)) := (Below.refl _ _).alloc (Nat.le_refl _) _
  have X := Blk.new w #[.int .i64 l, .int .i64 k, .int .i64 kind] 68
  have hsx : (w.alloc (.cells #[.int .i64 l, .int .i64 k, .int .i64 kind] 68)).heap.size = w.heap.size + 1 := by simp
  have ho1 := ho.below hba (Nat.le_refl _)
  obtain ⟨l1, l2⟩ := bl
  by_cases hbig : 200 < os.length
  · clear hat ho ho1
    go_enter Try.func9, Try.ntmps9
    go_wp2_with fail
    refine (A.out _).mono ?_
    rintro e w2 ⟨rfl, hb2⟩
    go_wp2_with fail
    go_ret
    exact ⟨rfl, hba.trans (hb2.mono (by omega))⟩
  by_cases hdl : kind = 1 ∧ 10 < l
  · obtain ⟨rfl, hl10⟩ := hdl
    clear hat ho ho1
    go_enter Try.func9, Try.ntmps9
    go_wp2_with fail
    refine (A.out _).mono ?_
    rintro e w2 ⟨rfl, hb2⟩
    go_wp2_with fail
    go_ret
    exact ⟨rfl, hba.trans (hb2.mono (by omega))⟩
  cases hP : (poolIs kind l && isK k)
  · go_enter Try.func9, Try.ntmps9
    go_upto_region 1 with fail
    go_cut [24] (fun s wx => s = .bool false ∧ wx = w.alloc (.cells #[.int .i64 l, .int .i64 k, .int .i64 kind] 68))
    case first =>
      rcases (show (kind == 1) = true ∧ l ≤ 10 ∨ (kind == 1) = false by
        by_cases e : kind = 1
        · left; exact ⟨by simp [e], by omega⟩
        · right; simpa using e) with ⟨hk1, hl10⟩ | hk1
      all_goals
        go_wp2_with fail
        go_meet
        exact ⟨by simp <;> omega, rfl⟩
    case rest =>
      obtain ⟨rfl, rfl⟩ := hcut
      have N := hid (fun W : World => dg_new_no kind l k W bk hP)
      clear hP hat ho ho1 hdl
      go_wp2_with fail
      refine (N.out _).mono ?_
      rintro e w2 ⟨rfl, hb2⟩
      have hs2 := hb2.size
      go_wp2_with fail
      refine (A.out _).mono ?_
      rintro e w3 ⟨rfl, hb3⟩
      go_wp2_with fail
      go_ret
      exact ⟨rfl, (hba.trans (hb2.mono (by omega))).trans (hb3.mono (by omega))⟩
  · go_enter Try.func9, Try.ntmps9
    go_upto_region 1 with fail
    go_cut [24] (fun s wx => s = .bool false ∧ wx = w.alloc (.cells #[.int .i64 l, .int .i64 k, .int .i64 kind] 68))
    case first =>
      rcases (show (kind == 1) = true ∧ l ≤ 10 ∨ (kind == 1) = false by
        by_cases e : kind = 1
        · left; exact ⟨by simp [e], by omega⟩
        · right; simpa using e) with ⟨hk1, hl10⟩ | hk1
      all_goals
        go_wp2_with fail
        go_meet
        exact ⟨by simp <;> omega, rfl⟩
    case rest =>
      obtain ⟨rfl, rfl⟩ := hcut
      simp only [Bool.and_eq_true] at hP
      have N := hid (fun W : World => dg_new kind l k W hP.1 hP.2)
      have hP2 := hP.2
      simp only [isK, decide_eq_true_eq] at hP2
      obtain ⟨k1, k2⟩ := hP2
      clear hP hdl
      go_wp2_with fail
      refine (N.out _).mono ?_
      rintro e w2 ⟨dg, q, g, h, rfl, d, hdg, hq, hg, hh, hb2⟩
      generalize (w.alloc (.cells #[.int .i64 l, .int .i64 k, .int .i64 kind] 68)) = w1 at *
      have X2 := X.below hb2 (Nat.le_refl _)
      have ho2 := ho1.below hb2 (Nat.le_refl _)
      have hs2 := hb2.size
      have hB2 := hba.trans (hb2.mono (by omega))
      have R0 : Hid (BndRel dg q g h w2.heap.size kind l k os.length w os.length (.int .i64 0) (.int .i64 (0 : Nat)) w2) := ⟨0, [], h, rfl, Nat.zero_le _, Nat.le_refl _, rfl, Nat.zero_le _, .inl rfl, Nat.le_refl _, d, X2, hB2⟩
      have hxd : w.heap.size < w1.heap.size := by omega
      clear d hb2 hat ho1 ho2 X2 X N hB2
      go_wp2_with fail
      go_loopg [7, 40] os.length (fun gn nv i wr => BndRel dg q g h w2.heap.size kind l k os.length w gn nv i wr)
      case atStart => exact R0.out
      case round =>
        obtain ⟨j, zs, h', rfl, hj, hgn, rfl, hzl, hh', hBr, d, Xc, hbw⟩ := hrel
        by_cases hlt : j < os.length
        · obtain ⟨o, x, wt, eo⟩ : ∃ o x wt, os.getD j (0, 0, 0) = (o, x, wt) := ⟨_, _, _, rfl⟩
          obtain ⟨p', cap', hv, _, hat⟩ := ho.below hbw (Nat.le_refl _)
          obtain ⟨gs, off, hp, hg, q0, q1, q2, bo, bx, bw⟩ := hat j hlt
          rw [eo] at q0 q1 q2 bo bx bw
          simp only [Value.slice.injEq, true_and] at hv
          obtain ⟨rfl, rfl⟩ := hv
          subst hp
          have EO := hid eo
          have hba3 : Below wr.heap.size wr (wr.alloc (.cells #[.int .i64 o, .int .i64 x, .int .i64 wt] 85)) := (Below.refl _ _).alloc (Nat.le_refl _) _
          have Xo := Blk.new wr #[.int .i64 o, .int .i64 x, .int .i64 wt] 85
          have d3 := d.below hba3 (Nat.le_refl _)
          have Xc3 := Xc.below hba3 (Nat.le_refl _)
          have hs3 : (wr.alloc (.cells #[.int .i64 o, .int .i64 x, .int .i64 wt] 85)).heap.size = wr.heap.size + 1 := by simp
          have hbw3 := hbw.trans (hba3.mono hbw.size)
          have DO := hid (dg_do d3 o x wt (by decide) (by omega) (by omega) bx bw)
          have inv := hid d.inv
          have DI := d.inv.doo o x wt
          have DC := hid (bnd_cases d.inv o x wt)
          have ltd := d.ltB
          clear hat eo hba3 d
          go_wp2_with fail
          refine DO.out.mono ?_
          rintro e w4 ⟨rfl, h4, d4, hh4, c4⟩
          generalize (wr.alloc (.cells #[.int .i64 o, .int .i64 x, .int .i64 wt] 85)) = w3 at *
          have Xo4 := Xo.keep (c4.block _ Xo.lt (fun hp => by have := ltd _ hp; omega))
          have Xc4 := Xc3.keep (c4.block _ Xc3.lt (fun hp => by rcases hp with e | e | e | e <;> omega))
          have o40 : w4.cell? ⟨wr.heap.size, 0, none⟩ = some (.int .i64 o) := Xo4.cell 0
          have o41 : w4.cell? ⟨wr.heap.size, 1, none⟩ = some (.int .i64 x) := Xo4.cell 1
          have o42 : w4.cell? ⟨wr.heap.size, 2, none⟩ = some (.int .i64 wt) := Xo4.cell 2
          have hh4' : h4 = h ∨ w2.heap.size ≤ h4 := by omega
          have hsz4 := c4.size
          have hbw4 : Below w.heap.size w w4 := ChB.of_new hbw3 c4 (fun j hj => by rcases hj with e | e | e | e <;> omega)
          obtain ⟨dinv, dlen⟩ := DI
          have DV := hid dinv
          clear c4 d3 Xo Xc3 DO hh4 dinv
          generalize dgDo l k zs o x wt = R at *
          obtain ⟨Z, n'⟩ := R
          simp only at DC dlen
          have hst := hid DC.out
          have hZ8 := DV.out.room
          go_upto_block 2 with fail
          go_cut [7] (fun nv wx => nv = .int .i64 (sumL Z) ∧ w4 = wx)
          case first =>
            have hs0 := inv.out.roll.sum
            rcases DC.out with ⟨e, h⟩ | ⟨e, h, -⟩ | ⟨h1, h2, h3, h4, h5, h6⟩ | ⟨h1, h2, h3, h4⟩
            · subst e
              have HS := hid h
              clear h
              go_wp2_with fail
              go_meet
              exact ⟨by rw [HS.out], rfl⟩
            · subst e
              have HS := hid h
              clear h
              go_wp2_with fail
              go_meet
              exact ⟨by rw [HS.out], rfl⟩
            · subst h3
              have HS := hid h4
              have q1 : (o == 1) = false := by simpa using h1
              have q2 : (o == 2) = false := by simpa using h2
              have q3 : (o != 1) = true := by simpa using h1
              clear h1 h2 h4
              generalize sumL zs = S at *
              go_wp2_with fail
              go_meet
              exact ⟨by rw [HS.out], rfl⟩
            · have HS := hid h4
              have q1 : (o == 1) = false := by simpa using h1
              have q2 : (o == 2) = false := by simpa using h2
              have q3 : (o != 1) = true := by simpa using h1
              have q4 : (n' == 0) = false := by simpa using h3
              clear h1 h2 h3 h4
              generalize sumL zs = S at *
              go_wp2_with fail
              go_meet
              exact ⟨by rw [HS.out], rfl⟩
          case rest =>
            obtain ⟨rfl, rfl⟩ := hcut
            have cc0 : w4.cell? ⟨w.heap.size, 0, none⟩ = some (.int .i64 l) := Xc4.cell 0
            have cc1 : w4.cell? ⟨w.heap.size, 1, none⟩ = some (.int .i64 k) := Xc4.cell 1
            have ND := hid (fun W (y : DgV W dg q g h4 kind l k 2000 Z) => dg_nodes y (by decide))
            have hB0 := Below.refl w4.heap.size w4
            have hXl := Xc4.lt
            have hXn : w.heap.size ≠ w4.heap.size := by omega
            have ccA : ((w4.drew).alloc (.cells #[.int .i64 0, .slice none 0 0] 43)).cell? ⟨w.heap.size, 0, none⟩ = some (.int .i64 l) := ((Xc4.drewN 1).alloc _).cell 0
            go_upto_region 15 with fail
            go_cut [11] (fun sv wx => ∃ b vs, sv = .pointer (some ⟨b, 0, none⟩) ∧ Blk wx b #[.int .i64 l, vs] 43 ∧ RdN wx vs Z ∧ Below w4.heap.size w4 wx)
            case first =>
              have hBd : Below w4.heap.size w4 w4.drew := below_drewN hB0 1
              refine wp_region_held_drew (S := fun w' => w'.cell? ⟨w.heap.size, 0, none⟩ = some (.int .i64 l) ∧ Below w4.heap.size w4 w') (by kernel_rfl) ⟨cc0, hBd⟩ (fun hHeld => ?_)
              refine wpAnyH_take (i := 0) (v := ?_) rfl (by kernel_rfl) (by kernel_rfl) (by kernel_rfl) (fun _ _ _ h => h) (Or.inl ⟨by rfl, ?_⟩) hHeld ?_
              rotate_left 1
              · intro w hSw; (try dsimp only at hSw); go_simp; first | done | with_reducible rfl
              show wpAnyH _ _ _ _ _ _ _ (Act.put _ (some 63) _) _
              try simp only [Act.put, List.setIfInBounds_toArray, List.set_cons_zero, List.set_cons_succ]
              refine wpAnyH_take (i := 1) (v := ?_) rfl (by kernel_rfl) (by kernel_rfl) (by kernel_rfl) (fun _ _ _ h => h) (Or.inl ⟨by rfl, ?_⟩) hHeld ?_
              rotate_left 1
              · intro w hSw; (try dsimp only at hSw); go_simp; first | done | with_reducible rfl
              show wpAnyH _ _ _ _ _ _ _ (Act.put _ (some 64) _) _
              try simp only [Act.put, List.setIfInBounds_toArray, List.set_cons_zero, List.set_cons_succ]
              refine wpAnyH_take (i := 2) (v := ?_) rfl (by kernel_rfl) (by kernel_rfl) (by kernel_rfl) (fun _ _ _ h => h) (Or.inl ⟨by rfl, ?_⟩) hHeld ?_
              rotate_left 1
              · intro w hSw; (try dsimp only at hSw); go_simp; first | done | with_reducible rfl
              show wpAnyH _ _ _ _ _ _ _ (Act.put _ (some 65) _) _
              try simp only [Act.put, List.setIfInBounds_toArray, List.set_cons_zero, List.set_cons_succ]
              refine wpAnyH_ready (rs := [3, 5]) (by kernel_rfl) (by simp) ?_
              refine AllReadyH.cons rfl (fun K hK => ?_) (AllReadyH.cons rfl (fun K hK => ?_) AllReadyH.nil)
              · go_simp
                (go_at_call 50; have hBa := hHeld.2; refine (ND.out _ (d4.below hBa (Nat.le_refl _))).mono ?_; rintro e w5 hN; obtain ⟨v5, rfl, own5, hb5⟩ := hN; obtain ⟨p5, c5, rfl⟩ := own5.val; have hBq := hBa.trans (hb5.mono hBa.size); go_simp)
                refine hK.out _ _ ⟨(Xc4.below hBq (Nat.le_refl _)).cell 0, hBq⟩ (fun hHeld => ?_)
                clear hK K
                try simp only [Act.put, List.setIfInBounds_toArray, List.set_cons_zero, List.set_cons_succ]
                refine wpAnyH_take (i := 4) (v := ?_) rfl (by kernel_rfl) (by kernel_rfl) (by kernel_rfl) (fun _ _ _ h => h) (Or.inl ⟨by rfl, ?_⟩) hHeld ?_
                rotate_left 1
                · intro w hSw; (try dsimp only at hSw); go_simp; first | done | with_reducible rfl
                show wpAnyH _ _ _ _ _ _ _ (Act.put _ (some 67) _) _
                try simp only [Act.put, List.setIfInBounds_toArray, List.set_cons_zero, List.set_cons_succ]
                refine wpAnyH_ready (rs := [5]) (by kernel_rfl) (by simp) ?_
                refine AllReadyH.cons rfl (fun K hK => ?_) AllReadyH.nil
                go_simp
                skip
                refine hK.out _ _ ⟨((Xc4.below hHeld.2 (Nat.le_refl _)).alloc _).cell 0, hHeld.2.alloc hHeld.2.size _⟩ (fun hHeld => ?_)
                clear hK K
                try simp only [Act.put, List.setIfInBounds_toArray, List.set_cons_zero, List.set_cons_succ]
                refine wpAnyH_ready (rs := [6]) (by kernel_rfl) (by simp) ?_
                refine AllReadyH.cons rfl (fun K hK => ?_) AllReadyH.nil
                go_simp
                skip
                refine hK.out _ _ ⟨((Xc4.below hBq (Nat.le_refl _)).alloc _).cell 0, hBq.alloc hBq.size _⟩ (fun hHeld => ?_)
                clear hK K
                try simp only [Act.put, List.setIfInBounds_toArray, List.set_cons_zero, List.set_cons_succ]
                refine wpAnyH_done (by kernel_rfl) ?_ _
                go_wp2_with fail
                go_meet
                exact ⟨w5.heap.size, .slice p5 Z.length c5, rfl, Blk.new w5 _ _, own5.rd.below ((Below.refl w5.heap.size w5).alloc (Nat.le_refl _) _) (Nat.le_refl _), hBq.alloc hBq.size _⟩
              · go_simp
                refine hK.out _ _ ⟨((Xc4.below hHeld.2 (Nat.le_refl _)).alloc _).cell 0, hHeld.2.alloc hHeld.2.size _⟩ (fun hHeld => ?_)
                clear hK K
                try simp only [Act.put, List.setIfInBounds_toArray, List.set_cons_zero, List.set_cons_succ]
                refine wpAnyH_ready (rs := [3]) (by kernel_rfl) (by simp) ?_
                refine AllReadyH.cons rfl (fun K hK => ?_) AllReadyH.nil
                go_simp
                (go_at_call 50; have hBa := hHeld.2; refine (ND.out _ (d4.below hBa (Nat.le_refl _))).mono ?_; rintro e w5 hN; obtain ⟨v5, rfl, own5, hb5⟩ := hN; obtain ⟨p5, c5, rfl⟩ := own5.val; have hBq := hBa.trans (hb5.mono hBa.size); have Y := (Blk.new w4.drew #[.int .i64 0, .slice none 0 0] 43).below hb5 (Nat.le_refl _); have y0 : w5.cell? ⟨w4.heap.size, 0, none⟩ = some (.int .i64 0) := Y.cell 0; have y1 : w5.cell? ⟨w4.heap.size, 1, none⟩ = some (.slice none 0 0) := Y.cell 1; have yf0 : w5.frozen? ⟨w4.heap.size, 0, none⟩ = false := Y.free 0; have yf1 : w5.frozen? ⟨w4.heap.size, 1, none⟩ = false := Y.free 1; go_simp)
                refine hK.out _ _ ⟨(Xc4.below hBq (Nat.le_refl _)).cell 0, hBq⟩ (fun hHeld => ?_)
                clear hK K
                try simp only [Act.put, List.setIfInBounds_toArray, List.set_cons_zero, List.set_cons_succ]
                refine wpAnyH_take (i := 4) (v := ?_) rfl (by kernel_rfl) (by kernel_rfl) (by kernel_rfl) (fun _ _ _ h => h) (Or.inl ⟨by rfl, ?_⟩) hHeld ?_
                rotate_left 1
                · intro w hSw; (try dsimp only at hSw); go_simp; first | done | with_reducible rfl
                show wpAnyH _ _ _ _ _ _ _ (Act.put _ (some 67) _) _
                try simp only [Act.put, List.setIfInBounds_toArray, List.set_cons_zero, List.set_cons_succ]
                refine wpAnyH_ready (rs := [6]) (by kernel_rfl) (by simp) ?_
                refine AllReadyH.cons rfl (fun K hK => ?_) AllReadyH.nil
                go_simp
                skip
                refine hK.out _ _ ⟨(((Xc4.below hBq (Nat.le_refl _)).set_other 0 (.int .i64 l) hXn).set_other 1 (.slice p5 Z.length c5) hXn).cell 0, (hBq.setCell (p := ⟨w4.heap.size, 0, none⟩) (Nat.le_refl _) _).setCell (p := ⟨w4.heap.size, 1, none⟩) (Nat.le_refl _) _⟩ (fun hHeld => ?_)
                clear hK K
                try simp only [Act.put, List.setIfInBounds_toArray, List.set_cons_zero, List.set_cons_succ]
                refine wpAnyH_done (by kernel_rfl) ?_ _
                go_wp2_with fail
                go_meet
                have hni : NotIn (.slice p5 Z.length c5) Z w4.heap.size := .inr (fun i hi => by have h1 : w4.heap.size < i := Nat.lt_of_lt_of_le (by simp) (own5.lt i hi); omega)
                exact ⟨w4.heap.size, .slice p5 Z.length c5, rfl, (Y.set 0 (.int .i64 l)).set 1 (.slice p5 Z.length c5), (own5.rd.set_off hni _ _).set_off hni _ _, (hBq.setCell (p := ⟨w4.heap.size, 0, none⟩) (Nat.le_refl _) _).setCell (p := ⟨w4.heap.size, 1, none⟩) (Nat.le_refl _) _⟩
            case rest =>
              obtain ⟨b, vs, rfl, Bs, hrs, hbc⟩ := hcut
              obtain ⟨ps, cs, rfl⟩ := hrs.val
              have d5 := d4.below hbc (Nat.le_refl _)
              have Xc5 := Xc4.below hbc (Nat.le_refl _)
              have Xo5 := Xo4.below hbc (Nat.le_refl _)
              have hbw5 := hbw4.trans (hbc.mono hbw4.size)
              have hs5 := hbc.size
              have e0 : wc.cell? ⟨w.heap.size, 1, none⟩ = some (.int .i64 k) := Xc5.cell 1
              have e1 : wc.cell? ⟨b, 0, none⟩ = some (.int .i64 l) := Bs.cell 0
              have e2 : wc.cell? ⟨b, 1, none⟩ = some (.slice ps Z.length cs) := Bs.cell 1
              have hroll := DV.out.roll
              have T0 := fun W (q : RdN W (.slice ps Z.length cs) Z) => r_sttotal l W q (by omega)
              simp only [hroll.tot] at T0
              have ST := hid T0
              have K0 := fun W (q : RdN W (.slice ps Z.length cs) Z) => r_clight k q (by omega) hroll ⟨by omega, by omega⟩
              have ek : (lightB l Z (capV (sumL Z) k) && isK k) = true := by rw [DV.out.light]; simp [isK]; omega
              simp only [ek] at K0
              have LG := hid K0
              have LN := hid (fun W (y : DgV W dg q g h4 kind l k 2000 Z) => dg_len y)
              have NN := hid (fun W (y : DgV W dg q g h4 kind l k 2000 Z) => dg_n y)
              have CL := hid (fun W (y : DgV W dg q g h4 kind l k 2000 Z) => dg_clone y (by decide))
              have CM := hid (fun W dg' q' g' h' (y : DgV W dg' q' g' h' kind l k 2000 Z) => dg_compress y (by decide) (by omega) (by omega))
              have c1 : decide (8 * k < (Z.length : Int)) = false := by simp; omega
              have c2 : ((Z.length : Int) != (Z.length : Int)) = false := by simp
              have c3 : (sumL Z != sumL Z) = false := by simp
              have hB0 := Below.refl wc.heap.size wc
              have FX := hid (fun W (hb : Below wc.heap.size wc W) => show W.cell? ⟨w.heap.size, 1, none⟩ = some (.int .i64 k) ∧ W.cell? ⟨b, 0, none⟩ = some (.int .i64 l) ∧ W.cell? ⟨b, 1, none⟩ = some (.slice ps Z.length cs) ∧ Below wc.heap.size wc W from
                ⟨(Xc5.below hb (Nat.le_refl _)).cell 1, (Bs.below hb (Nat.le_refl _)).cell 0, (Bs.below hb (Nat.le_refl _)).cell 1, hb⟩)
              clear T0 K0 ek hroll ND d4 Xc4 Xo4 cc0 cc1 hXl hXn ccA
              have HSZ : Hid (∃ S, S = sumL Z) := ⟨_, rfl⟩
              have wk : IntKind.i64.wrap (8 * k) = 8 * k := IntWalk.i64_in _ ⟨by omega, by omega⟩
              have WK := hid wk
              clear wk
              go_upto_region 16 with fail
              go_cut [100] (fun s wx => s = .bool false ∧ Below w.heap.size w wx ∧ Blk wx w.heap.size #[.int .i64 l, .int .i64 k, .int .i64 kind] 68 ∧ Blk wx wr.heap.size #[.int .i64 o, .int .i64 x, .int .i64 wt] 85 ∧ DgV wx dg q g h4 kind l k 2000 Z ∧ w2.heap.size ≤ wx.heap.size)
              case first =>
                have wk := WK.out
                go_region_held3 (fun w' => w'.cell? ⟨w.heap.size, 1, none⟩ = some (.int .i64 k) ∧ w'.cell? ⟨b, 0, none⟩ = some (.int .i64 l) ∧ w'.cell? ⟨b, 1, none⟩ = some (.slice ps Z.length cs) ∧ Below wc.heap.size wc w')
                  (first
                    | exact FX.out _ (below_drewN hB0 1)
                    | exact FX.out _ hBn)
                  (first
                    | (go_at_call 57; have hBn := (‹_ ∧ _ ∧ _ ∧ Below wc.heap.size wc _›).2.2.2; refine (LN.out _ (d5.below hBn (Nat.le_refl _))).mono ?_; rintro e w6 ⟨rfl, rfl⟩)
                    | (go_at_call 53; have hBn := (‹_ ∧ _ ∧ _ ∧ Below wc.heap.size wc _›).2.2.2; refine (NN.out _ (d5.below hBn (Nat.le_refl _))).mono ?_; rintro e w6 ⟨rfl, rfl⟩)
                    | (go_at_call 45; have hBa := (‹_ ∧ _ ∧ _ ∧ Below wc.heap.size wc _›).2.2.2; refine (ST.out _ (hrs.below hBa (Nat.le_refl _))).mono ?_; rintro e w6 ⟨rfl, hb6⟩
                       have hBn := hBa.trans (hb6.mono hBa.size))
                    | (go_at_call 43; have hBa := (‹_ ∧ _ ∧ _ ∧ Below wc.heap.size wc _›).2.2.2; refine (LG.out _ (hrs.below hBa (Nat.le_refl _))).mono ?_; rintro e w6 ⟨rfl, hb6⟩
                       have hBn := hBa.trans (hb6.mono hBa.size)))
                go_wp2_with fail
                go_meet
                exact ⟨rfl, hbw5.trans (hBn.mono (by omega)), Xc5.below hBn (Nat.le_refl _), Xo5.below hBn (Nat.le_refl _), d5.below hBn (Nat.le_refl _), by have := hBn.size; omega⟩
              case rest =>
                obtain ⟨rfl, hb6, Xc6, Xo6, d6, hs6⟩ := hcut
                clear d5 Xc5 Xo5 Bs hrs FX hB0 hbc e0 e1 e2 LG ST
                have g0 : wc.cell? ⟨wr.heap.size, 0, none⟩ = some (.int .i64 o) := Xo6.cell 0
                have g1 : wc.cell? ⟨w.heap.size, 1, none⟩ = some (.int .i64 k) := Xc6.cell 1
                have hB0 := Below.refl wc.heap.size wc
                go_upto_region 18 with fail
                go_cut [118] (fun s wx => s = .bool false ∧ Below w.heap.size w wx ∧ Blk wx w.heap.size #[.int .i64 l, .int .i64 k, .int .i64 kind] 68 ∧ Blk wx wr.heap.size #[.int .i64 o, .int .i64 x, .int .i64 wt] 85 ∧ DgV wx dg q g h4 kind l k 2000 Z ∧ w2.heap.size ≤ wx.heap.size)
                case first =>
                  have ndr : DgV (wc.drewN 1) dg q g h4 kind l k 2000 Z := d6.keepB (fun _ _ _ => rfl)
                  rcases (show (o = 1 ∧ (Z.length : Int) ≤ 4 * k - 1 ∧ comL l k Z = (Z, [])) ∨ o ≠ 1 by
                    rcases DC.out with ⟨e, _⟩ | ⟨e, _, h1, h2⟩ | ⟨e, _⟩ | ⟨e, _⟩
                    · right; omega
                    · exact .inl ⟨e, h1, h2⟩
                    · exact .inr e
                    · exact .inr e) with ⟨e, h1, h2⟩ | e
                  · subst e
                    have hl4 : decide (4 * k - 1 < (Z.length : Int)) = false := by simp; omega
                    rw [h2] at CM
                    have HB6 := hid hb6
                    have wk4 : IntKind.i64.wrap (4 * k) = 4 * k := IntWalk.i64_in _ ⟨by omega, by omega⟩
                    have wk5 : IntKind.i64.wrap (4 * k - 1) = 4 * k - 1 := IntWalk.i64_in _ ⟨by omega, by omega⟩
                    clear h1 h2
                    go_region_held3 (fun w' => w'.cell? ⟨wr.heap.size, 0, none⟩ = some (.int .i64 1) ∧ w'.cell? ⟨w.heap.size, 1, none⟩ = some (.int .i64 k) ∧ Below wc.heap.size wc w')
                      (first
                        | exact ⟨g0, g1, below_drewN hB0 1⟩
                        | exact ⟨(Xo6.below hBn (Nat.le_refl _)).cell 0, (Xc6.below hBn (Nat.le_refl _)).cell 1, hBn⟩)
                      (first
                        | (go_at_call 57; have hBn := (‹_ ∧ _ ∧ Below wc.heap.size wc _›).2.2; refine (LN.out _ (d6.below hBn (Nat.le_refl _))).mono ?_; rintro e w6 ⟨rfl, rfl⟩)
                        | (go_at_call 58; have hBa := (‹_ ∧ _ ∧ Below wc.heap.size wc _›).2.2; refine (CL.out _ (d6.below hBa (Nat.le_refl _))).mono ?_; rintro e w6 ⟨dg7, q7, g7, h7, rfl, d7, hdg7, hq7, hg7, hh7, hb7⟩
                           have hBn := hBa.trans (hb7.mono hBa.size)
                           have hsa := hBa.size)
                        | (go_at_call 59; refine (CM.out _ dg7 q7 g7 h7 d7).mono ?_; rintro e w8 ⟨rfl, h8, d8, hh8, c8⟩
                           have hBn := hBn.trans (c8.below (fun j _ hj => by rcases hj with e | e | e | e <;> omega) hBn.size)))
                    go_wp2_with fail
                    go_meet
                    exact ⟨rfl, HB6.out.trans (hBn.mono HB6.out.size), Xc6.below hBn (Nat.le_refl _), Xo6.below hBn (Nat.le_refl _), d6.below hBn (Nat.le_refl _), by have := hBn.size; omega⟩
                  · have ho1 : (o == 1) = false := by simpa using e
                    clear e
                    refine wp_region_held_drew (S := fun w' => w'.cell? ⟨wr.heap.size, 0, none⟩ = some (.int .i64 o)) (by kernel_rfl) g0 (fun hHeld => ?_)
                    refine wpAnyH_take (i := 0) (v := ?_) rfl (by kernel_rfl) (by kernel_rfl) (by kernel_rfl) (fun _ _ _ h => h) (Or.inl ⟨by rfl, ?_⟩) hHeld ?_
                    rotate_left 1
                    · intro w hSw; (try dsimp only at hSw); go_simp; first | done | with_reducible rfl
                    show wpAnyH _ _ _ _ _ _ _ (Act.put _ (some 101) _) _
                    try simp only [Act.put, List.setIfInBounds_toArray, List.set_cons_zero, List.set_cons_succ]
                    refine wpAnyH_take (i := 1) (v := ?_) rfl (by kernel_rfl) (by kernel_rfl) (by kernel_rfl) (fun _ _ _ h => h) (Or.inl ⟨by rfl, ?_⟩) hHeld ?_
                    rotate_left 1
                    · intro w hSw; (try dsimp only at hSw); go_simp; first | done | with_reducible rfl
                    show wpAnyH _ _ _ _ _ _ _ (Act.put _ (some 102) _) _
                    try simp only [Act.put, List.setIfInBounds_toArray, List.set_cons_zero, List.set_cons_succ]
                    refine wpAnyH_take (i := 2) (v := ?_) rfl (by kernel_rfl) (by kernel_rfl) (by kernel_rfl) (fun _ _ _ h => h) (Or.inl ⟨by rfl, ?_⟩) hHeld ?_
                    rotate_left 1
                    · intro w hSw; (try dsimp only at hSw); go_simp; first | done | with_reducible rfl
                    show wpAnyH _ _ _ _ _ _ _ (Act.put _ (some 103) _) _
                    try simp only [Act.put, List.setIfInBounds_toArray, List.set_cons_zero, List.set_cons_succ]
                    refine wpAnyH_take (i := 3) (v := ?_) rfl (by kernel_rfl) (by kernel_rfl) (by kernel_rfl) (fun _ _ _ h => h) (Or.inl ⟨by rfl, ?_⟩) hHeld ?_
                    rotate_left 1
                    · intro w hSw; (try dsimp only at hSw); go_simp; first | done | with_reducible rfl
                    show wpAnyH _ _ _ _ _ _ _ (Act.put _ (some 104) _) _
                    try simp only [Act.put, List.setIfInBounds_toArray, List.set_cons_zero, List.set_cons_succ]
                    refine wpAnyH_take (i := 4) (v := undef) rfl (by kernel_rfl) (by kernel_rfl) (by kernel_rfl) (fun _ _ _ h => h) (Or.inr ⟨by rfl, rfl⟩) hHeld ?_
                    show wpAnyH _ _ _ _ _ _ _ (Act.put _ (some 105) _) _
                    try simp only [Act.put, List.setIfInBounds_toArray, List.set_cons_zero, List.set_cons_succ]
                    refine wpAnyH_take (i := 5) (v := undef) rfl (by kernel_rfl) (by kernel_rfl) (by kernel_rfl) (fun _ _ _ h => h) (Or.inr ⟨by rfl, rfl⟩) hHeld ?_
                    show wpAnyH _ _ _ _ _ _ _ (Act.put _ (some 106) _) _
                    try simp only [Act.put, List.setIfInBounds_toArray, List.set_cons_zero, List.set_cons_succ]
                    refine wpAnyH_take (i := 6) (v := undef) rfl (by kernel_rfl) (by kernel_rfl) (by kernel_rfl) (fun _ _ _ h => h) (Or.inr ⟨by rfl, rfl⟩) hHeld ?_
                    show wpAnyH _ _ _ _ _ _ _ (Act.put _ (some 107) _) _
                    try simp only [Act.put, List.setIfInBounds_toArray, List.set_cons_zero, List.set_cons_succ]
                    refine wpAnyH_take (i := 7) (v := undef) rfl (by kernel_rfl) (by kernel_rfl) (by kernel_rfl) (fun _ _ _ h => h) (Or.inr ⟨by rfl, rfl⟩) hHeld ?_
                    show wpAnyH _ _ _ _ _ _ _ (Act.put _ (some 108) _) _
                    try simp only [Act.put, List.setIfInBounds_toArray, List.set_cons_zero, List.set_cons_succ]
                    refine wpAnyH_take (i := 8) (v := undef) rfl (by kernel_rfl) (by kernel_rfl) (by kernel_rfl) (fun _ _ _ h => h) (Or.inr ⟨by rfl, rfl⟩) hHeld ?_
                    show wpAnyH _ _ _ _ _ _ _ (Act.put _ (some 109) _) _
                    try simp only [Act.put, List.setIfInBounds_toArray, List.set_cons_zero, List.set_cons_succ]
                    refine wpAnyH_take (i := 9) (v := undef) rfl (by kernel_rfl) (by kernel_rfl) (by kernel_rfl) (fun _ _ _ h => h) (Or.inr ⟨by rfl, rfl⟩) hHeld ?_
                    show wpAnyH _ _ _ _ _ _ _ (Act.put _ (some 110) _) _
                    try simp only [Act.put, List.setIfInBounds_toArray, List.set_cons_zero, List.set_cons_succ]
                    refine wpAnyH_take (i := 10) (v := undef) rfl (by kernel_rfl) (by kernel_rfl) (by kernel_rfl) (fun _ _ _ h => h) (Or.inr ⟨by rfl, rfl⟩) hHeld ?_
                    show wpAnyH _ _ _ _ _ _ _ (Act.put _ (some 111) _) _
                    try simp only [Act.put, List.setIfInBounds_toArray, List.set_cons_zero, List.set_cons_succ]
                    refine wpAnyH_take (i := 11) (v := undef) rfl (by kernel_rfl) (by kernel_rfl) (by kernel_rfl) (fun _ _ _ h => h) (Or.inr ⟨by rfl, rfl⟩) hHeld ?_
                    show wpAnyH _ _ _ _ _ _ _ (Act.put _ (some 112) _) _
                    try simp only [Act.put, List.setIfInBounds_toArray, List.set_cons_zero, List.set_cons_succ]
                    refine wpAnyH_take (i := 12) (v := undef) rfl (by kernel_rfl) (by kernel_rfl) (by kernel_rfl) (fun _ _ _ h => h) (Or.inr ⟨by rfl, rfl⟩) hHeld ?_
                    show wpAnyH _ _ _ _ _ _ _ (Act.put _ (some 113) _) _
                    try simp only [Act.put, List.setIfInBounds_toArray, List.set_cons_zero, List.set_cons_succ]
                    refine wpAnyH_take (i := 13) (v := undef) rfl (by kernel_rfl) (by kernel_rfl) (by kernel_rfl) (fun _ _ _ h => h) (Or.inr ⟨by rfl, rfl⟩) hHeld ?_
                    show wpAnyH _ _ _ _ _ _ _ (Act.put _ (some 114) _) _
                    try simp only [Act.put, List.setIfInBounds_toArray, List.set_cons_zero, List.set_cons_succ]
                    refine wpAnyH_take (i := 14) (v := undef) rfl (by kernel_rfl) (by kernel_rfl) (by kernel_rfl) (fun _ _ _ h => h) (Or.inr ⟨by rfl, rfl⟩) hHeld ?_
                    show wpAnyH _ _ _ _ _ _ _ (Act.put _ (some 115) _) _
                    try simp only [Act.put, List.setIfInBounds_toArray, List.set_cons_zero, List.set_cons_succ]
                    refine wpAnyH_take (i := 15) (v := undef) rfl (by kernel_rfl) (by kernel_rfl) (by kernel_rfl) (fun _ _ _ h => h) (Or.inr ⟨by rfl, rfl⟩) hHeld ?_
                    show wpAnyH _ _ _ _ _ _ _ (Act.put _ (some 116) _) _
                    try simp only [Act.put, List.setIfInBounds_toArray, List.set_cons_zero, List.set_cons_succ]
                    refine wpAnyH_take (i := 16) (v := undef) rfl (by kernel_rfl) (by kernel_rfl) (by kernel_rfl) (fun _ _ _ h => h) (Or.inr ⟨by rfl, rfl⟩) hHeld ?_
                    show wpAnyH _ _ _ _ _ _ _ (Act.put _ (some 117) _) _
                    try simp only [Act.put, List.setIfInBounds_toArray, List.set_cons_zero, List.set_cons_succ]
                    refine wpAnyH_take (i := 17) (v := ?_) rfl (by kernel_rfl) (by kernel_rfl) (by kernel_rfl) (fun _ _ _ h => h) (Or.inl ⟨by rfl, ?_⟩) hHeld ?_
                    rotate_left 1
                    · intro w hSw; (try dsimp only at hSw); go_simp; first | done | with_reducible rfl
                    show wpAnyH _ _ _ _ _ _ _ (Act.put _ (some 118) _) _
                    try simp only [Act.put, List.setIfInBounds_toArray, List.set_cons_zero, List.set_cons_succ]
                    refine wpAnyH_done (by kernel_rfl) ?_ _
                    go_wp2_with fail
                    go_meet
                    exact ⟨rfl, below_drewN hb6 1, Xc6.drewN 1, Xo6.drewN 1, ndr, hs6⟩
                case rest =>
                  obtain ⟨rfl, hb9, Xc9, Xo9, d9, hs9⟩ := hcut
                  have HD := hid d9
                  clear d6 Xc6 Xo6 hb6 hs6 d9 DC DV LN NN CL CM
                  go_wp2_with fail
                  go_roundg (os.length - (j + 1))
                  case rel => exact ⟨j + 1, Z, h4, by go_num, by omega, Nat.le_refl _, rfl, by omega, hh4', hs9, HD.out, Xc9, hb9⟩
                  case measure => omega
        · go_wp2_with fail
          refine (A.out _).mono ?_
          rintro e w3 ⟨rfl, hb3⟩
          go_wp2_with fail
          go_ret
          exact ⟨rfl, hbw.trans (hb3.mono hbw.size)⟩
end Go.Proofs.Ytejoecoenehooaa
