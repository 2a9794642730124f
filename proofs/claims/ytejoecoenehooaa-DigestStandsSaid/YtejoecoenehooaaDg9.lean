/- The walk of DigestStands. -/
import Derived.Test.YtejoecoenehooaaMade2
import Derived.Test.YtejoecoenehooaaDg6
import Derived.Deep.CutBlock
namespace Go.Proofs.Ytejoecoenehooaa
open Go.RowKit Nl

set_option maxRecDepth 100000 in
set_option maxHeartbeats 4000000 in
theorem DigestStands_walk (l k kind : Int) (v : Value) (os : List Op3) (id0 : Int) (w : World) (bl : In64 l) (bk : In64 k) (_bkind : In64 kind) (ho : RdO w v os) (bi : In64 id0) :
    Calls Try.prog 8 #[.agg #[.int .i64 l, .int .i64 k, .int .i64 kind], v, .int .i64 id0] w fun e w' => e = .returned (.bool true) ∧ Below w.heap.size w w' := by
  have A := hid (fun W : World => d_alive W)
  obtain ⟨p, cap, rfl, hlen, -⟩ := id ho
  have hba : Below w.heap.size w (w.alloc (.cells #[.int .i64 l, .int .i64 k, .int .i64 kind] 68)) := (Below.refl _ _).alloc (Nat.le_refl _) _
  have X := Blk.new w #[.int .i64 l, .int .i64 k, .int .i64 kind] 68
  have hsx : (w.alloc (.cells #[.int .i64 l, .int .i64 k, .int .i64 kind] 68)).heap.size = w.heap.size + 1 := by simp
  have ho1 := ho.below hba (Nat.le_refl _)
  by_cases hbig : 100 < os.length
  · clear ho ho1
    go_enter Try.func8, Try.ntmps8
    go_wp2_with fail
    refine (A.out _).mono ?_
    rintro e w2 ⟨rfl, hb2⟩
    go_wp2_with fail
    go_ret
    exact ⟨rfl, hba.trans (hb2.mono (by omega))⟩
  by_cases hdl : kind = 1 ∧ 10 < l
  · obtain ⟨rfl, hl10⟩ := hdl
    clear ho ho1
    go_enter Try.func8, Try.ntmps8
    go_wp2_with fail
    refine (A.out _).mono ?_
    rintro e w2 ⟨rfl, hb2⟩
    go_wp2_with fail
    go_ret
    exact ⟨rfl, hba.trans (hb2.mono (by omega))⟩
  go_enter Try.func8, Try.ntmps8
  go_upto_region 1 with fail
  go_cut [27] (fun s wx => s = .bool false ∧ wx = w.alloc (.cells #[.int .i64 l, .int .i64 k, .int .i64 kind] 68))
  case first =>
    rcases (show (kind == 1) = true ∧ l ≤ 10 ∨ (kind == 1) = false by
      by_cases e : kind = 1
      · left; exact ⟨by simp [e], by omega⟩
      · right; simpa using e) with ⟨hk1, hl10⟩ | hk1
    all_goals
      go_wp2_with fail
      go_meet
      exact ⟨by simp <;> omega, rfl⟩
  case rest =>
    obtain ⟨rfl, rfl⟩ := hcut
    generalize (w.alloc (.cells #[.int .i64 l, .int .i64 k, .int .i64 kind] 68)) = w1 at *
    have x0 : w1.cell? ⟨w.heap.size, 0, none⟩ = some (.int .i64 l) := X.cell 0
    have x1 : w1.cell? ⟨w.heap.size, 1, none⟩ = some (.int .i64 k) := X.cell 1
    have x2 : w1.cell? ⟨w.heap.size, 2, none⟩ = some (.int .i64 kind) := X.cell 2
    clear hdl ho
    cases hP : (poolIs kind l && isK k)
    · have MN := hid (d_made_no l k kind _ os w1 bk ho1 hP)
      have EN : Hid (∀ W : World, ∃ a b c, Calls Try.prog 49 #[.int .i64 l, .int .i64 id0] W fun e w' => e = .returned (.tuple #[.int .i64 a, .int .i64 b, .bool c]) ∧ W = w') := fun W => by
        cases hr : rightB l id0
        · exact ⟨_, _, _, r_ends_no l id0 W bl bi hr⟩
        · exact ⟨_, _, _, r_ends l id0 W hr⟩
      clear hP ho1
      go_wp2_with fail
      refine MN.out.mono ?_
      rintro e w2 ⟨rfl, hb2⟩
      have hs2 := hb2.size
      have hlw : w.heap.size < w2.heap.size := by omega
      have X2 := X.below hb2 (Nat.le_refl _)
      clear x0 x1 x2
      have x0 : w2.cell? ⟨w.heap.size, 0, none⟩ = some (.int .i64 l) := X2.cell 0
      go_wp2_with fail
      obtain ⟨a, b, c, he⟩ := EN.out (w2.alloc (.cells #[.int .i64 0, .slice none 0 0] 73))
      refine he.mono ?_
      rintro e w3 ⟨rfl, rfl⟩
      have hb3 : Below w2.heap.size w2 (w2.alloc (.cells #[.int .i64 0, .slice none 0 0] 73)) := (Below.refl _ _).alloc (Nat.le_refl _) _
      have hbw := (hba.trans (hb2.mono (by omega))).trans (hb3.mono (by omega))
      clear he
      go_wp2_with fail
      refine (A.out _).mono ?_
      rintro e w4 ⟨rfl, hb4⟩
      go_wp2_with fail
      go_ret
      exact ⟨rfl, hbw.trans (hb4.mono hbw.size)⟩
    · simp only [Bool.and_eq_true] at hP
      have MD := hid (d_made l k kind _ os w1 ho1 (by omega) hP.1 hP.2)
      clear hP ho1
      go_wp2_with fail
      refine MD.out.mono ?_
      rintro e w2 ⟨dg, q, g, h, vb, zs, its, rfl, d, rb, nd, mi, hzl, hil, hdb, hb2⟩
      obtain ⟨pb, capb, rfl⟩ := rb.val
      have hs2 := hb2.size
      have hlw : w.heap.size < w2.heap.size := by omega
      have X2 := X.below hb2 (Nat.le_refl _)
      clear x0 x1 x2
      have x0 : w2.cell? ⟨w.heap.size, 0, none⟩ = some (.int .i64 l) := X2.cell 0
      have hbw2 := hba.trans (hb2.mono (by omega))
      have hb3 : Below w2.heap.size w2 (w2.alloc (.cells #[.int .i64 l, .slice pb its.length capb] 73)) := (Below.refl _ _).alloc (Nat.le_refl _) _
      have W8 := Blk.new w2 #[.int .i64 l, .slice pb its.length capb] 73
      have hs3 : (w2.alloc (.cells #[.int .i64 l, .slice pb its.length capb] 73)).heap.size = w2.heap.size + 1 := by simp
      have d3 := d.below hb3 (Nat.le_refl _)
      have rb3 := rb.below hb3 (Nat.le_refl _)
      have X3 := X2.below hb3 (Nat.le_refl _)
      have hbw3 := hbw2.trans (hb3.mono hbw2.size)
      clear MD nd hdb d rb X2 X hb2 hb3 hba hbw2
      cases hr : rightB l id0
      · have EN := hid (fun W : World => r_ends_no l id0 W bl bi hr)
        clear hr
        go_wp2_with fail
        generalize (w2.alloc (.cells #[.int .i64 l, .slice pb its.length capb] 73)) = w3 at *
        refine (EN.out _).mono ?_
        rintro e w4 ⟨rfl, rfl⟩
        go_wp2_with fail
        refine (A.out _).mono ?_
        rintro e w4 ⟨rfl, hb4⟩
        go_wp2_with fail
        go_ret
        exact ⟨rfl, hbw3.trans (hb4.mono hbw3.size)⟩
      · have EN := hid (fun W : World => r_ends l id0 W hr)
        have hst := mi.st id0 (right_pos hr)
        have hheld := held_bet hr mi.bag
        have hpos := mi.bag.pos'
        have hmost := mi.bag.most
        have hsum := mi.sum
        have hbt := bet_le (lo := endsLo l id0) (hi := endsHi l id0) hpos
        have habv := above_le_sum (id := id0) mi.dg.roll.strict.pos
        have BT := hid (fun W (y : RdN W (.slice pb its.length capb) its) => b_between l (endsLo l id0) (endsHi l id0) y (by omega) hpos hmost)
        have TT := hid (fun W (y : RdN W (.slice pb its.length capb) its) => b_total l y (by omega) hpos hmost)
        have BL := hid (fun W v' (y : RdN W v' zs) => r_below id0 y (by omega) mi.dg.roll bi)
        have AB := hid (fun W v' (y : RdN W v' zs) => r_aboveV id0 y (by omega) mi.dg.roll bi)
        have DN := hid (fun W (y : DgV W dg q g h kind l k 2000 zs) => dg_n y)
        rw [hheld] at BT hbt
        rw [hsum] at TT hbt hmost
        obtain ⟨lo, elo⟩ : ∃ x, endsLo l id0 = x := ⟨_, rfl⟩
        obtain ⟨hi, ehi⟩ : ∃ x, endsHi l id0 = x := ⟨_, rfl⟩
        obtain ⟨held, eheld⟩ : ∃ x, heldV l id0 its = x := ⟨_, rfl⟩
        obtain ⟨low, elow⟩ : ∃ x, belowV id0 zs = x := ⟨_, rfl⟩
        obtain ⟨abv, eabv⟩ : ∃ x, aboveV id0 zs = x := ⟨_, rfl⟩
        obtain ⟨t, et⟩ : ∃ x, sumL zs = x := ⟨_, rfl⟩
        have EN2 : Hid (∀ W : World, Calls Try.prog 49 #[.int .i64 l, .int .i64 id0] W fun e w' => e = .returned (.tuple #[.int .i64 lo, .int .i64 hi, .bool true]) ∧ W = w') := fun W => by
          have := EN.out W; unfold EndsPost at this; rw [elo, ehi] at this; exact this
        rw [elo, ehi, eheld] at BT
        rw [eheld, elow] at hst
        rw [eabv] at hst AB habv
        rw [et] at TT DN hbt hmost habv
        rw [eheld] at hbt
        rw [elow] at BL
        have hNd := hid (fun W (y : DgV W dg q g h kind l k 2000 zs) => dg_nodes y (by decide))
        obtain ⟨s1, s2⟩ := hst
        obtain ⟨t1, t2⟩ := hbt
        obtain ⟨u1, u2⟩ := habv
        clear EN elo ehi eheld elow eabv et hheld hsum mi hr hpos
        go_wp2_with fail
        generalize (w2.alloc (.cells #[.int .i64 l, .slice pb its.length capb] 73)) = w3 at *
        refine (EN2.out _).mono ?_
        rintro e w4 ⟨rfl, rfl⟩
        go_wp2_with fail
        refine (hNd.out _ d3).mono ?_
        rintro e w4 ⟨vn, rfl, on, hb4⟩
        have rn := on.rd
        obtain ⟨pn, capn, rfl⟩ := rn.val
        have hs4 := hb4.size
        have W84 := W8.below hb4 (Nat.le_refl _)
        have X4 := X3.below hb4 (Nat.le_refl _)
        have d4 := d3.below hb4 (Nat.le_refl _)
        have rb4 := rb3.below hb4 (Nat.le_refl _)
        have hbw4 := hbw3.trans (hb4.mono hbw3.size)
        have y0 : w4.cell? ⟨w2.heap.size, 0, none⟩ = some (.int .i64 l) := W84.cell 0
        have y1 : w4.cell? ⟨w2.heap.size, 1, none⟩ = some (.slice pb its.length capb) := W84.cell 1
        clear x0 on hb4 d3 rb3 W8 X3
        go_wp2_with fail
        refine (BT.out _ rb4).mono ?_
        rintro e w5 ⟨rfl, hb5⟩
        have hs5 := hb5.size
        have W85 := W84.below hb5 (Nat.le_refl _)
        have X5 := X4.below hb5 (Nat.le_refl _)
        have d5 := d4.below hb5 (Nat.le_refl _)
        have rb5 := rb4.below hb5 (Nat.le_refl _)
        have rn5 := rn.below hb5 (Nat.le_refl _)
        have hbw5 := hbw4.trans (hb5.mono hbw4.size)
        have x0 : w5.cell? ⟨w.heap.size, 0, none⟩ = some (.int .i64 l) := X5.cell 0
        clear y0 y1 hb5 d4 rb4 W84 X4 rn
        go_wp2_with fail
        refine (BL.out _ _ rn5).mono ?_
        rintro e w6 ⟨rfl, hb6⟩
        have hs6 := hb6.size
        have W86 := W85.below hb6 (Nat.le_refl _)
        have d6 := d5.below hb6 (Nat.le_refl _)
        have rb6 := rb5.below hb6 (Nat.le_refl _)
        have rn6 := rn5.below hb6 (Nat.le_refl _)
        have hbw6 := hbw5.trans (hb6.mono hbw5.size)
        have y0 : w6.cell? ⟨w2.heap.size, 0, none⟩ = some (.int .i64 l) := W86.cell 0
        have y1 : w6.cell? ⟨w2.heap.size, 1, none⟩ = some (.slice pb its.length capb) := W86.cell 1
        clear x0 hb6 d5 rb5 W85 X5 rn5 BT BL EN2 hNd
        have hB0 := Below.refl w6.heap.size w6
        have hl8 : w2.heap.size < w6.heap.size := by omega
        have c1 : decide (low ≤ held) = true := decide_eq_true s1
        have c2 : decide (held ≤ low + abv) = true := decide_eq_true s2
        have ht : (t == t) = true := by simp
        have hw1 : IntKind.i64.wrap (low + abv) = low + abv := IntWalk.i64_in _ ⟨by omega, by omega⟩
        go_wp2_with fail
        go_region_held3 (fun w' => w'.cell? ⟨w2.heap.size, 0, none⟩ = some (.int .i64 l) ∧ w'.cell? ⟨w2.heap.size, 1, none⟩ = some (.slice pb its.length capb) ∧ Below w6.heap.size w6 w')
          (first
            | exact ⟨y0, y1, below_drewN hB0 1⟩
            | exact ⟨(W86.below' hb8 hl8).cell 0, (W86.below' hb8 hl8).cell 1, hb8⟩
            | exact ⟨(W86.below' hb9 hl8).cell 0, (W86.below' hb9 hl8).cell 1, hb9⟩)
          (first
            | (go_at_call 52; refine (AB.out _ _ (rn6.below (‹_ ∧ _ ∧ Below w6.heap.size w6 _›).2.2 (Nat.le_refl _))).mono ?_; rintro e w8 ⟨rfl, rfl⟩)
            | (go_at_call 53; refine (DN.out _ (d6.below (‹_ ∧ _ ∧ Below w6.heap.size w6 _›).2.2 (Nat.le_refl _))).mono ?_; rintro e w8 ⟨rfl, rfl⟩)
            | (go_at_call 54; have hB4 := (‹_ ∧ _ ∧ Below w6.heap.size w6 _›).2.2; refine (TT.out _ (rb6.below hB4 (Nat.le_refl _))).mono ?_; rintro e w8 ⟨rfl, hb⟩
               have hb8 := hB4.trans (hb.mono hB4.size))
            | (go_at_call 47; have hB4 := (‹_ ∧ _ ∧ Below w6.heap.size w6 _›).2.2; refine (A.out _).mono ?_; rintro e w8 ⟨rfl, hb⟩
               have hb9 := hB4.trans (hb.mono hB4.size)))
        go_wp2_with fail
        go_ret
        exact ⟨rfl, hbw6.trans (hb9.mono hbw6.size)⟩
end Go.Proofs.Ytejoecoenehooaa
