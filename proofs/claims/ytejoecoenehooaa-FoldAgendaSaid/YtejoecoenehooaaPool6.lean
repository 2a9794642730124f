/- The walks of slices.Equal, roll.Same, pool.Same, pool.Load, pool.Clone. -/
import Derived.Test.YtejoecoenehooaaPool5
namespace Go.Proofs.Ytejoecoenehooaa
open Go.RowKit Nl

set_option maxRecDepth 100000 in
set_option maxHeartbeats 1000000 in
theorem o_equal {va vb : Value} {xs ys : List Nd} (w : World) (ha : RdN w va xs) (hb : RdN w vb ys) (hl : xs.length < 2097152) (_hl2 : ys.length < 2097152) :
    Calls Try.prog 138 #[va, vb] w fun e w' => e = .returned (.bool (decide (xs = ys))) ∧ ∃ n, w' = w.drewN n := by
  obtain ⟨pa, ca, rfl⟩ := ha.val
  obtain ⟨pb, cb, rfl⟩ := hb.val
  by_cases hn : xs.length = ys.length
  · have hn1 : ((xs.length : Int) != (ys.length : Int)) = false := by simp [hn]
    have Hn := hid hn
    clear hn
    go_enter Try.func138, Try.ntmps138
    go_wp2_with fail
    go_loopw [13] (fun i wr => SameRel xs ys i ∧ ∃ n, wr = w.drewN n) (fun i _ => xs.length - (intOf i).toNat)
    case atStart => exact ⟨⟨0, rfl, by omega, rfl⟩, 0, rfl⟩
    case round =>
      obtain ⟨⟨k, rfl, hk, ht⟩, nw, rfl⟩ := hrel
      by_cases h1 : k < xs.length
      · have h2 : k < ys.length := by have := Hn.out; omega
        obtain ⟨g, off, a, b, rfl, ex, hg, c1, c2⟩ := ha.at h1
        obtain ⟨g', off', c, d, rfl, ey, hg', c3, c4⟩ := hb.at h2
        have hst := hid (same_step h1 h2 ex ey)
        have hne := node_eq a b c d
        obtain ⟨t, et⟩ : ∃ t, (a == c && b == d) = t := ⟨_, rfl⟩
        rw [et] at hne hst
        clear ex ey ha hb et
        cases t
        · go_wp2_with fail
          go_quiet (fail)
          go_wp2_with fail
          go_ret
          refine ⟨ret_bool ?_, _, by rw [World.drewN_drewN]⟩
          have := ht.out; rw [hst.out] at this
          rw [this]; rfl
        · go_wp2_with fail
          go_quiet (fail)
          go_wp2_with fail
          go_roundw
          case rel => exact ⟨⟨k + 1, by go_num, by omega, by show _ = _; rw [ht.out, hst.out, Bool.true_and]⟩, _, rfl⟩
          case measure => simp [intOf]; omega
      · go_wp2_with fail
        go_ret
        refine ⟨ret_bool ?_, _, rfl⟩
        have e := ht.out
        have := Hn.out
        rw [List.drop_eq_nil_of_le (by omega), List.drop_eq_nil_of_le (by omega)] at e
        rw [e]; simp
  · have hn1 : ((xs.length : Int) != (ys.length : Int)) = true := by simp; omega
    have Hn := hid hn
    clear hn
    go_enter Try.func138, Try.ntmps138
    go_wp2_with fail
    go_ret
    refine ⟨ret_bool ?_, 0, rfl⟩
    have h : xs ≠ ys := fun e => Hn.out (by rw [e])
    simp [h]

set_option maxRecDepth 100000 in
set_option maxHeartbeats 1000000 in
theorem o_same {va vb : Value} {xs ys : List Nd} (w : World) (ha : RdN w va xs) (hb : RdN w vb ys) (hl : xs.length < 2097152) (hl2 : ys.length < 2097152) :
    Calls Try.prog 112 #[va, vb] w fun e w' => e = .returned (.bool (decide (xs = ys))) ∧ Below w.heap.size w w' := by
  have E := hid (o_equal w ha hb hl hl2)
  obtain ⟨pa, ca, rfl⟩ := ha.val
  obtain ⟨pb, cb, rfl⟩ := hb.val
  go_enter Try.func112, Try.ntmps112
  go_wp2_with fail
  refine E.out.mono ?_
  rintro e w' ⟨rfl, n, rfl⟩
  go_wp2_with fail
  go_ret
  exact ⟨rfl, below_drewN (Below.refl _ _) n⟩

set_option maxRecDepth 100000 in
set_option maxHeartbeats 1000000 in
theorem pl_same {w : World} {q g h m q' g' h' m' : Nat} {kind l kind' l' : Int} {zs zs' : List Nd} (d : PoolV w q g h kind l m zs) (d' : PoolV w q' g' h' kind' l' m' zs') (hm : m ≤ 100000) (hm' : m' ≤ 100000) :
    Calls Try.prog 61 #[.pointer (some ⟨q, 0, none⟩), .pointer (some ⟨q', 0, none⟩)] w fun e w' => e = .returned (.bool (decide (l = l' ∧ zs = zs'))) ∧ Below w.heap.size w w' := by
  have hl1 := d.len hm
  have hl2 := d'.len hm'
  obtain ⟨hl3, hl4⟩ := (⟨d.roll.l1, d.roll.l2⟩ : 1 ≤ l ∧ l ≤ 48)
  obtain ⟨hl5, hl6⟩ := (⟨d'.roll.l1, d'.roll.l2⟩ : 1 ≤ l' ∧ l' ≤ 48)
  by_cases hL : l = l'
  · have hq : (l == l') = true := by simpa using hL
    have HL : Hid (decide (l = l' ∧ zs = zs') = decide (zs = zs')) := by show _ = _; simp [hL]
    rw [HL.out]
    clear hL HL
    go_enter Try.func61, Try.ntmps61
    go_wp2_with fail
    refine (pl_l d).mono ?_
    rintro e w' ⟨rfl, rfl⟩
    go_wp2_with fail
    refine (pl_l d').mono ?_
    rintro e w' ⟨rfl, rfl⟩
    go_wp2_with fail
    refine (pl_snap d hm).mono ?_
    rintro e w1 ⟨v1, rfl, ho1, hb1⟩
    have d1' := d'.below hb1 (Nat.le_refl _)
    obtain ⟨p1, c1, rfl⟩ := ho1.val
    go_wp2_with fail
    refine (pl_snap d1' hm').mono ?_
    rintro e w2 ⟨v2, rfl, ho2, hb2⟩
    obtain ⟨p2, c2, rfl⟩ := ho2.val
    have hs1 := hb1.size
    have hs2 := hb2.size
    go_wp2_with fail
    refine (o_same w2 (ho1.rd.below hb2 (Nat.le_refl _)) ho2.rd (by omega) (by omega)).mono ?_
    rintro e w3 ⟨rfl, hb3⟩
    go_wp2_with fail
    go_ret
    exact ⟨rfl, (hb1.trans (hb2.mono hs1)).trans (hb3.mono (by omega))⟩
  · have hq : (l == l') = false := by simpa using hL
    have HL : Hid (decide (l = l' ∧ zs = zs') = false) := by show _ = _; simp [hL]
    rw [HL.out]
    clear hL HL
    go_enter Try.func61, Try.ntmps61
    go_wp2_with fail
    refine (pl_l d).mono ?_
    rintro e w' ⟨rfl, rfl⟩
    go_wp2_with fail
    refine (pl_l d').mono ?_
    rintro e w' ⟨rfl, rfl⟩
    go_wp2_with fail
    go_ret
    exact ⟨rfl, Below.refl _ _⟩

set_option maxRecDepth 100000 in
set_option maxHeartbeats 1000000 in
theorem pl_load {v : Value} {zs : List Nd} (kind l : Int) (w : World) (hk : poolIs kind l = true) (hR : rollB l zs = true) (hr : RdN w v zs) (hn : NB zs) (hl : zs.length ≤ 100000) :
    Calls Try.prog 21 #[.int .i64 kind, .int .i64 l, v] w (PoolNew kind l zs.length zs w) := by
  have N := hid (pl_new kind l w hk)
  have r := rollB_iff.1 hR
  have bl : In64 l := ⟨by have := r.l1; omega, by have := r.l2; omega⟩
  have Rt := hid (fun W q => o_right (v := v) l W q hn (by omega) bl)
  rw [hR] at Rt
  have hlt := hr.ltE
  obtain ⟨p, cap, rfl⟩ := hr.val
  clear hk hR
  go_enter Try.func21, Try.ntmps21
  go_wp2_with fail
  refine N.out.mono ?_
  rintro e w1 ⟨q, g, h, rfl, d, hq, hg, hh, hb1⟩
  have hr1 := hr.below hb1 (Nat.le_refl _)
  go_wp2_with fail
  refine (Rt.out w1 hr1).mono ?_
  rintro e w2 ⟨rfl, hb2⟩
  have d2 := d.below hb2 (Nat.le_refl _)
  have hr2 := hr1.below hb2 (Nat.le_refl _)
  have hs1 := hb1.size
  have hs2 := hb2.size
  go_wp2_with fail
  refine (pl_put d2 rfl r hr2 (hlt.imp (fun e => e) (fun e k hk => by have := e k hk; omega)) hl).mono ?_
  rintro e w3 ⟨rfl, h', d3, hh', T3⟩
  go_wp2_with fail
  go_ret2
  refine ⟨q, g, h', rfl, d3, hq, hg, ?_, (hb1.trans (hb2.mono hs1)).trans (T3.below hg hh (by omega))⟩
  rcases hh' with e | e <;> omega

set_option maxRecDepth 100000 in
set_option maxHeartbeats 1000000 in
theorem pl_load_no {v : Value} {zs : List Nd} (kind l : Int) (w : World) (hk : poolIs kind l = false ∨ rollB l zs = false) (hr : RdN w v zs) (hn : NB zs) (hl : zs.length ≤ 9223372036854775807) (bl : In64 l) :
    Calls Try.prog 21 #[.int .i64 kind, .int .i64 l, v] w fun e w' => e = .returned (.tuple #[.pointer none, .int .i64 (if poolIs kind l = false then 2 else 10)]) ∧ Below w.heap.size w w' := by
  obtain ⟨p, cap, rfl⟩ := hr.val
  by_cases hP : poolIs kind l = false
  · rw [if_pos hP]
    have N := hid (pl_new_no kind l w hP)
    clear hk hP
    go_enter Try.func21, Try.ntmps21
    go_wp2_with fail
    refine N.out.mono ?_
    rintro e w1 ⟨rfl, hb1⟩
    go_wp2_with fail
    go_ret2
    exact ⟨rfl, hb1⟩
  · rw [if_neg hP]
    have hR := hk.resolve_left hP
    have N := hid (pl_new kind l w (by simpa using hP))
    have Rt := hid (fun W q => o_right (v := .slice p zs.length cap) l W q hn hl bl)
    rw [hR] at Rt
    clear hk hP hR
    go_enter Try.func21, Try.ntmps21
    go_wp2_with fail
    refine N.out.mono ?_
    rintro e w1 ⟨q, g, h, rfl, d, hq, hg, hh, hb1⟩
    have hr1 := hr.below hb1 (Nat.le_refl _)
    go_wp2_with fail
    refine (Rt.out w1 hr1).mono ?_
    rintro e w2 ⟨rfl, hb2⟩
    have hs1 := hb1.size
    go_wp2_with fail
    go_ret2
    exact ⟨rfl, hb1.trans (hb2.mono hs1)⟩

theorem dn_clone_nil (w : World) : Calls Try.prog 136 #[.pointer none] w fun e w' => e = .returned (.pointer none) ∧ w = w' := by
  go_enter Try.func136, Try.ntmps136
  go_wp2_with fail
  go_ret
  exact ⟨rfl, rfl⟩
theorem pn_clone_nil (w : World) : Calls Try.prog 137 #[.pointer none] w fun e w' => e = .returned (.pointer none) ∧ w = w' := by
  go_enter Try.func137, Try.ntmps137
  go_wp2_with fail
  go_ret
  exact ⟨rfl, rfl⟩

def PoolClone (kind l : Int) (m : Nat) (zs : List Nd) (w : World) (e : Ending) (w' : World) : Prop :=
  ∃ q g h, e = .returned (.pointer (some ⟨q, 0, none⟩)) ∧ PoolV w' q g h kind l m zs ∧ w.heap.size ≤ q ∧ w.heap.size ≤ g ∧ w.heap.size ≤ h ∧ Below w.heap.size w w'
set_option maxRecDepth 100000 in
set_option maxHeartbeats 2000000 in
theorem pl_clone {w : World} {q g h m : Nat} {kind l : Int} {zs : List Nd} (d : PoolV w q g h kind l m zs) (hm : m ≤ 100000) :
    Calls Try.prog 110 #[.pointer (some ⟨q, 0, none⟩)] w (PoolClone kind l m zs w) := by
  rcases d with ⟨rfl, hb, h1, h2, cs, ⟨u, t, d, v⟩, rfl⟩ | ⟨rfl, hb, h1, h2, b, xs, d, lim, hb3, rfl⟩
  · have c0 := hb.cell 0
    have c1 := hb.cell 1
    simp at c0 c1
    have hlt := hb.lt
    have hB0 := Below.refl w.heap.size w
    go_enter Try.func110, Try.ntmps110
    go_wp2_with fail
    go_region_held3 (fun w' => w'.cell? ⟨q, 0, none⟩ = some (.pointer (some ⟨g, 0, none⟩)) ∧ w'.cell? ⟨q, 1, none⟩ = some (.pointer none) ∧ Below w.heap.size w w')
      (first
        | exact ⟨c0, c1, below_drewN hB0 1⟩
        | exact ⟨cell_below hB5 c0 hlt, cell_below hB5 c1 hlt, hB5⟩
        | exact ⟨cell_below (hB5.alloc hB5.size _) c0 hlt, cell_below (hB5.alloc hB5.size _) c1 hlt, hB5.alloc hB5.size _⟩)
      (first
        | (go_at_call 136; have hB4 := (‹_ ∧ _ ∧ Below w.heap.size w _›).2.2; refine (d_clone (d.below hB4 (Nat.le_refl _)) v).mono ?_; rintro e w5 ⟨g2, h2', rfl, d5, hg5, hh5, hb5⟩
           have hB5 := hB4.trans (hb5.mono hB4.size))
        | (go_at_call 137; refine (pn_clone_nil _).mono ?_; rintro e w6 ⟨rfl, rfl⟩))
    go_wp2_with fail
    go_ret
    obtain ⟨hl1, hl2, _⟩ := d5.lt
    have hsw : w.heap.size ≤ w5.heap.size := hB5.size
    exact ⟨w5.heap.size, g2, h2', rfl, .inl ⟨rfl, Blk.new _ _ _, by omega, by omega, cs, d5.below ((Below.refl _ _).alloc (Nat.le_refl _) _) (Nat.le_refl _), rfl⟩, hsw, hg5, hh5, hB5.alloc hsw _⟩
  · have c0 := hb.cell 0
    have c1 := hb.cell 1
    simp at c0 c1
    have hlt := hb.lt
    have hbits := lim.bits d.2 hm
    have hB0 := Below.refl w.heap.size w
    go_enter Try.func110, Try.ntmps110
    go_wp2_with fail
    go_region_held3 (fun w' => w'.cell? ⟨q, 0, none⟩ = some (.pointer none) ∧ w'.cell? ⟨q, 1, none⟩ = some (.pointer (some ⟨g, 0, none⟩)) ∧ Below w.heap.size w w')
      (first
        | exact ⟨c0, c1, below_drewN hB0 1⟩
        | exact ⟨cell_below hB5 c0 hlt, cell_below hB5 c1 hlt, hB5⟩
        | exact ⟨cell_below (hB5.alloc hB5.size _) c0 hlt, cell_below (hB5.alloc hB5.size _) c1 hlt, hB5.alloc hB5.size _⟩)
      (first
        | (go_at_call 137; have hB4 := (‹_ ∧ _ ∧ Below w.heap.size w _›).2.2; refine (p_clone (d.below hB4 (Nat.le_refl _)) (by omega)).mono ?_; rintro e w5 ⟨g2, h2', rfl, d5, hg5, hh5, hb5⟩
           have hB5 := hB4.trans (hb5.mono hB4.size))
        | (go_at_call 136; refine (dn_clone_nil _).mono ?_; rintro e w6 ⟨rfl, rfl⟩))
    go_wp2_with fail
    go_ret
    obtain ⟨hl1, hl2, _⟩ := d5.lt
    have hsw : w.heap.size ≤ w5.heap.size := hB5.size
    exact ⟨w5.heap.size, g2, h2', rfl, .inr ⟨rfl, Blk.new _ _ _, by omega, by omega, b, xs, d5.below ((Below.refl _ _).alloc (Nat.le_refl _) _) (Nat.le_refl _), lim, hb3, rfl⟩, hsw, hg5, hh5, hB5.alloc hsw _⟩
end Go.Proofs.Ytejoecoenehooaa
