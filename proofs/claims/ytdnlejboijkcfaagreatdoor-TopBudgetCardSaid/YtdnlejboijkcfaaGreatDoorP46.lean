/- Texts laid together. -/
import Derived.Test.YtdnlejboijkcfaaGreatDoorP44
import Derived.Test.YtdnlejboijkcfaaGreatDoorP24
import Derived.Test.YtdnlejboijkcfaaGreatDoorP45
import Derived.Test.YtdnlejboijkcfaaGreatDoorP13
import Derived.Test.YtdnlejboijkcfaaGreatDoorP40
import Derived.Test.YtdnlejboijkcfaaGreatDoorP14
/- The walk of alive. -/
namespace Go.Proofs.YtdnlejboijkcfaaGreatDoor
set_option maxHeartbeats 8000000
set_option maxRecDepth 100000
open Go.RowKit Nl Vy Sh
theorem tp_ins : dgIns 3 2 [] 5 2 = ([(13, 2)], 0) := by decide
theorem tp_text : textL 3 2 [(13, 2)] = [100, 105, 103, 101, 115, 116, 32, 51, 32, 50, 32, 50, 10, 53, 46, 46, 53, 32, 50, 10] := by
  have e1 : endsLo 3 13 = 5 := by decide
  have e2 : endsHi 3 13 = 5 := by decide
  have e5 : sumL ([(13, 2)] : List Nd) = 2 := by decide
  have d (n : Nat) (h : n < 10) : digL (n : Int) = [UInt8.ofNat (48 + n)] := by
    unfold digL; rw [if_neg (by omega), Int.toNat_natCast, decL_low h]
  have d2 : digL 2 = [50] := d 2 (by decide)
  have d3 : digL 3 = [51] := d 3 (by decide)
  have d5 : digL 5 = [53] := d 5 (by decide)
  unfold textL headL bodyL
  rw [e5]
  simp only [List.map_cons, List.map_nil, lineL, e1, e2, d2, d3, d5]
  rfl
theorem tp_enc : 4 < (encL 3 2 2 [13] [2]).length := by
  unfold encL
  rw [seal_len]
  unfold headB
  simp only [List.length_append, List.length_cons, List.length_nil]
  omega
theorem t_alive (w : World) : Calls Tryz.prog 6 #[] w fun e w' => e = .returned (.bool true) ∧ Below w.heap.size w w' := by
  have NW := hid (dg_new 2 3 2 w (by decide) (by decide))
  have IN := hid (fun W dg q g h (d : DgV W dg q g h 2 3 2 20000 []) => dg_insert d 5 2 (by decide) (by decide) (by decide) ⟨by decide, by decide⟩ ⟨by decide, by decide⟩)
  rw [tp_ins] at IN
  have TX := hid (fun (W : World) dg q g h (d : DgV W dg q g h 2 3 2 20000 [(13, 2)]) => s_text d (by decide) ⟨by decide, by decide⟩ ⟨by decide, by decide⟩ ⟨by decide, by decide⟩ (by intro x hx; simp at hx; rcases hx with rfl; exact ⟨by decide, by decide⟩))
  rw [tp_text] at TX
  have EN := hid (fun (W : World) dg q g h (d : DgV W dg q g h 2 3 2 20000 [(13, 2)]) => w_encode d (by decide) (by decide))
  have ME := hid (fun (W : World) dg q g h (d : DgV W dg q g h 2 3 2 20000 [(13, 2)]) => so_median d (by decide))
  obtain ⟨E, eE⟩ : ∃ E : List UInt8, E = encL 3 2 (sumL [(13, 2)]) (([(13, 2)] : List Nd).map (fun x => x.1)) (([(13, 2)] : List Nd).map (fun x => x.2)) := ⟨_, rfl⟩
  have hE : 4 < E.length := by rw [eE]; exact tp_enc
  rw [← eE] at EN
  obtain ⟨B, eB⟩ : ∃ B : ByteArray, B = ⟨E.toArray⟩ := ⟨_, rfl⟩
  have z : decide (4 < (B.size : Int)) = true := decide_eq_true (by rw [eB]; show 4 < ((E.toArray.size : Nat) : Int); simp; omega)
  rw [← eB] at EN
  clear eB eE hE
  go_enter Tryz.func6, Tryz.ntmps6
  go_wp2_with fail
  refine NW.out.mono ?_
  rintro e w1 ⟨dg, q, g, h, rfl, d1, p1, p2, p3, p4, hb1⟩
  have IN1 := IN.out _ _ _ _ _ d1
  clear NW IN d1
  go_wp2_with fail
  refine IN1.mono ?_
  rintro e w2 ⟨rfl, h', d2, hh, hc⟩
  have hb2 : Below w.heap.size w w2 := ChB.of_new hb1 hc (fun j hj => by rcases hj with e | e | e | e <;> omega)
  have EN2 := EN.out _ _ _ _ _ d2
  clear IN1 hc hb1 EN
  go_wp2_with fail
  refine EN2.mono ?_
  rintro e w3 ⟨rfl, hb3⟩
  have d3 := d2.below hb3 nlr
  have TX3 := TX.out _ _ _ _ _ d3
  have hbA := hb2.trans (hb3.mono hb2.size)
  clear EN2 d2 TX
  go_wp2_with fail
  refine TX3.mono ?_
  rintro e w4 ⟨rfl, hb4⟩
  have d4 := d3.below hb4 nlr
  have ME4 := ME.out _ _ _ _ _ d4
  have hbB := hbA.trans (hb4.mono hbA.size)
  clear TX3 d3 ME
  go_wp2_with fail
  refine ME4.mono ?_
  rintro e w5 ⟨rfl, hb5⟩
  have hbC := hbB.trans (hb5.mono hbB.size)
  clear ME4 d4
  go_wp2_with fail
  go_ret
  exact ⟨rfl, hbC⟩
end Go.Proofs.YtdnlejboijkcfaaGreatDoor

/- TopBudget: readings before the start; law 32's Few. -/
namespace Go.Proofs.YtdnlejboijkcfaaGreatDoor
set_option maxHeartbeats 8000000
set_option maxRecDepth 100000
open Go.RowKit Nl Tb
namespace Tb
theorem badd_yes {l x c : Int} {its : List Nd} (h : (badd l its x c).2 = 0) : (badd l its x c).1 = putR x c its ∧ sumL its + c ≤ 72057594037927935 := by
  unfold badd at h ⊢
  split at h
  · cases h
  · split at h
    · cases h
    · split at h
      · cases h
      · rename_i h1 h2 h3
        rw [if_neg h1, if_neg h2, if_neg h3]
        exact ⟨rfl, by omega⟩
theorem badd_no {l x c : Int} {its : List Nd} (h : (badd l its x c).2 ≠ 0) : (badd l its x c).1 = its := by
  unfold badd at h ⊢
  split
  · rfl
  · split
    · rfl
    · split
      · rfl
      · rename_i h1 h2 h3
        rw [if_neg h1, if_neg h2, if_neg h3] at h
        exact absurd rfl h
theorem ins_no {l k x c : Int} {zs : List Nd} (h : (dgIns l k zs x c).2 ≠ 0) : (dgIns l k zs x c).1 = zs := by
  unfold dgIns at h ⊢
  split
  · rfl
  · split
    · rfl
    · split
      · rfl
      · rename_i h1 h2 h3
        rw [if_neg h1, if_neg h2, if_neg h3] at h
        exact absurd rfl h
theorem Pro.set0 {l k : Int} {X Y ps : List Int} {al al' : List Nd} {sns : List Sn} (P : Pro l k X ps al sns []) (j : Nat) (hj : j < sns.length) (s' : Sn) (e1 : s'.par = sns[j].par) (e2 : s'.kids = sns[j].kids) (e3 : s'.heard = sns[j].heard) (e4 : s'.cover = sns[j].cover) (e5 : s'.sent = sns[j].sent) (hs : sns[j].sent = false)
    (hXY : ∀ x ∈ X, x ∈ Y) (hY : ∀ x ∈ Y, leafB l x = true) (ti : TI l k s'.zs s'.its Y) (h1 : sumL s'.its + sumL al = sumL sns[j].its + sumL al') (h2 : ∀ y, gsum (rankF y) s'.its + gsum (rankF y) al = gsum (rankF y) sns[j].its + gsum (rankF y) al') (hm : sumL al' ≤ 72057594037927935) :
    Pro l k Y ps al' (sns.set j s') [] := by
  have hl : (sns.set j s').length = sns.length := List.length_set
  have hg : ∀ i (h : i < (sns.set j s').length), (sns.set j s')[i] = if j = i then s' else sns[i]'(by rwa [hl] at h) := fun i h => List.getElem_set _
  have ff : ∀ {α : Type} (f : Sn → α), f s' = f sns[j] → ∀ i (h : i < (sns.set j s').length), f (sns.set j s')[i] = f (sns[i]'(by rwa [hl] at h)) := fun f e i h => by
    rw [hg]; split
    · rename_i q; subst q; exact e
    · rfl
  have fp := ff Sn.par e1
  have fk := ff Sn.kids e2
  have fh := ff Sn.heard e3
  have fc := ff Sn.cover e4
  have fs := ff Sn.sent e5
  have hv0 : ∀ f, sns[j].val f = f sns[j].cover sns[j].its := fun f => by unfold Sn.val; rw [if_pos (.inl hs)]
  have hv1 : ∀ f, s'.val f = f sns[j].cover s'.its := fun f => by unfold Sn.val; rw [if_pos (.inl (by rw [e5]; exact hs)), e4]
  refine ⟨by rw [hl]; exact P.len, fun i h => by rw [fp]; exact P.par i _, fun i h m => by rw [fk]; exact P.kids i _ m, fun i h => ?_, (fun x hx => by cases hx), fun i h q => ?_, fun i h m q => ?_, fun i h q => ?_, (fun x hx => by cases hx), List.nodup_nil, fun i h => by rw [fc]; exact P.own i _, (fun x hx => by cases hx), fun i h => by rw [fc]; exact P.cb i _, (fun x hx => by cases hx), fun m => ?_, ?_, fun y => ?_, hm⟩
  · rw [hg]; split
    · exact ti
    · exact (P.ti i _).mono hXY hY
  · rw [fs] at q
    rw [fh, fk]; exact P.hk i _ q
  · rw [fh] at q
    obtain ⟨q1, ⟨q2, q3⟩, q4⟩ := P.hs i (by rwa [hl] at h) m q
    exact ⟨by rw [fk]; exact q1, ⟨by rwa [hl], by rw [fs]; exact q3⟩, q4⟩
  · rw [fs] at q
    rcases P.sk i (by rwa [hl] at h) q with ⟨x, hx, _⟩ | q2
    · cases hx
    · exact .inr fun m hm e => by rw [fh]; exact q2 m _ e
  · have := P.cov m
    rw [sumS_set (bitF m) sns j hj, hv0, hv1, hl]
    unfold bitF at this ⊢
    omega
  · have := P.sum
    rw [sumS_set wtF sns j hj, hv0, hv1]
    unfold wtF at this ⊢
    simp only [sumT] at this ⊢
    omega
  · have := P.rk y
    have q := h2 y
    rw [sumS_set (rkF y) sns j hj, hv0, hv1]
    unfold rkF at this ⊢
    simp only [sumT] at this ⊢
    omega
theorem Pro.put {l k : Int} {X ps : List Int} {al : List Nd} {sns : List Sn} (P : Pro l k X ps al sns []) (j : Nat) (hj : j < sns.length) (hs : sns[j].sent = false) (x wt : Int) (h' : Nat) (c0 : (dgIns l k sns[j].zs x wt).2 = 0) (a0 : (badd l al x wt).2 = 0) :
    ∃ Y, Pro l k Y ps (badd l al x wt).1 (sns.set j (sns[j].put l k x wt h')) [] ∧ Y.length ≤ X.length + 1 := by
  obtain ⟨e, Y, y1, y2, y3, y4⟩ := (P.ti j hj).ins x wt
  rw [c0] at e
  obtain ⟨b1, b2⟩ := badd_yes e.symm
  obtain ⟨a1, a2⟩ := badd_yes a0
  refine ⟨Y, P.set0 j hj _ rfl rfl rfl rfl rfl hs y2 y3 y4 ?_ (fun y => ?_) (by rw [a1, putR_sum]; omega), y1⟩
  · show sumL (badd l sns[j].its x wt).1 + _ = _
    rw [b1, a1, putR_sum, putR_sum]; omega
  · show gsum (rankF y) (badd l sns[j].its x wt).1 + _ = _
    rw [b1, a1, putR_gsum (fun a => rank_add y x a wt), putR_gsum (fun a => rank_add y x a wt)]; omega
theorem Pro.put_no {l k : Int} {X ps : List Int} {al : List Nd} {sns : List Sn} (P : Pro l k X ps al sns []) (j : Nat) (hj : j < sns.length) (hs : sns[j].sent = false) (x wt : Int) (h' : Nat) (c0 : (dgIns l k sns[j].zs x wt).2 ≠ 0) :
    Pro l k X ps al (sns.set j (sns[j].put l k x wt h')) [] := by
  obtain ⟨e, -⟩ := (P.ti j hj).ins x wt
  have z1 := ins_no c0
  rw [e] at c0
  have z2 := badd_no c0
  have ti := P.ti j hj
  refine P.set0 j hj _ rfl rfl rfl rfl rfl hs (fun _ h => h) ti.leafs ?_ ?_ (fun y => ?_) P.most
  · show TI l k (dgIns l k sns[j].zs x wt).1 (badd l sns[j].its x wt).1 X
    rw [z1, z2]; exact ti
  · show sumL (badd l sns[j].its x wt).1 + _ = _
    rw [z2]
  · show gsum (rankF y) (badd l sns[j].its x wt).1 + _ = _
    rw [z2]
end Tb
def few32 (np nl : Nat) (kind l : Int) : Bool := decide (np ≤ 12) && (decide (nl ≤ 60) && (decide (kind ≠ 1) || decide (l ≤ 10)))
theorem few32_yes {np nl : Nat} {kind l : Int} (h : few32 np nl kind l = true) : np ≤ 12 ∧ nl ≤ 60 := by
  unfold few32 at h
  simp only [Bool.and_eq_true, decide_eq_true_eq] at h
  exact ⟨h.1, h.2.1⟩
theorem t_few32 {W : World} (pp ps : Option Addr) (np cp nl cl : Nat) (l k kind wait number : Int) :
    Calls Tryz.prog 5 #[.agg #[.slice pp np cp, .int .i64 l, .int .i64 k, .int .i64 kind, .int .i64 wait, .int .i64 number], .slice ps nl cl, .int .i64 60] W fun e w' => e = .returned (.bool (few32 np nl kind l)) ∧ Below W.heap.size W w' := by
  have hb1 : Below W.heap.size W (W.alloc (.cells #[.slice pp np cp, .int .i64 l, .int .i64 k, .int .i64 kind, .int .i64 wait, .int .i64 number] 26)) := (Below.refl _ _).alloc nlr _
  unfold few32
  by_cases h1 : np ≤ 12
  · have z1 : decide ((np : Int) ≤ 12) = true := decide_eq_true (by omega)
    by_cases h2 : nl ≤ 60
    · have z2 : decide ((nl : Int) ≤ 60) = true := decide_eq_true (by omega)
      by_cases h3 : kind = 1
      · subst h3
        have z3 : ((1 : Int) != 1) = false := by decide
        rw [decide_eq_true h1, decide_eq_true h2]
        clear h1 h2
        go_enter Tryz.func5, Tryz.ntmps5
        go_wp2_with fail
        go_ret
        exact ⟨by simp, hb1⟩
      · have z3 : (kind != 1) = true := by simp [h3]
        rw [decide_eq_true h1, decide_eq_true h2, decide_eq_true h3]
        clear h1 h2 h3
        go_enter Tryz.func5, Tryz.ntmps5
        go_wp2_with fail
        go_ret
        exact ⟨by simp, hb1⟩
    · have z2 : decide ((nl : Int) ≤ 60) = false := decide_eq_false (by omega)
      rw [decide_eq_true h1, decide_eq_false h2]
      clear h1 h2
      go_enter Tryz.func5, Tryz.ntmps5
      go_wp2_with fail
      go_ret
      exact ⟨by simp, hb1⟩
  · have z1 : decide ((np : Int) ≤ 12) = false := decide_eq_false (by omega)
    rw [decide_eq_false h1]
    clear h1
    go_enter Tryz.func5, Tryz.ntmps5
    go_wp2_with fail
    go_ret
    exact ⟨by simp, hb1⟩
end Go.Proofs.YtdnlejboijkcfaaGreatDoor

/- TopBudget: how many sensors a set has; what lies beside the run. -/
namespace Go.Proofs.YtdnlejboijkcfaaGreatDoor
set_option maxHeartbeats 8000000
set_option maxRecDepth 100000
open Go.RowKit Nl Tb
theorem ones64 (s : Int) (n : Nat) (h : (s = 1 ∧ n = 1) ∨ (s = 3 ∧ n = 2) ∨ (s = 7 ∧ n = 3) ∨ (s = 15 ∧ n = 4) ∨ (s = 31 ∧ n = 5) ∨ (s = 63 ∧ n = 6) ∨ (s = 127 ∧ n = 7) ∨ (s = 255 ∧ n = 8) ∨ (s = 511 ∧ n = 9) ∨ (s = 1023 ∧ n = 10) ∨ (s = 2047 ∧ n = 11) ∨ (s = 4095 ∧ n = 12)) (w : World) :
    Calls Tryz.prog 45 #[.int .u64 s] w (Rt (.int .i64 n) w) := by
  rcases h with ⟨rfl, rfl⟩ | ⟨rfl, rfl⟩ | ⟨rfl, rfl⟩ | ⟨rfl, rfl⟩ | ⟨rfl, rfl⟩ | ⟨rfl, rfl⟩ | ⟨rfl, rfl⟩ | ⟨rfl, rfl⟩ | ⟨rfl, rfl⟩ | ⟨rfl, rfl⟩ | ⟨rfl, rfl⟩ | ⟨rfl, rfl⟩
  all_goals
    go_enter Tryz.func45, Tryz.ntmps45
    go_wp2_with fail
    go_ret
    refine ⟨congrArg (fun x => Ending.returned (Value.int .i64 x)) ?_, rfl⟩
    decide +kernel
theorem cw_len (n : Nat) (h1 : 1 ≤ n) (h2 : n ≤ 12) (w : World) : Calls Tryz.prog 15 #[.int .u64 (2 ^ n - 1 : Nat)] w (Rt (.int .i64 n) w) := by
  have OC := hid (fun s h W => ones64 s n h W)
  have AB := and_bits (s := 2 ^ n - 1) (t := 281474976710655) (Nat.lt_of_le_of_lt (Nat.sub_le _ _) (Nat.pow_lt_pow_right (by decide) (by omega))) (by decide)
  have e1 : (2 ^ n - 1) &&& 281474976710655 = 2 ^ n - 1 := by
    rw [show (281474976710655 : Nat) = 2 ^ 48 - 1 by decide, Nat.and_two_pow_sub_one_eq_mod]
    exact Nat.mod_eq_of_lt (Nat.lt_of_le_of_lt (Nat.sub_le _ _) (Nat.pow_lt_pow_right (by decide) (by omega)))
  rw [e1] at AB
  have hv : ∃ s : Int, ((2 ^ n - 1 : Nat) : Int) = s ∧ ((s = 1 ∧ n = 1) ∨ (s = 3 ∧ n = 2) ∨ (s = 7 ∧ n = 3) ∨ (s = 15 ∧ n = 4) ∨ (s = 31 ∧ n = 5) ∨ (s = 63 ∧ n = 6) ∨ (s = 127 ∧ n = 7) ∨ (s = 255 ∧ n = 8) ∨ (s = 511 ∧ n = 9) ∨ (s = 1023 ∧ n = 10) ∨ (s = 2047 ∧ n = 11) ∨ (s = 4095 ∧ n = 12)) := by
    refine ⟨_, rfl, ?_⟩
    have : n = 1 ∨ n = 2 ∨ n = 3 ∨ n = 4 ∨ n = 5 ∨ n = 6 ∨ n = 7 ∨ n = 8 ∨ n = 9 ∨ n = 10 ∨ n = 11 ∨ n = 12 := by omega
    rcases this with rfl | rfl | rfl | rfl | rfl | rfl | rfl | rfl | rfl | rfl | rfl | rfl <;> decide
  obtain ⟨s, es, hs⟩ := hv
  have AB : bits BinOp.and IntKind.u64 s 281474976710655 = s := by rw [← es]; exact AB
  rw [es]
  have O := hid (OC.out s hs w)
  clear hs e1 OC es
  go_enter Tryz.func15, Tryz.ntmps15
  go_wp2_with (simp only [AB])
  refine O.out.mono ?_
  rintro e w2 ⟨rfl, rfl⟩
  go_wp2_with fail
  go_ret
  exact ⟨rfl, rfl⟩
theorem rd_none {W W' : World} {v : Value} (h : RdN W v []) : RdN W' v [] := by
  rcases h with h | h | ⟨g, off, cap, h1, -, -, -⟩
  · exact .inl h
  · exact .inr (.inl h)
  · exact .inr (.inl ⟨_, cap, h1, rfl⟩)
structure TbO (W : World) (av bv : Array Value) (L : Int) (A Bg : Nat) (lab : Nat → Nat) (v : Value) (al : List Nd) (wr : World) : Prop where
  a : Blk wr A av 26
  b : Blk wr (A + 1) bv 28
  g : Blk wr Bg #[.int .i64 L, v] 40
  rd : RdN wr v al
  la : lab A = 0 ∧ lab (A + 1) = 0 ∧ lab Bg = 0
  lv : al ≠ [] → ∀ b, v.ownBlock = some b → lab b = 0 ∧ b ≠ Bg
  low : ∀ b, b < W.heap.size → lab b = 0
  bel : Below W.heap.size W wr
  ne : W.heap.size ≤ A ∧ A + 1 < Bg
theorem TbO.below {W : World} {av bv : Array Value} {L : Int} {A Bg : Nat} {lab : Nat → Nat} {v : Value} {al : List Nd} {wr wr' : World} (h : TbO W av bv L A Bg lab v al wr) (q : Below wr.heap.size wr wr') : TbO W av bv L A Bg lab v al wr' :=
  ⟨h.a.below q nlr, h.b.below q nlr, h.g.below q nlr, h.rd.below q nlr, h.la, h.lv, h.low, h.bel.trans (q.mono h.bel.size), h.ne⟩
theorem TbO.step {W : World} {av bv : Array Value} {L : Int} {A Bg : Nat} {lab lab' : Nat → Nat} {v : Value} {al : List Nd} {wr wr' : World} (h : TbO W av bv L A Bg lab v al wr) (f : RFr lab lab' wr wr') : TbO W av bv L A Bg lab' v al wr' := by
  have hk : ∀ b, b < wr.heap.size → lab b = 0 → wr'.heap[b]? = wr.heap[b]? := fun b hb h0 => f.ch.block b hb (fun q => q h0)
  have hw := h.bel.size
  refine ⟨h.a.keep (hk A h.a.lt h.la.1), h.b.keep (hk _ h.b.lt h.la.2.1), h.g.keep (hk _ h.g.lt h.la.2.2), ?_, ⟨by rw [f.eq A h.a.lt]; exact h.la.1, by rw [f.eq _ h.b.lt]; exact h.la.2.1, by rw [f.eq _ h.g.lt]; exact h.la.2.2⟩, fun he b hb => ?_, fun b hb => by rw [f.eq b (by omega)]; exact h.low b hb, h.bel.trans (f.ch.below (fun k _ q => ?_) h.bel.size), h.ne⟩
  · by_cases he : al = []
    · have := h.rd
      rw [he] at this ⊢
      exact rd_none this
    · exact h.rd.keep (fun b hb hv => hk b hb (h.lv he b hv).1) f.ch.size
  · have hbl : b < wr.heap.size := by
      rcases h.rd.ltE with q | q
      · exact absurd q he
      · exact q b hb
    rw [f.eq b hbl]; exact h.lv he b hb
  · rcases Nat.lt_or_ge k W.heap.size with q2 | q2
    · exact absurd (h.low k q2) q
    · exact q2
end Go.Proofs.YtdnlejboijkcfaaGreatDoor
