/- The walk of ProbeReach. -/
import Derived.Test.YtpkccicofgbfbaaProbe9
import Derived.Test.YtpkccicofgbfbaaProbe4b
import Derived.Test.YtpkccicofgbfbaaOpenOps
namespace Go.Proofs.Ytpkccicofgbfbaa
open Go.RowKit Nl

namespace Nl
/-- From a node's home to the node: no empty slot; and the node itself is met at the end alone. -/
theorem reach_way {b : Nat} {xs : List (Int × Int)} (t : Tab b xs) {i : Nat} (hi : i < xs.length) (hc : 0 < cntA xs i) :
    ∃ D, D < xs.length ∧ homeA b (idA xs i) < xs.length ∧ (homeA b (idA xs i) + D) % xs.length = i ∧ lookD xs b (idA xs i) = D ∧ lookI xs b (idA xs i) = i ∧
      ∀ k, k < D → 0 < cntA xs ((homeA b (idA xs i) + k) % xs.length) ∧ (homeA b (idA xs i) + k) % xs.length ≠ i := by
  have hh := t.home (idA xs i)
  obtain ⟨f1, f2⟩ := look_found t hi hc
  refine ⟨way xs.length (homeA b (idA xs i)) i, way_lt _ _ t.pos_len, hh, way_at hh hi, f1, f2, fun k hk => ⟨t.reach i hi hc k hk, fun q => ?_⟩⟩
  have hw := way_lt (homeA b (idA xs i)) i t.pos_len
  have := way_eq hh (k := k) (by omega) q
  omega
theorem occ_take_succ (xs : List (Int × Int)) (k : Nat) (hk : k < xs.length) : occ (xs.take (k + 1)) = occ (xs.take k) + (if 0 < cntA xs k then 1 else 0) := by
  rw [← full_length, ← full_length, full_take k hk, List.length_append]
  split <;> rfl
end Nl

/-- The state between two calls. -/
def PRRel (w : World) (g : Nat) (l : Int) (n : Nat) (i : Value) (wr : World) : Prop :=
  ∃ (k bb h : Nat) (cs : List Nd), i = .int .i64 k ∧ k ≤ n ∧ PnV wr g h l bb cs ∧ Lim k cs ∧ 1 ≤ bb ∧ Below w.heap.size w wr ∧ w.heap.size ≤ h
/-- The slots gone over. -/
def PRSlots (w W : World) (cs : List Nd) (n i : Value) (wr : World) : Prop :=
  ∃ (k : Nat), i = .int .i64 k ∧ k ≤ cs.length ∧ n = .int .i64 (occ (cs.take k) : Nat) ∧ Below W.heap.size W wr ∧ Below w.heap.size w wr
/-- The way from a home. -/
def PRWay (w W : World) (N H D : Nat) (at_ steps : Value) (wr : World) : Prop :=
  ∃ (j : Nat), at_ = .int .i64 (((H + j) % N : Nat) : Int) ∧ steps = .int .i64 ((j : Int) + 1) ∧ j ≤ D ∧ Below W.heap.size W wr ∧ Below w.heap.size w wr
theorem pow_bits {j bb : Nat} (hj : j ≤ bb) (hb : bb ≤ 18) : 2 ^ j ≤ 2 ^ bb ∧ 2 ^ bb ≤ 262144 ∧ 1 ≤ 2 ^ j ∧ (j < bb → 2 * 2 ^ j ≤ 2 ^ bb) ∧ wrap64 (2 ^ j) = ((2 ^ j : Nat) : Int) := by
  have h1 : 2 ^ j ≤ 2 ^ bb := Nat.pow_le_pow_right (by omega) hj
  have h2 : 2 ^ bb ≤ 2 ^ 18 := Nat.pow_le_pow_right (by omega) hb
  have h3 : (2 : Nat) ^ 18 = 262144 := rfl
  have h4 : 1 ≤ 2 ^ j := Nat.one_le_two_pow
  refine ⟨h1, by omega, h4, fun h => ?_, ?_⟩
  · have : 2 ^ (j + 1) ≤ 2 ^ bb := Nat.pow_le_pow_right (by omega) h
    rw [Nat.pow_succ] at this; omega
  · rw [show (2 : Int) ^ j = ((2 ^ j : Nat) : Int) by simp]
    exact IntWalk.wrap64_in _ ⟨by omega, by omega⟩

theorem half_int {u N : Nat} (h : 2 * u ≤ N) (hN : N ≤ 400008) : 0 ≤ (u : Int) ∧ (u : Int) ≤ 200004 ∧ 2 * (u : Int) ≤ N := by omega
theorem lt_dbl {M N : Nat} (h : 2 * M ≤ N) (h1 : 1 ≤ M) : M < N := by omega
set_option maxRecDepth 100000 in
set_option maxHeartbeats 4000000 in
theorem ProbeReach_walk (l : Int) (v : Value) (os : List Op3) (id0 : Int) (w : World) (hl : -9223372036854775808 ≤ l) (hl1 : l ≤ 9223372036854775807) (ho : RdO w v os) (hi0 : -9223372036854775808 ≤ id0) (hi1 : id0 ≤ 9223372036854775807) :
    Calls Try.prog 8 #[.int .i64 l, v, .int .i64 id0] w fun e w' => e = .returned (.bool true) ∧ Below w.heap.size w w' := by
  obtain ⟨p, cap, rfl, hlen, hcells⟩ := ho
  have A := hid (fun W : World => pb_alive W)
  by_cases h1 : 100 < os.length
  · clear hcells
    go_enter Try.func8, Try.ntmps8
    go_wp2_with fail
    refine (A.out _).mono ?_
    rintro e w' ⟨rfl, hb⟩
    go_wp2_with fail
    go_ret
    exact ⟨rfl, hb⟩
  by_cases h3 : l < 1 ∨ 48 < l
  · have hc2 : l < 1 ∨ (1 ≤ l ∧ 48 < l) := by omega
    clear hcells h3
    rcases hc2 with h3 | ⟨h2, h3⟩
    all_goals
      go_enter Try.func8, Try.ntmps8
      go_wp2_with fail
      refine (A.out _).mono ?_
      rintro e w' ⟨rfl, hb⟩
      go_wp2_with fail
      go_ret
      exact ⟨rfl, hb⟩
  have h4 : 1 ≤ l := by omega
  have h5 : l ≤ 48 := by omega
  have N := hid (p_new l w h4 h5)
  obtain ⟨z0, ez⟩ : ∃ z, List.replicate 8 ((0 : Int), (0 : Int)) = z := ⟨_, rfl⟩
  have El : Hid (Lim 0 z0) := by subst ez; exact Lim.new
  rw [ez] at N
  have Ho := hid hcells
  clear h3 ez hcells
  go_enter Try.func8, Try.ntmps8
  go_wp2_with fail
  refine N.out.mono ?_
  rintro e w1 ⟨g, h, rfl, dv1, hg, hh, hb1⟩
  have hs1 := hb1.size
  have R0 : Hid (PRRel w g l os.length (.int .i64 (0 : Nat)) w1) := ⟨0, 3, h, z0, rfl, Nat.zero_le _, dv1, El.out, by decide, hb1, hh⟩
  clear dv1 N El
  go_wp2_with fail
  go_loopw [43] (fun i wr => PRRel w g l os.length i wr) (fun i _ => os.length - (intOf i).toNat)
  case atStart => exact R0.out
  case round =>
    obtain ⟨k, bb, h, cs, rfl, hk, dv, hlim, hbb, hbl, hhw⟩ := hrel
    obtain ⟨hlg, hlh, hgh⟩ := dv.lt
    have hwr := hbl.size
    by_cases h6 : k < os.length
    · obtain ⟨gq, off, rfl, hgo, c1, c2, c3, k1, k2, k3⟩ := Ho.out k h6
      have eb := hbl.block gq hgo
      have c1' := (World.cell?_of_block (w := w) (w' := wr) (a := ⟨gq, off + k * 3, none⟩) eb).trans c1
      have c2' := (World.cell?_of_block (w := w) (w' := wr) (a := ⟨gq, off + k * 3 + 1, none⟩) eb).trans c2
      have c3' := (World.cell?_of_block (w := w) (w' := wr) (a := ⟨gq, off + k * 3 + 2, none⟩) eb).trans c3
      obtain ⟨⟨kind, id, c⟩, eo⟩ : ∃ x, os.getD k (0, 0, 0) = x := ⟨_, rfl⟩
      rw [eo] at c1' c2' c3' k1 k2 k3
      simp only at c1' c2' c3' k1 k2 k3
      have hbits := hlim.bits dv.2 (by omega)
      have hlim' := hlim.do dv.2 (show bb + 1 ≤ 62 by omega) kind id c
      have hba : Below wr.heap.size wr (wr.alloc (.cells #[.int .i64 kind, .int .i64 id, .int .i64 c] 32)) := (Below.refl _ _).alloc (Nat.le_refl _) _
      have hsa : (wr.alloc (.cells #[.int .i64 kind, .int .i64 id, .int .i64 c] 32)).heap.size = wr.heap.size + 1 := by simp
      have Law := hid (pb_do kind id c (dv.below hba (Nat.le_refl _)) (by omega) hbb k2 k3)
      obtain ⟨⟨⟨bb', cs'⟩, code⟩, ed⟩ : ∃ r, pDo l bb cs kind id c = r := ⟨_, rfl⟩
      rw [ed] at Law hlim'
      have Hlim := hid hlim'
      clear c1 c2 c3 eo ed eb hlim' dv
      as_aux_lemma =>
        go_wp2_with fail
        refine Law.out.mono ?_
        rintro e w5 ⟨rfl, h', D5, hh', T5⟩
        dsimp only at D5 ⊢
        have hs5 := T5.size
        obtain ⟨hL1, hL2, hL3⟩ := Hlim.out
        have B5 := (hbl.trans (hba.mono hwr)).trans (T5.below (B := w.heap.size) hg hhw (by omega))
        have hhw' : w.heap.size ≤ h' := by rcases hh' with e | e; · rw [e]; exact hhw
                                           · omega
        go_wp2_with fail
        go_roundw
        case rel => exact ⟨k + 1, bb', h', cs', by go_num, by omega, D5, hL2, by omega, B5, hhw'⟩
        case measure => simp [intOf]; omega
    · have hbits := hlim.bits dv.2 (by omega)
      have hb18 := hbits.1
      have hlen := dv.2.tab.len
      have hhalf := dv.2.half
      have hocc := occ_le cs
      have V := hid dv.2
      obtain ⟨N, eN⟩ : ∃ N, cs.length = N := ⟨_, rfl⟩
      obtain ⟨u, eu⟩ : ∃ u, occ cs = u := ⟨_, rfl⟩
      rw [eN, eu] at hhalf hocc
      rw [eN] at hlen
      have EN := hid eN
      have EU := hid eu
      have HL := hid hlen
      have hN : N ≤ 400008 := by rw [← eN]; exact hbits.2
      have hWk := hid (fun (id : Int) => (show pWalk l bb cs id ≤ N by
        unfold pWalk
        obtain ⟨em, he, hs⟩ := V.out.empty
        have := (look_spec V.out.tab id he (hs id)).1
        rw [eN] at this
        split <;> omega))
      have Sz := hid (p_size dv.1)
      have Ln := hid (fun W (q : Pn W g h l bb (occ cs) (sumL cs) cs) => p_len q)
      rw [eN] at Sz
      rw [eu] at Ln
      clear eN eu hlen hbits Ho
      obtain ⟨hu0, hu1, hu2⟩ := half_int hhalf hN
      go_wp2_with fail
      refine Sz.out.mono ?_
      rintro e w' ⟨rfl, rfl⟩
      go_wp2_with fail
      go_loop [12] (fun i => ∃ j : Nat, i = .int .i64 j ∧ j ≤ bb) (fun i => bb - (intOf i).toNat)
      case atStart => exact ⟨0, rfl, Nat.zero_le _⟩
      case round =>
        obtain ⟨j, rfl, hj⟩ := hrel
        obtain ⟨b1, b2, b3, b4, b5⟩ := pow_bits hj hb18
        rw [← HL.out] at b1 b2 b4
        have hj18 : j ≤ 18 := by omega
        have B5 := hid b5
        clear b5
        have BE := hid (fun q : j = bb => (show 2 ^ j = N by rw [HL.out, q]))
        generalize hM : 2 ^ j = M at *
        have HM := hid hM
        clear hM
        by_cases hlt : j < bb
        · have hlt2 : M < N := lt_dbl (b4 hlt) b3
          have b5 := B5.out
          clear b4
          go_wp2_with fail
          clear b5
          go_round
          case rel => exact ⟨j + 1, by go_num, by omega⟩
          case measure => simp [intOf]; omega
        · obtain rfl : bb = j := Nat.le_antisymm (Nat.le_of_not_lt hlt) hj
          obtain rfl : N = M := (BE.out rfl).symm
          clear b4
          as_aux_lemma =>
            have b5 := B5.out
            go_wp2_with fail
            clear b5 B5
            refine (Ln.out _ (by rw [← EU.out]; exact dv.1)).mono ?_
            rintro e w' ⟨rfl, rfl⟩
            have hw0 := hWk.out id0
            have PW := hid (p_walk id0 dv (Nat.le_trans hb18 (by decide)) hbb ⟨hi0, hi1⟩)
            obtain ⟨pw, epw⟩ : ∃ x, pWalk l bb cs id0 = x := ⟨_, rfl⟩
            rw [epw] at hw0 PW
            clear epw
            go_wp2_with fail
            refine PW.out.mono ?_
            rintro e w2 ⟨rfl, hb2⟩
            have hcmp : decide ((N : Int) < 2 * (u : Int)) = false := decide_eq_false (Int.not_lt.2 hu2)
            have hcmp2 : decide ((N : Int) < pw) = false := decide_eq_false (Int.not_lt.2 hw0)
            have hs2 := hb2.size
            have hbl2 := hbl.trans (hb2.mono hwr)
            have dv2 := dv.below hb2 (Nat.le_refl _)
            clear PW dv
            go_wp2_with fail
            as_aux_lemma =>
              have S0 : Hid (PRSlots w w2 cs (.int .i64 (0 : Nat)) (.int .i64 (0 : Nat)) w2) := ⟨0, rfl, Nat.zero_le _, rfl, Below.refl _ _, hbl2⟩
              clear hcmp hcmp2 hw0 hu2 Sz hWk
              go_loopw [13, 84] (fun n i wr => PRSlots w w2 cs n i wr) (fun _ i _ => N - (intOf i).toNat)
              case atStart => exact S0.out
              case round =>
                obtain ⟨k, rfl, hk, rfl, hB2, hBw⟩ := hrel
                rw [EN.out] at hk
                have hwr3 := hB2.size
                have D3 := dv2.below hB2 (Nat.le_refl _)
                have hok := occ_take_le cs k
                rw [EU.out] at hok
                by_cases h7 : k < N
                · have hkx : k < cs.length := by rw [EN.out]; exact h7
                  have Ok := hid (occ_take_succ cs k hkx)
                  have SL := hid (p_slot k D3.1)
                  have eS : pSlot cs k = (idA cs k, cntA cs k) := by unfold pSlot; rw [if_neg (by omega)]; rfl
                  rw [eS] at SL
                  have hc0 := V.out.tab.pos k
                  have hid1 : 0 < cntA cs k → rightB l (idA cs k) = true := V.out.ids k
                  obtain ⟨o, eo⟩ : ∃ o, occ (cs.take k) = o := ⟨_, rfl⟩
                  rw [eo] at hok Ok ⊢
                  have Eo := hid eo
                  clear eS eo
                  by_cases h8 : cntA cs k = 0
                  · have hq : (cntA cs k == 0) = true := by simpa using h8
                    have Ok2 : Hid (occ (cs.take (k + 1)) = o) := by show _ = _; rw [Ok.out, if_neg (by omega)]; rfl
                    generalize cntA cs k = x at *
                    generalize idA cs k = y at *
                    clear hc0 h8 hid1
                    as_aux_lemma =>
                      go_wp2_with fail
                      refine SL.out.mono ?_
                      rintro e w4 ⟨rfl, hb4⟩
                      have hs4 := hb4.size
                      go_wp2_with fail
                      go_roundw
                      case rel => exact ⟨k + 1, by go_num, by rw [EN.out]; omega, by rw [Ok2.out], hB2.trans ((hb4.trans (((Below.refl _ _).alloc (Nat.le_refl _) _).mono hs4)).mono hwr3), hBw.trans ((hb4.trans (((Below.refl _ _).alloc (Nat.le_refl _) _).mono hs4)).mono hBw.size)⟩
                      case measure => simp [intOf]; omega
                  · have hq : (cntA cs k == 0) = false := by simpa using h8
                    have hcp : 0 < cntA cs k := by omega
                    have Ok2 : Hid (occ (cs.take (k + 1)) = o + 1) := by show _ = _; rw [Ok.out, if_pos hcp]
                    obtain ⟨D, hD1, hD2, hD3, hD4, hD5, hD6⟩ := reach_way V.out.tab hkx hcp
                    rw [EN.out] at hD1 hD2 hD3
                    have HD3 := hid hD3
                    have HD6 : Hid (∀ j, j < D → 0 < cntA cs ((homeA bb (idA cs k) + j) % N) ∧ (homeA bb (idA cs k) + j) % N ≠ k) := by show ∀ j, _; have := hD6; rw [EN.out] at this; exact this
                    have hr := hid1 hcp
                    have hy1 := right_pos hr
                    have hy2 := right_max hr
                    have PG := hid (fun W (q : PnV W g h l bb cs) => p_get (idA cs k) q (Nat.le_trans hb18 (by decide)) hbb ⟨by omega, hy2⟩)
                    have PWk := hid (fun W (q : PnV W g h l bb cs) => p_walk (idA cs k) q (Nat.le_trans hb18 (by decide)) hbb ⟨by omega, hy2⟩)
                    have eg : pGet l bb cs (idA cs k) = cntA cs k := by unfold pGet; rw [hr, hD5]; rfl
                    have ew : pWalk l bb cs (idA cs k) = (D : Int) + 1 := by unfold pWalk; rw [hr, hD4]; rfl
                    rw [eg] at PG
                    rw [ew] at PWk
                    have PS := hid (fun W (q : PnV W g h l bb cs) (j : Nat) => p_slot j q.1)
                    have HV := hid (homeV_nat (b := bb) (id := idA cs k) hbb (Nat.le_trans hb18 (by decide)) hy1)
                    have HM2 := hid (fun W => p_home bb (idA cs k) W (by omega) (by omega) (by omega) hy2)
                    rw [HV.out] at HM2
                    have hN0 : 0 < N := by omega
                    generalize cntA cs k = x at *
                    generalize hy : idA cs k = y at *
                    generalize homeA bb y = H at *
                    clear hc0 h8 hid1 hD4 hD5 hD6 hD3 eg ew hr hy HV
                    go_wp2_with fail
                    refine SL.out.mono ?_
                    rintro e w4 ⟨rfl, hb4⟩
                    have hs4 := hb4.size
                    have hba : Below w4.heap.size w4 (w4.alloc (.cells #[.int .i64 y, .int .i64 x] 57)) := (Below.refl _ _).alloc (Nat.le_refl _) _
                    have O := Blk.new w4 #[.int .i64 y, .int .i64 x] 57
                    have hsa : (w4.alloc (.cells #[.int .i64 y, .int .i64 x] 57)).heap.size = w4.heap.size + 1 := by simp
                    go_wp2_with fail
                    refine (HM2.out _).mono ?_
                    rintro e w' ⟨rfl, rfl⟩
                    have hbl4 := hB2.trans (hb4.mono hwr3)
                    have hbl5 := hbl4.trans (hba.mono hbl4.size)
                    have hBw4 := hBw.trans (hb4.mono hBw.size)
                    have hBw5 := hBw4.trans (hba.mono hBw4.size)
                    have D5 := dv2.below hbl5 (Nat.le_refl _)
                    generalize (w4.alloc (.cells #[.int .i64 y, .int .i64 x] 57)) = w5 at *
                    have W0 : Hid (PRWay w w5 N H D (.int .i64 (H : Nat)) (.int .i64 1) w5) := ⟨0, by rw [Nat.add_zero, Nat.mod_eq_of_lt hD2], rfl, Nat.zero_le _, Below.refl _ _, hBw5⟩
                    clear D3 HM2 SL hB2 hBw hbl4 hBw4 hb4
                    as_aux_lemma =>
                      go_wp2_with fail
                      go_loopw [16, 17] (fun at_ st wr => PRWay w w5 N H D at_ st wr) (fun _ st _ => D + 2 - (intOf st).toNat)
                      case atStart => exact W0.out
                      case round =>
                        obtain ⟨j, rfl, rfl, hj, hB6, hBw6⟩ := hrel
                        have hs6 := hB6.size
                        have D6 := D5.below hB6 (Nat.le_refl _)
                        by_cases h9 : j < D
                        · obtain ⟨g1, g2⟩ := HD6.out j h9
                          have PSj := hid (PS.out _ D6 ((H + j) % N))
                          have eS : pSlot cs ((((H + j) % N : Nat) : Int)) = (idA cs ((H + j) % N), cntA cs ((H + j) % N)) := by unfold pSlot; rw [if_neg (by omega)]; rfl
                          rw [eS] at PSj
                          have hnext : Hid (((H + j) % N + 1) % N = (H + (j + 1)) % N) := add_mod_next
                          have hqN : (H + j) % N < N := Nat.mod_lt _ hN0
                          generalize (H + j) % N = q at *
                          generalize cntA cs q = x' at *
                          generalize idA cs q = y' at *
                          have hq1 : ((q : Int) != (k : Int)) = true := by simp; omega
                          have hq2 : (x' == 0) = false := by simp; omega
                          have hle : decide ((j : Int) + 1 ≤ (N : Int)) = true := decide_eq_true (by omega)
                          have hmod : ((q : Int) + 1) % (N : Int) = (((q + 1) % N : Nat) : Int) := by simp
                          have HMod := hid hmod
                          clear eS g2 hmod
                          as_aux_lemma =>
                            go_wp2_with fail
                            refine PSj.out.mono ?_
                            rintro e w7 ⟨rfl, hb7⟩
                            go_wp2_with fail
                            rename_i K hK
                            show K (Act.put _ (some 110) (Value.int .i64 x')) w7
                            refine hK _ _ ?_
                            clear hK
                            go_wp2_with fail
                            go_roundw
                            case rel => exact ⟨j + 1, by rw [HMod.out, hnext.out], by go_num, by omega, hB6.trans (hb7.mono hs6), hBw6.trans (hb7.mono hBw6.size)⟩
                            case measure => simp [intOf]; omega
                        · obtain rfl : D = j := Nat.le_antisymm (Nat.le_of_not_lt h9) hj
                          rw [HD3.out]
                          have hq1 : ((k : Int) != (k : Int)) = false := by simp
                          have O6 := O.below' hB6 (by omega)
                          have x0 : wr.cell? ⟨w4.heap.size, 0, none⟩ = some (.int .i64 y) := O6.cell 0
                          go_wp2_with fail
                          have x1 : wr.cell? ⟨w4.heap.size, 1, none⟩ = some (.int .i64 x) := O6.cell 1
                          have hlt6 : w4.heap.size < wr.heap.size := by omega
                          have hB0 := Below.refl wr.heap.size wr
                          have hxx : (x != x) = false := by simp
                          have hDD : ((D : Int) + 1 != (D : Int) + 1) = false := by simp
                          as_aux_lemma =>
                            go_region_held3 (fun w' => w'.cell? ⟨w4.heap.size, 0, none⟩ = some (.int .i64 y) ∧ w'.cell? ⟨w4.heap.size, 1, none⟩ = some (.int .i64 x) ∧ Below wr.heap.size wr w')
                              (first
                                | exact ⟨x0, x1, below_drewN hB0 1⟩
                                | exact ⟨(O6.below' hb8 hlt6).cell 0, (O6.below' hb8 hlt6).cell 1, hb8⟩
                                | exact ⟨(O6.below' hb9 hlt6).cell 0, (O6.below' hb9 hlt6).cell 1, hb9⟩)
                              (first
                                | (go_at_call 36; have hB4 := (‹_ ∧ _ ∧ Below wr.heap.size wr _›).2.2; refine (PG.out _ (D6.below hB4 (Nat.le_refl _))).mono ?_; rintro e w8 ⟨rfl, hb⟩
                                   have hb8 := hB4.trans (hb.mono hB4.size))
                                | (go_at_call 33; have hB4 := (‹_ ∧ _ ∧ Below wr.heap.size wr _›).2.2; refine (PWk.out _ (D6.below hB4 (Nat.le_refl _))).mono ?_; rintro e w8 ⟨rfl, hb⟩
                                   have hb9 := hB4.trans (hb.mono hB4.size)))
                            go_wp2_with fail
                            have hf5 := hbl5.trans (hB6.mono hbl5.size)
                            have hf6 := hBw6.trans (hb9.mono hBw6.size)
                            go_roundw
                            case rel => exact ⟨k + 1, by go_num, by rw [EN.out]; omega, by rw [Ok2.out]; go_num, hf5.trans (hb9.mono hf5.size), hf6⟩
                            case measure => simp [intOf]; omega
                · have eo : Hid (occ (cs.take k) = u) := by show _ = _; rw [List.take_of_length_le (by rw [EN.out]; omega)]; exact EU.out
                  rw [eo.out]
                  have hq : ((u : Int) == (u : Int)) = true := by simp
                  as_aux_lemma =>
                    go_wp2_with fail
                    refine (Ln.out _ (by rw [← EU.out]; exact D3.1)).mono ?_
                    rintro e w' ⟨rfl, rfl⟩
                    go_wp2_with fail
                    refine (A.out _).mono ?_
                    rintro e w9 ⟨rfl, hb9⟩
                    go_wp2_with fail
                    go_ret
                    exact ⟨rfl, hBw.trans (hb9.mono hBw.size)⟩
end Go.Proofs.Ytpkccicofgbfbaa
