/- Texts laid together. -/
import Derived.Test.YtdnlejboijkcfaaGreatDoorP20
import Derived.Test.YtdnlejboijkcfaaGreatDoorP23
import Derived.Test.YtdnlejboijkcfaaGreatDoorP12
/- The walk of wire.Encode. -/
namespace Go.Proofs.YtdnlejboijkcfaaGreatDoor
set_option maxHeartbeats 8000000
set_option maxRecDepth 100000
open Go.RowKit Nl Vy
theorem Vy.map_take (zs : List Nd) (f : Nd → Int) {j : Nat} {x : Nd} (h : j < zs.length) (e : zs.getD j (0, 0) = x) : (zs.take (j + 1)).map f = (zs.take j).map f ++ [f x] := by
  have e2 : zs[j] = x := by rw [← e]; simp [List.getD, h]
  rw [List.take_succ_eq_append_getElem h, List.map_append, e2]
  rfl
theorem Vy.map_getD (zs : List Nd) (f : Nd → Int) (j : Nat) : (zs.map f).getD j 0 = if h : j < zs.length then f zs[j] else 0 := by
  by_cases h : j < zs.length
  · rw [dif_pos h]; simp [List.getD, h]
  · rw [dif_neg h]; simp [List.getD, List.getElem?_eq_none (show zs.length ≤ j by omega)]
theorem Vy.right_bd' {l id : Int} (h : rightB l id = true) : 1 ≤ id ∧ id ≤ 562949953421312 := by
  simp only [rightB, decide_eq_true_eq] at h
  obtain ⟨n, rfl⟩ := Int.eq_ofNat_of_zero_le (show 0 ≤ l by omega)
  have hp := pow48 (n := n) (by omega)
  rw [Int.toNat_natCast] at h
  omega
theorem Vy.ids_cnt {l : Int} {zs : List Nd} (r : Roll l zs) : Cnt (zs.map (fun x => x.1)) := fun j => by
  rw [map_getD]
  split
  · rename_i h
    have h1 := right_bd' (r.ids _ (List.getElem_mem h))
    omega
  · omega
theorem Vy.ws_cnt {l : Int} {zs : List Nd} (r : Roll l zs) : Cnt (zs.map (fun x => x.2)) := fun j => by
  rw [map_getD]
  split
  · rename_i h
    have h1 := (r.strict.2 _ (List.getElem_mem h)).2
    have h2 := r.strict.pos.le_sum _ (List.getElem_mem h)
    have h3 := r.most
    omega
  · omega
theorem Vy.ids_rise {l : Int} {zs : List Nd} (r : Roll l zs) : Rise (zs.map (fun x => x.1)) := fun j hj => by
  rw [List.length_map] at hj
  cases j with
  | zero =>
    rw [map_getD, dif_pos hj]
    have := (r.strict.2 _ (List.getElem_mem hj)).1
    show (0 : Int) < _
    omega
  | succ j =>
    show (zs.map (fun x => x.1)).getD j 0 < _
    rw [map_getD, map_getD, dif_pos hj, dif_pos (by omega)]
    exact List.pairwise_iff_getElem.1 r.strict.1 j (j + 1) (by omega) hj (by omega)
theorem Vy.ws_two (a b : Int) : wsL [a, b] [a, b].length = vyL a.toNat ++ vyL b.toNat := by simp [wsL]
theorem Vy.cnt_two {a b : Int} (ha : 0 ≤ a ∧ a ≤ 9223372036854775807) (hb : 0 ≤ b ∧ b ≤ 9223372036854775807) : Cnt [a, b] := fun j => by
  match j with
  | 0 => exact ha
  | 1 => exact hb
  | j + 2 => show (0 : Int) ≤ 0 ∧ (0 : Int) ≤ _; decide
theorem rd_two (W : World) (a b : Int) (T : TypeId) : RdI (W.alloc (.cells #[.int .i64 a, .int .i64 b] T)) (.slice (some ⟨W.heap.size, 0, none⟩) 2 2) [a, b] := by
  have X := Blk.new W #[.int .i64 a, .int .i64 b] T
  refine .inr (.inr ⟨W.heap.size, 0, 2, rfl, X.lt, Nat.le_refl 2, fun k hk => ?_⟩)
  have hk : k < 2 := hk
  obtain rfl | rfl : k = 0 ∨ k = 1 := by omega
  · exact X.cell 0
  · exact X.cell 1
theorem Vy.enc_str (c : UInt8) (A R W : List UInt8) : (⟨#[68, 87, 80, 1]⟩ ++ ⟨#[c]⟩ ++ ⟨A.toArray⟩ ++ ⟨R.toArray⟩ ++ ⟨W.toArray⟩ : ByteArray) = ⟨([68, 87, 80, 1] ++ [c] ++ A ++ R ++ W).toArray⟩ := by
  have e := bs_app
  rw [show (⟨#[68, 87, 80, 1]⟩ : ByteArray) = ⟨[68, 87, 80, 1].toArray⟩ from rfl, show (⟨#[c]⟩ : ByteArray) = ⟨[c].toArray⟩ from rfl]
  simp only [e]
def EncRel (zs : List Nd) (B : Nat) (w : World) (gn : Nat) (va vb i : Value) (wr : World) : Prop :=
  ∃ j : Nat, i = .int .i64 j ∧ j ≤ zs.length ∧ zs.length - j ≤ gn ∧ Two wr B va ((zs.take j).map (·.1)) vb ((zs.take j).map (·.2)) ∧ Below B w wr
theorem w_encode {w : World} {dg q g h m : Nat} {kind l k : Int} {zs : List Nd} (d : DgV w dg q g h kind l k m zs) (hm : m ≤ 100000) (hz : zs.length ≤ 9000) :
    Calls Tryz.prog 25 #[.pointer (some ⟨dg, 0, none⟩)] w fun e w' => e = .returned (.tuple #[.string ⟨(encL l k (sumL zs) (zs.map (·.1)) (zs.map (·.2))).toArray⟩, .int .i64 0]) ∧ Below w.heap.size w w' := by
  have CF := hid (dg_conf d)
  have ND := hid (fun W (y : DgV W dg q g h kind l k m zs) => dg_nodes y hm)
  have NN := hid (fun W (y : DgV W dg q g h kind l k m zs) => dg_n y)
  go_enter Tryz.func25, Tryz.ntmps25
  go_wp2_with fail
  refine CF.out.mono ?_
  rintro e w1 ⟨rfl, hb1⟩
  have hba := hb1.alloc hb1.size (.cells #[.int .i64 l, .int .i64 k, .int .i64 kind] 24)
  have X2 := Blk.new w1 #[.int .i64 l, .int .i64 k, .int .i64 kind] 24
  have d2 := (d.below hb1 nlr).below ((Below.refl w1.heap.size w1).alloc nlr (.cells #[.int .i64 l, .int .i64 k, .int .i64 kind] 24)) nlr
  have hs1 := hb1.size
  clear CF d hb1
  go_wp2_with fail
  generalize (w1.alloc (.cells #[.int .i64 l, .int .i64 k, .int .i64 kind] 24)) = w2 at *
  refine (ND.out _ d2).mono ?_
  rintro e w3 ⟨vn, rfl, on, hb3⟩
  have hbw := hba.trans (hb3.mono hba.size)
  have X3 := X2.below hb3 nlr
  have d3 := d2.below hb3 nlr
  have rn := on.rd
  obtain ⟨p, cap, rfl⟩ := rn.val
  clear ND d2 X2 on hb3 hba
  go_wp2_with fail
  go_loopg [5, 6, 22] zs.length (fun gn va vb i wr => EncRel zs w3.heap.size w3 gn va vb i wr)
  case atStart => exact ⟨0, rfl, Nat.zero_le _, nlr, by simpa using Two.nil _ _, Below.refl _ _⟩
  case round =>
    obtain ⟨j, rfl, hj, hgn, hT, hbl⟩ := hrel
    have hwr := hbl.size
    by_cases hlt : j < zs.length
    · obtain ⟨gs, off, a, c, hp, hac, hgs, q0, q1⟩ := (rn.below hbl nlr).at hlt
      subst hp
      have STA := hid (map_take zs (fun x => x.1) hlt hac)
      have STC := hid (map_take zs (fun x => x.2) hlt hac)
      have hla : ((zs.take j).map (fun x => x.1)).length ≤ 9000 := by simp; omega
      have hlc : ((zs.take j).map (fun x => x.2)).length ≤ 9000 := by simp; omega
      generalize (zs.take j).map (fun x => x.1) = xs at *
      generalize (zs.take j).map (fun x => x.2) = ys at *
      have z0 : decide ((j : Int) < (zs.length : Int)) = true := decide_eq_true (by omega)
      have T1 := hT.alloc (.cells #[.int .i64 a, .int .i64 c] 116)
      have Z1 := Blk.new wr #[.int .i64 a, .int .i64 c] 116
      have hb1 := hbl.alloc hwr (.cells #[.int .i64 a, .int .i64 c] 116)
      have hs1' : w3.heap.size ≤ (wr.alloc (.cells #[.int .i64 a, .int .i64 c] 116)).heap.size := hb1.size
      have NA0 := hT.1.lt'
      have NB0 := hT.2.1.lt'
      obtain ⟨pa, ca, rfl⟩ := hT.1.val
      obtain ⟨pb, cb, rfl⟩ := hT.2.1.val
      have hnb0 : wr.heap.size < (wr.alloc (.cells #[.int .i64 a, .int .i64 c] 116)).heap.size := by simp
      clear hT
      go_upto_region 8 with fail
      generalize (wr.alloc (.cells #[.int .i64 a, .int .i64 c] 116)) = w4 at *
      have NA : ∀ g, wr.heap.size ≤ g → Value.ownBlock (.slice pa xs.length ca) ≠ some g := fun g hg he => by have := NA0 g he; omega
      have NB : ∀ g, wr.heap.size ≤ g → Value.ownBlock (.slice pb ys.length cb) ≠ some g := fun g hg he => by have := NB0 g he; omega
      obtain ⟨nb, hnbe⟩ : ∃ nb, wr.heap.size = nb := ⟨_, rfl⟩
      rw [hnbe] at NA NB Z1 hnb0 ⊢
      have hnb : nb < w4.heap.size := hnb0
      have T1d : Two w4.drew w3.heap.size (.slice pa xs.length ca) xs (.slice pb ys.length cb) ys := T1.drewN 1
      have Zd : Blk w4.drew nb #[.int .i64 a, .int .i64 c] 116 := Z1.drewN 1
      have hb1d : Below w3.heap.size w3 w4.drew := below_drewN hb1 1
      have hBd : w3.heap.size ≤ w4.drew.heap.size := hs1'
      have hBd1 : ∀ o, w3.heap.size ≤ (w4.drew.alloc o).heap.size := fun o => by rw [World.size_alloc]; exact Nat.le_succ_of_le hs1'
      have hBd2 : ∀ o o', w3.heap.size ≤ ((w4.drew.alloc o).alloc o').heap.size := fun o o' => by rw [World.size_alloc, World.size_alloc]; exact Nat.le_succ_of_le (Nat.le_succ_of_le hs1')
      have BkN : ∀ (x y : Int), Blk ((w4.drew.alloc (.cells #[.int .i64 x] 3)).alloc (.cells #[.int .i64 y] 3)) (w4.heap.size + 1) #[.int .i64 y] 3 := fun x y => by
        have := Blk.new (w4.drew.alloc (.cells #[.int .i64 x] 3)) #[.int .i64 y] 3
        rwa [World.size_alloc] at this
      have FX := hid (fun W (z : Blk W nb #[.int .i64 a, .int .i64 c] 116) => show W.cell? ⟨nb, 0, none⟩ = some (.int .i64 a) ∧ W.cell? ⟨nb, 1, none⟩ = some (.int .i64 c) from ⟨z.cell 0, z.cell 1⟩)
      clear NA0 NB0 hnb0 T1 Z1 hb1 q0 q1
      go_region_held3 (fun w' => w'.cell? ⟨nb, 0, none⟩ = some (.int .i64 a) ∧ w'.cell? ⟨nb, 1, none⟩ = some (.int .i64 c))
        (first
          | exact FX.out _ Zd
          | exact FX.out _ (Zd.alloc _)
          | exact FX.out _ ((Zd.alloc _).alloc _)
          | exact FX.out _ ZA
          | exact FX.out _ ZB
          | exact FX.out _ (ZA.alloc _)
          | exact FX.out _ (ZB.alloc _))
        (first
          | (refine step_two (w := w4.drew.alloc (.cells #[.int .i64 a] 3)) (H := w4.heap.size) (v := .slice pa xs.length ca) (xs := xs) (c := a) (.tmp 26) (.tmp 29) (T1d.alloc _) ?_ (hBd1 _) (Blk.new _ _ _) rfl rfl rfl rfl ?_
             · omega
             intro vA wA TA gA hBA hbA kA
             have ZA : Blk wA nb #[.int .i64 a, .int .i64 c] 116 := kA _ _ _ (Zd.alloc _) (NA _ nlr)
             have hcA : Below w3.heap.size w3 wA := Below.trans (hb1d.alloc hBd _) hbA)
          | (refine step_two (w := (w4.drew.alloc (.cells #[.int .i64 a] 3)).alloc (.cells #[.int .i64 c] 3)) (H := w4.heap.size) (v := .slice pa xs.length ca) (xs := xs) (c := a) (.tmp 26) (.tmp 29) ((T1d.alloc _).alloc _) ?_ (hBd2 _ _) ((Blk.new w4.drew _ _).alloc _) rfl rfl rfl rfl ?_
             · omega
             intro vA wA TA gA hBA hbA kA
             have ZA : Blk wA nb #[.int .i64 a, .int .i64 c] 116 := kA _ _ _ ((Zd.alloc _).alloc _) (NA _ nlr)
             have hcA : Below w3.heap.size w3 wA := Below.trans ((hb1d.alloc hBd _).alloc (hBd1 _) _) hbA
             have EA : Blk wA (w4.heap.size + 1) #[.int .i64 c] 3 := kA _ _ _ (BkN _ _) (NA _ (by omega)))
          | (refine step_two (w := (w4.drew.alloc (.cells #[.int .i64 c] 3)).alloc (.cells #[.int .i64 a] 3)) (H := w4.heap.size + 1) (v := .slice pa xs.length ca) (xs := xs) (c := a) (.tmp 26) (.tmp 29) ((T1d.alloc _).alloc _) ?_ (hBd2 _ _) (BkN _ _) rfl rfl rfl rfl ?_
             · omega
             intro vA wA TA gA hBA hbA kA
             have ZA : Blk wA nb #[.int .i64 a, .int .i64 c] 116 := kA _ _ _ ((Zd.alloc _).alloc _) (NA _ nlr)
             have hcA : Below w3.heap.size w3 wA := Below.trans ((hb1d.alloc hBd _).alloc (hBd1 _) _) hbA
             have EA : Blk wA w4.heap.size #[.int .i64 c] 3 := kA _ _ _ ((Blk.new w4.drew _ _).alloc _) (NA _ (by omega)))
          | (refine step_two (w := wB.alloc (.cells #[.int .i64 a] 3)) (H := wB.heap.size) (v := .slice pa xs.length ca) (xs := xs) (c := a) (.tmp 26) (.tmp 29) (TB.swap.alloc _) ?_ (by rw [World.size_alloc]; exact Nat.le_succ_of_le hBB) (Blk.new _ _ _) rfl rfl rfl rfl ?_
             · omega
             intro vA wA TA gA hBA hbA kA
             have ZA : Blk wA nb #[.int .i64 a, .int .i64 c] 116 := kA _ _ _ (ZB.alloc _) (NA _ nlr)
             have hcA : Below w3.heap.size w3 wA := Below.trans (hcB.alloc hBB _) hbA)
          | (refine step_two (w := wB) (H := w4.heap.size) (v := .slice pa xs.length ca) (xs := xs) (c := a) (.tmp 26) (.tmp 29) (TB.swap) ?_ (hBB) (EB) rfl rfl rfl rfl ?_
             · omega
             intro vA wA TA gA hBA hbA kA
             have ZA : Blk wA nb #[.int .i64 a, .int .i64 c] 116 := kA _ _ _ (ZB) (NA _ nlr)
             have hcA : Below w3.heap.size w3 wA := Below.trans (hcB) hbA)
          | (refine step_two (w := wB) (H := w4.heap.size + 1) (v := .slice pa xs.length ca) (xs := xs) (c := a) (.tmp 26) (.tmp 29) (TB.swap) ?_ (hBB) (EB) rfl rfl rfl rfl ?_
             · omega
             intro vA wA TA gA hBA hbA kA
             have ZA : Blk wA nb #[.int .i64 a, .int .i64 c] 116 := kA _ _ _ (ZB) (NA _ nlr)
             have hcA : Below w3.heap.size w3 wA := Below.trans (hcB) hbA)
          | (refine step_two (w := w4.drew.alloc (.cells #[.int .i64 c] 3)) (H := w4.heap.size) (v := .slice pb ys.length cb) (xs := ys) (c := c) (.tmp 31) (.tmp 34) (T1d.swap.alloc _) ?_ (hBd1 _) (Blk.new _ _ _) rfl rfl rfl rfl ?_
             · omega
             intro vB wB TB gB hBB hbB kB
             have ZB : Blk wB nb #[.int .i64 a, .int .i64 c] 116 := kB _ _ _ (Zd.alloc _) (NB _ nlr)
             have hcB : Below w3.heap.size w3 wB := Below.trans (hb1d.alloc hBd _) hbB)
          | (refine step_two (w := (w4.drew.alloc (.cells #[.int .i64 c] 3)).alloc (.cells #[.int .i64 a] 3)) (H := w4.heap.size) (v := .slice pb ys.length cb) (xs := ys) (c := c) (.tmp 31) (.tmp 34) ((T1d.swap.alloc _).alloc _) ?_ (hBd2 _ _) ((Blk.new w4.drew _ _).alloc _) rfl rfl rfl rfl ?_
             · omega
             intro vB wB TB gB hBB hbB kB
             have ZB : Blk wB nb #[.int .i64 a, .int .i64 c] 116 := kB _ _ _ ((Zd.alloc _).alloc _) (NB _ nlr)
             have hcB : Below w3.heap.size w3 wB := Below.trans ((hb1d.alloc hBd _).alloc (hBd1 _) _) hbB
             have EB : Blk wB (w4.heap.size + 1) #[.int .i64 a] 3 := kB _ _ _ (BkN _ _) (NB _ (by omega)))
          | (refine step_two (w := (w4.drew.alloc (.cells #[.int .i64 a] 3)).alloc (.cells #[.int .i64 c] 3)) (H := w4.heap.size + 1) (v := .slice pb ys.length cb) (xs := ys) (c := c) (.tmp 31) (.tmp 34) ((T1d.swap.alloc _).alloc _) ?_ (hBd2 _ _) (BkN _ _) rfl rfl rfl rfl ?_
             · omega
             intro vB wB TB gB hBB hbB kB
             have ZB : Blk wB nb #[.int .i64 a, .int .i64 c] 116 := kB _ _ _ ((Zd.alloc _).alloc _) (NB _ nlr)
             have hcB : Below w3.heap.size w3 wB := Below.trans ((hb1d.alloc hBd _).alloc (hBd1 _) _) hbB
             have EB : Blk wB w4.heap.size #[.int .i64 a] 3 := kB _ _ _ ((Blk.new w4.drew _ _).alloc _) (NB _ (by omega)))
          | (refine step_two (w := wA.alloc (.cells #[.int .i64 c] 3)) (H := wA.heap.size) (v := .slice pb ys.length cb) (xs := ys) (c := c) (.tmp 31) (.tmp 34) (TA.swap.alloc _) ?_ (by rw [World.size_alloc]; exact Nat.le_succ_of_le hBA) (Blk.new _ _ _) rfl rfl rfl rfl ?_
             · omega
             intro vB wB TB gB hBB hbB kB
             have ZB : Blk wB nb #[.int .i64 a, .int .i64 c] 116 := kB _ _ _ (ZA.alloc _) (NB _ nlr)
             have hcB : Below w3.heap.size w3 wB := Below.trans (hcA.alloc hBA _) hbB)
          | (refine step_two (w := wA) (H := w4.heap.size) (v := .slice pb ys.length cb) (xs := ys) (c := c) (.tmp 31) (.tmp 34) (TA.swap) ?_ (hBA) (EA) rfl rfl rfl rfl ?_
             · omega
             intro vB wB TB gB hBB hbB kB
             have ZB : Blk wB nb #[.int .i64 a, .int .i64 c] 116 := kB _ _ _ (ZA) (NB _ nlr)
             have hcB : Below w3.heap.size w3 wB := Below.trans (hcA) hbB)
          | (refine step_two (w := wA) (H := w4.heap.size + 1) (v := .slice pb ys.length cb) (xs := ys) (c := c) (.tmp 31) (.tmp 34) (TA.swap) ?_ (hBA) (EA) rfl rfl rfl rfl ?_
             · omega
             intro vB wB TB gB hBB hbB kB
             have ZB : Blk wB nb #[.int .i64 a, .int .i64 c] 116 := kB _ _ _ (ZA) (NB _ nlr)
             have hcB : Below w3.heap.size w3 wB := Below.trans (hcA) hbB))
      all_goals
        go_wp2_with fail
        go_roundg (zs.length - (j + 1))
        case rel =>
          refine ⟨j + 1, by go_num, by omega, nlr, ?_, ?_⟩
          · rw [STA.out, STC.out]; first | exact TA | exact TB.swap
          · first | exact hcA | exact hcB
        case measure => omega
    · obtain rfl : j = zs.length := by omega
      have z0 : decide ((zs.length : Int) < (zs.length : Int)) = false := decide_eq_false (by omega)
      rw [List.take_length] at hT
      obtain ⟨oa, ob, -⟩ := hT
      have X4 := X3.below hbl nlr
      have d4 := d3.below hbl nlr
      have hbw4 := hbw.trans (hbl.mono hbw.size)
      have inv := d4.inv
      have hl1 := inv.roll.l1
      have hl2 := inv.roll.l2
      have hk1 := inv.k1
      have hk2 := inv.k2
      obtain ⟨u1, u2⟩ := inv.roll.sum
      have lid : (zs.map (fun x => x.1)).length = zs.length := List.length_map _
      have lws : (zs.map (fun x => x.2)).length = zs.length := List.length_map _
      have ci := ids_cnt inv.roll
      have cw := ws_cnt inv.roll
      have ri := ids_rise inv.roll
      have PT := hid (fun (W : World) => v_put (rd_two W k (sumL zs) 3) (cnt_two ⟨by omega, by omega⟩ ⟨by omega, by omega⟩) (by show 2 ≤ 10000; decide))
      rw [ws_two] at PT
      have RS := hid (fun (W : World) v (y : RdI W v (zs.map (fun x => x.1))) => v_rises y ci ri (by omega))
      have PW := hid (fun (W : World) v (y : RdI W v (zs.map (fun x => x.2))) => v_put y cw (by omega))
      have hA9 := vy_len 2 k.toNat (by omega)
      have hA92 := vy_len9 (n := (sumL zs).toNat) (by omega)
      have hR9 := rises_len (fun j => (ci j).2) (fun j => (ci j).1) (by omega)
      have hW9 := ws_len (fun j => (cw j).2) (zs.map (fun x => x.2)).length
      have EN : Hid (sealL ([68, 87, 80, 1] ++ [UInt8.ofNat l.toNat] ++ (vyL k.toNat ++ vyL (sumL zs).toNat) ++ risesL (zs.map (fun x => x.1)) ++ wsL (zs.map (fun x => x.2)) (zs.map (fun x => x.2)).length) = encL l k (sumL zs) (zs.map (fun x => x.1)) (zs.map (fun x => x.2))) := by
        show _ = _
        unfold encL headB
        simp only [List.append_assoc]
      have hAl : (vyL k.toNat ++ vyL (sumL zs).toNat).length ≤ 12 := by rw [List.length_append]; omega
      have LC : ((UInt8.ofNat l.toNat).toNat : Int) = l := by rw [of_low (by omega)]; omega
      clear ci cw ri d3 X3 hA9 hA92 inv
      generalize wsL (zs.map (fun x => x.2)) (zs.map (fun x => x.2)).length = W9 at *
      generalize risesL (zs.map (fun x => x.1)) = R9 at *
      generalize vyL k.toNat ++ vyL (sumL zs).toNat = A9 at *
      obtain ⟨E9, hE9⟩ : ∃ E9, encL l k (sumL zs) (zs.map (fun x => x.1)) (zs.map (fun x => x.2)) = E9 := ⟨_, rfl⟩
      rw [hE9] at EN
      have E9E := hid hE9
      clear hE9
      obtain ⟨c9, hc9⟩ : ∃ c9, UInt8.ofNat l.toNat = c9 := ⟨_, rfl⟩
      rw [hc9] at LC EN
      clear hc9
      have STR := hid (enc_str c9 A9 R9 W9)
      have SL := hid (fun W => s_seal (w := W) ([68, 87, 80, 1] ++ [c9] ++ A9 ++ R9 ++ W9) (by simp; omega))
      rw [EN.out] at SL
      have FX := hid (fun W (z : Blk W w1.heap.size #[.int .i64 l, .int .i64 k, .int .i64 kind] 24) => show W.cell? ⟨w1.heap.size, 0, none⟩ = some (.int .i64 l) ∧ W.cell? ⟨w1.heap.size, 1, none⟩ = some (.int .i64 k) from ⟨z.cell 0, z.cell 1⟩)
      have hB0 : Below wr.heap.size wr (wr.drewN 1) := below_drewN (Below.refl _ _) 1
      have hB1 : Below wr.heap.size wr (wr.drew.alloc (.cells #[.int .i64 k, .int .i64 (sumL zs)] 3)) := hB0.alloc nlr _
      obtain ⟨pa, ca, rfl⟩ := oa.val
      obtain ⟨pb, cb, rfl⟩ := ob.val
      rw [lid] at oa
      rw [lws] at ob
      have OA := hid oa
      have OB := hid ob
      clear oa ob
      go_upto_region 10 with fail
      go_region_held3 (fun w' => w'.cell? ⟨w1.heap.size, 1, none⟩ = some (.int .i64 k))
        (first
          | exact (FX.out _ (X4.below hB0 nlr)).2
          | exact (FX.out _ (X4.below hB1 nlr)).2
          | exact (FX.out _ (X4.below hBn nlr)).2)
        (first
          | (go_at_call 16
             refine (NN.out _ (d4.below hB0 nlr)).mono ?_
             rintro e w5 ⟨rfl, rfl⟩)
          | (go_at_call 67
             refine (PT.out wr.drew).mono ?_
             rintro e w6 ⟨rfl, hb6⟩
             have hBn := hB1.trans (hb6.mono hB1.size)))
      all_goals
        have oa6 := OA.out.below hBn nlr
        have ob6 := OB.out.below hBn nlr
        have X6 := X4.below hBn nlr
        have hbw6 := hbw4.trans (hBn.mono hbw4.size)
        clear FX OA OB X4 NN PT hB0 hB1 hBn hb6 d4 hbw4
        go_wp2_with fail
        refine (RS.out w6 _ oa6.rd).mono ?_
        rintro e w7 ⟨rfl, hb7⟩
        have ob7 := ob6.below hb7 nlr
        have X7 := X6.below hb7 nlr
        have hbw7 := hbw6.trans (hb7.mono hbw6.size)
        clear oa6 ob6 X6 hbw6 hb7 RS
        go_wp2_with fail
        refine (PW.out w7 _ ob7.rd).mono ?_
        rintro e w8 ⟨rfl, hb8⟩
        have X8 := X7.below hb8 nlr
        have hbw8 := hbw7.trans (hb8.mono hbw7.size)
        clear ob7 X7 hbw7 hb8 PW
        have x0 : w8.cell? ⟨w1.heap.size, 0, none⟩ = some (.int .i64 l) := X8.cell 0
        have CV := bytes_string (Blk.new w8 #[.int .u8 l] 5) [c9] (by simp [LC]) 1
        have hwl := IntWalk.u8_in l ⟨by omega, by omega⟩
        have hb9 := hbw8.alloc hbw8.size (.cells #[.int .u8 l] 5)
        simp only [List.length_cons, List.length_nil, Nat.zero_add] at CV
        have s1 : ¬ 9223372036854775807 < 5 + A9.length := by omega
        have s2 : ¬ 9223372036854775807 < 5 + A9.length + R9.length := by omega
        have s3 : ¬ 9223372036854775807 < 5 + A9.length + R9.length + W9.length := by omega
        clear X8 hbw8
        go_wp2_with fail
        rw [STR.out]
        refine (SL.out _).mono ?_
        rintro e w10 ⟨rfl, hb10⟩
        have hbz := hb9.trans (hb10.mono hb9.size)
        go_wp2_with fail
        go_ret2
        exact ⟨by simp [E9E.out], hbz⟩
end Go.Proofs.YtdnlejboijkcfaaGreatDoor
