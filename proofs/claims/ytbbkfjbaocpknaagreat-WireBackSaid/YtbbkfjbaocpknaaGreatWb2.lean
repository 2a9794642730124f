/- The walk of WireBack. -/
import Derived.Test.YtbbkfjbaocpknaaGreatWt1
import Derived.Test.YtbbkfjbaocpknaaGreatWb1
import Derived.Test.YtbbkfjbaocpknaaGreatDg7
namespace Go.Proofs.YtbbkfjbaocpknaaGreat
open Go.RowKit Nl Vy

/-- What the first decoding gives, in one form. -/
theorem Vy.dec2 {T : ByteArray} {w w' : World} {e : Ending} (h : DecP T.data.toList 2 w e w') : ∃ (a : Option Addr) (er : Int), e = .returned (.tuple #[.pointer a, .int .i64 er]) ∧ Below w.heap.size w w' ∧
    ((er == 0) = false ∨ (er = 0 ∧ ∃ (l k : Int) (zs : List Nd) (dg q g hh : Nat), T = ⟨(encB l k zs).toArray⟩ ∧ a = some ⟨dg, 0, none⟩ ∧ DgV w' dg q g hh 2 l k 2000 zs)) := by
  rcases h with ⟨er, rfl, hb, h1, -, -⟩ | ⟨l, k, zs, h0, hs, (⟨hp, -, -⟩ | ⟨-, dg, q, g, h, rfl, d, -, -, -, -, hb⟩)⟩
  · exact ⟨_, _, rfl, hb, .inl (by simp; omega)⟩
  · rw [(load_ok h0).1] at hp; cases hp
  · exact ⟨_, _, rfl, hb, .inr ⟨rfl, l, k, zs, dg, q, g, h, by rw [← hs, ← bs_list], rfl, d⟩⟩
/-- What decoding a digest's bytes gives. -/
theorem Vy.dec_own {l k kind : Int} {zs : List Nd} (inv : Dg l k zs) {w w' : World} {e : Ending} (h : DecP (encB l k zs) kind w e w') :
    (poolIs kind l = false ∧ e = .returned (.tuple #[.pointer none, .int .i64 2]) ∧ Below w.heap.size w w') ∨ (poolIs kind l = true ∧ DgNew kind l k 2000 zs w e w') := by
  rcases h with ⟨er, rfl, hb, -, -, hd⟩ | ⟨l', k', zs', h0, hs, h⟩
  · exact absurd rfl (hd l k zs (load_dg inv))
  · obtain ⟨rfl, rfl, rfl⟩ := enc_inj (load_dg inv) h0 hs
    exact h
theorem Vy.right_own {l k : Int} {zs : List Nd} (inv : Dg l k zs) {w w' : World} {e : Ending} (h : RightP (encB l k zs) w e w') : e = .returned (.int .i64 0) ∧ Below w.heap.size w w' := by
  obtain ⟨er, rfl, hb, (⟨rfl, -⟩ | ⟨-, -, hd⟩)⟩ := h
  · exact ⟨rfl, hb⟩
  · exact absurd rfl (hd l k zs (load_dg inv))
theorem Vy.enc_len_le {l k : Int} {zs : List Nd} {s : ByteArray} {n : Nat} (hs : s.data.toList = encB l k zs) (hn : s.size ≤ 2 * n + 1) : zs.length ≤ n := by
  have h := encB_len2 l k zs
  rw [← hs, size_list] at h
  omega
set_option maxRecDepth 100000 in
theorem conf_kk (a b c : Int) (W : World) : (Instr.field 27 (.agg #[.int .i64 a, .int .i64 b, .int .i64 c]) 2).run Tryz.prog W = .ok (.int .i64 c) W := by
  simp [Instr.field, run_underlying Tryz.underlying27]
  rfl
def WbRel (dg q g h : Nat) (kind l k : Int) (zs : List Nd) (C : Array Value) (T : TypeId) (w : World) (gn : Nat) (i : Value) (wr : World) : Prop :=
  ∃ j : Nat, i = .int .i64 j ∧ j ≤ 4 ∧ 4 - j ≤ gn ∧ DgV wr dg q g h kind l k 2000 zs ∧ Blk wr w.heap.size C T ∧ Below w.heap.size w wr
set_option maxRecDepth 100000 in
set_option maxHeartbeats 8000000 in
theorem wb_walk (l k kind : Int) (v : Value) (os : List Op3) (s : ByteArray) (b : Bool) (w : World) (bk : In64 k) (ho : RdO w v os) (hs : s.size ≤ 281474976710656) :
    Calls Tryz.prog 6 #[.agg #[.int .i64 l, .int .i64 k, .int .i64 kind, v], .agg #[.string s, .bool b]] w fun e w' => e = .returned (.bool true) ∧ Below w.heap.size w w' := by
  have A := hid (fun W : World => w_alive W)
  have TX := hid (fun W => l_text s b W hs)
  obtain ⟨p, cap, rfl, hlen, -⟩ := id ho
  have MD := hid (fun (h3 : os.length ≤ 120) (W : World) (h : RdO W (.slice p os.length cap) os) => d_made_any l k kind _ os W bk h (by omega))
  have X1 := (Blk.new w #[.int .i64 l, .int .i64 k, .int .i64 kind, .slice p os.length cap] 30).alloc (.cells #[.string s, .bool b] 69)
  have S1 := Blk.new (w.alloc (.cells #[.int .i64 l, .int .i64 k, .int .i64 kind, .slice p os.length cap] 30)) #[.string s, .bool b] 69
  rw [World.size_alloc] at S1
  have hbw1 : Below w.heap.size w ((w.alloc (.cells #[.int .i64 l, .int .i64 k, .int .i64 kind, .slice p os.length cap] 30)).alloc (.cells #[.string s, .bool b] 69)) := ((Below.refl _ _).alloc (Nat.le_refl _) _).alloc (by simp) _
  have ho1 := ho.below hbw1 (Nat.le_refl _)
  clear ho
  go_enter Tryz.func6, Tryz.ntmps6
  go_upto_region 1 with fail
  generalize ((w.alloc (.cells #[.int .i64 l, .int .i64 k, .int .i64 kind, .slice p os.length cap] 30)).alloc (.cells #[.string s, .bool b] 69)) = w1 at *
  have s0 : w1.cell? ⟨w.heap.size + 1, 0, none⟩ = some (.string s) := S1.cell 0
  have s1 : w1.cell? ⟨w.heap.size + 1, 1, none⟩ = some (.bool b) := S1.cell 1
  go_wp2_with fail
  refine (TX.out _).mono ?_
  rintro e w2 ⟨T, rfl, hb2⟩
  have X2 := X1.below hb2 (Nat.le_refl _)
  have ho2 := ho1.below hb2 (Nat.le_refl _)
  have hbw2 := hbw1.trans (hb2.mono hbw1.size)
  obtain ⟨b0, hbe⟩ : ∃ b0 : Bool, b0 = ((decide (120 < (os.length : Int)) || ((kind == 1) && decide (10 < l))) || decide (2000 < (T.size : Int))) := ⟨_, rfl⟩
  have HB := hid hbe
  clear X1 S1 s0 s1 hbw1 ho1 hb2 TX hbe
  go_upto_region 2 with fail
  have x0 : w2.cell? ⟨w.heap.size, 0, none⟩ = some (.int .i64 l) := X2.cell 0
  have x2 : w2.cell? ⟨w.heap.size, 2, none⟩ = some (.int .i64 kind) := X2.cell 2
  have x3 : w2.cell? ⟨w.heap.size, 3, none⟩ = some (.slice p os.length cap) := X2.cell 3
  go_cut [41] (fun s wx => s = .bool b0 ∧ w2 = wx)
  case first =>
    cases z1 : decide (120 < (os.length : Int)) <;> cases z2 : (kind == 1) <;> cases z3 : decide (10 < l) <;> cases z4 : decide (2000 < (T.size : Int))
    all_goals
      have HE := HB.out
      rw [z1, z2, z3, z4] at HE
      have HE := hid HE
      clear HB
      go_wp2_with fail
      go_meet
      exact ⟨by rw [HE.out]; rfl, rfl⟩
  case rest =>
    obtain ⟨rfl, rfl⟩ := hcut
    cases b0
    case true =>
      clear HB MD X2 x0 x2 x3 ho2
      go_wp2_with fail
      refine (A.out _).mono ?_
      rintro e w3 ⟨rfl, hb3⟩
      go_wp2_with fail
      go_ret
      exact ⟨rfl, hbw2.trans (hb3.mono hbw2.size)⟩
    case false =>
      have h120 : os.length ≤ 120 ∧ T.size ≤ 2000 := by
        have h := HB.out
        simp only [Bool.false_eq, Bool.or_eq_false_iff, decide_eq_false_iff_not] at h
        omega
      obtain ⟨h120, hT⟩ := h120
      have DE := hid (w_decode T 2 w2 (by omega) (fun l k zs _ h => by have := enc_len_le (n := 1000) h (by omega); omega))
      clear HB x0 x2 x3
      go_wp2_with fail
      refine DE.out.mono ?_
      intro e w3 hD
      obtain ⟨a, er, rfl, hb3, hD⟩ := dec2 hD
      have X3 := X2.below hb3 (Nat.le_refl _)
      have ho3 := ho2.below hb3 (Nat.le_refl _)
      have hbw3 := hbw2.trans (hb3.mono hbw2.size)
      clear DE X2 ho2 hbw2 hb3
      go_upto_if 49 with fail
      go_cut [49] (fun _ wx => Blk wx w.heap.size #[.int .i64 l, .int .i64 k, .int .i64 kind, .slice p os.length cap] 30 ∧ RdO wx (.slice p os.length cap) os ∧ Below w.heap.size w wx)
      case first =>
        rcases hD with h0 | ⟨rfl, l', k', zs, dg, q, g, hh, rfl, rfl, d⟩
        · go_wp2_with fail
          go_meet
          exact ⟨X3, ho3, hbw3⟩
        · have hz : zs.length ≤ 1000 := enc_len_le (l := l') (k := k') (s := ⟨(encB l' k' zs).toArray⟩) (by simp) (by omega)
          have EN := hid (w_encode d (by decide) (by omega))
          rw [show encL l' k' (sumL zs) (zs.map (fun x => x.1)) (zs.map (fun x => x.2)) = encB l' k' zs from rfl] at EN
          generalize encB l' k' zs = E at *
          clear d
          go_wp2_with fail
          refine EN.out.mono ?_
          rintro e w4 ⟨rfl, hb4⟩
          have X4 := X3.below hb4 (Nat.le_refl _)
          have ho4 := ho3.below hb4 (Nat.le_refl _)
          have hbw4 := hbw3.trans (hb4.mono hbw3.size)
          clear EN X3 ho3 hbw3 hb4
          go_wp2_with fail
          go_meet
          exact ⟨X4, ho4, hbw4⟩
      case rest =>
        clear hD X3 ho3 hbw3
        obtain ⟨X3, ho3, hbw3⟩ := hcut
        obtain ⟨w3, rfl⟩ : ∃ x, x = wc := ⟨_, rfl⟩
        have M3 := hid (MD.out h120 w3 ho3)
        have x0 : w3.cell? ⟨w.heap.size, 0, none⟩ = some (.int .i64 l) := X3.cell 0
        have x1 : w3.cell? ⟨w.heap.size, 1, none⟩ = some (.int .i64 k) := X3.cell 1
        have x2 : w3.cell? ⟨w.heap.size, 2, none⟩ = some (.int .i64 kind) := X3.cell 2
        have x3 : w3.cell? ⟨w.heap.size, 3, none⟩ = some (.slice p os.length cap) := X3.cell 3
        clear MD ho3
        go_wp2_with fail
        refine M3.out.mono ?_
        clear M3 x0 x1 x2 x3
        have hxl := X3.lt
        rintro e w4 (⟨rfl, hb4⟩ | ⟨dg, q, g, h, vb, zs, its, rfl, d4, rb, -, -, hzl, -, hdb, hb4⟩)
        · have hbw4 := hbw3.trans (hb4.mono hbw3.size)
          have hbw5 := hbw4.alloc hbw4.size (.cells #[.int .i64 0, .slice none 0 0] 53)
          clear X3 hbw3 hb4
          go_wp2_with fail
          refine (A.out _).mono ?_
          rintro e w6 ⟨rfl, hb6⟩
          go_wp2_with fail
          go_ret
          exact ⟨rfl, hbw5.trans (hb6.mono hbw5.size)⟩
        · obtain ⟨pb, cb, rfl⟩ := rb.val
          have hbb : Below w4.heap.size w4 (w4.alloc (.cells #[.int .i64 l, .slice pb its.length cb] 53)) := (Below.refl _ _).alloc (Nat.le_refl _) _
          have d5 := d4.below hbb (Nat.le_refl _)
          have X5 := (X3.below hb4 (Nat.le_refl _)).below hbb (Nat.le_refl _)
          have hbw4 := hbw3.trans (hb4.mono hbw3.size)
          have hbw5 := hbw4.trans (hbb.mono hbw4.size)
          have inv := d5.inv
          have hz : zs.length ≤ 120 := by omega
          have EN := hid (fun W (y : DgV W dg q g h kind l k 2000 zs) => w_encode y (by decide) (by omega))
          rw [show encL l k (sumL zs) (zs.map (fun x => x.1)) (zs.map (fun x => x.2)) = encB l k zs from rfl] at EN
          have hel := enc_bytes inv (by omega)
          have hel2 : (encB l k zs).length ≤ 2192 := by omega
          have hes : (⟨(encB l k zs).toArray⟩ : ByteArray).data.toList = encB l k zs := by simp
          have hez : (⟨(encB l k zs).toArray⟩ : ByteArray).size = (encB l k zs).length := by show (encB l k zs).toArray.size = _; simp
          have RO := hid (fun W => (w_right' ⟨(encB l k zs).toArray⟩ W (by omega)).mono (fun e w' hh => right_own inv (by rw [hes] at hh; exact hh)))
          have DO := hid (fun kn W => (w_decode ⟨(encB l k zs).toArray⟩ kn W (by omega) (fun l' k' zs' _ hh => by have := enc_len_le (n := 1096) hh (by omega); omega)).mono (fun e w' hh => dec_own inv (by rw [hes] at hh; exact hh)))
          have LN := hid (fun W (y : DgV W dg q g h kind l k 2000 zs) => dg_len y)
          have BZ := hid (fun W => w_bound (zs.length : Int) W ⟨by omega, by omega⟩)
          have hbv : boundV (zs.length : Int) = 32 + 18 * (zs.length : Int) := by unfold boundV; rw [if_neg (by omega), if_neg (by omega)]
          rw [hbv] at BZ
          have CM := hid (fun W (y : DgV W dg q g h kind l k 2000 zs) => dg_compress y (by decide) (by omega) (by omega))
          obtain ⟨c1, -, c3, c4, -, -⟩ := inv.com
          have ENC := hid (fun W h' (y : DgV W dg q g h' kind l k 2000 (comL l k zs).1) => w_encode y (by decide) (by omega))
          rw [show encL l k (sumL (comL l k zs).1) ((comL l k zs).1.map (fun x => x.1)) ((comL l k zs).1.map (fun x => x.2)) = encB l k (comL l k zs).1 from rfl] at ENC
          have helc := enc_bytes c1 (by omega)
          have hec : ((encB l k (comL l k zs).1).length : Int) ≤ 32 + 18 * (4 * k - 1) := by omega
          have kb := inv.k2
          have ka := inv.k1
          generalize encB l k (comL l k zs).1 = EC at *
          generalize comL l k zs = CL at *
          generalize encB l k zs = E at *
          clear d4 X3 hb4 hbb hbw3 hbw4 rb c1 c3 c4 inv helc hes hbv
          go_wp2_with fail
          generalize (w4.alloc (.cells #[.int .i64 l, .slice pb its.length cb] 53)) = w5 at *
          refine (EN.out _ d5).mono ?_
          rintro e w6 ⟨rfl, hb6⟩
          have d6 := d5.below hb6 (Nat.le_refl _)
          have X6 := X5.below hb6 (Nat.le_refl _)
          have hbw6 := hbw5.trans (hb6.mono hbw5.size)
          clear d5 X5 hbw5 hb6 EN
          go_wp2_with fail
          refine (RO.out _).mono ?_
          rintro e w7 ⟨rfl, hb7⟩
          have d7 := d6.below hb7 (Nat.le_refl _)
          have X7 := X6.below hb7 (Nat.le_refl _)
          have hbw7 := hbw6.trans (hb7.mono hbw6.size)
          clear d6 X6 hbw6 hb7 RO
          go_wp2_with fail
          refine (LN.out _ d7).mono ?_
          rintro e w' ⟨rfl, rfl⟩
          go_wp2_with fail
          refine (BZ.out _).mono ?_
          rintro e w' ⟨rfl, rfl⟩
          have zl : decide (32 + 18 * (zs.length : Int) < (E.length : Int)) = false := decide_eq_false (by omega)
          have hEz : Hid ((⟨E.toArray⟩ : ByteArray).size = E.length) := hez
          clear hez LN BZ
          go_wp2_with fail
          clear zl
          go_loopg [93] 4 (fun gn i wr => WbRel dg q g h kind l k zs #[.int .i64 l, .int .i64 k, .int .i64 kind, .slice p os.length cap] 30 w gn i wr)
          case atStart => exact ⟨0, rfl, Nat.zero_le _, Nat.le_refl _, d7, X7, hbw7⟩
          case round =>
            clear d7 X7 hbw7
            obtain ⟨j, rfl, hj4, hgn, dr, Xr, hbr⟩ := hrel
            by_cases hj : j < 4
            · have zj : decide ((j : Int) < 4) = true := decide_eq_true (by omega)
              have x0 : wr.cell? ⟨w.heap.size, 0, none⟩ = some (.int .i64 l) := Xr.cell 0
              by_cases hsk : j = 1 ∧ 12 < l
              · obtain ⟨rfl, hl⟩ := hsk
                have z2 : decide (12 < l) = true := decide_eq_true hl
                clear DO CM ENC hec
                go_wp2_with fail
                go_roundg 2
                case rel => exact ⟨2, by go_num, by omega, by omega, dr, Xr, hbr⟩
                case measure => omega
              · have D1 := hid (DO.out (j : Int) wr)
                have IS := hid (fun W => r_poolIs (j : Int) l W)
                rcases (show ((j : Int) == 1) = false ∨ (((j : Int) == 1) = true ∧ decide (12 < l) = false) by
                  by_cases e : j = 1
                  · right
                    exact ⟨by simp [e], decide_eq_false (fun h => hsk ⟨e, h⟩)⟩
                  · left; simp; omega) with z1 | ⟨z1, z2⟩
                all_goals
                  clear hsk
                  go_wp2_with fail
                  refine D1.out.mono ?_
                  rintro e w8 (⟨hp, rfl, hb8⟩ | ⟨hp, dm, qm, gm, hm, rfl, m8, -, -, -, -, hb8⟩)
                  · have d8 := dr.below hb8 (Nat.le_refl _)
                    have X8 := Xr.below hb8 (Nat.le_refl _)
                    have hbw8 := hbr.trans (hb8.mono hbr.size)
                    rw [hp] at IS
                    clear dr Xr hbr hb8 D1 DO x0
                    have x0 : w8.cell? ⟨w.heap.size, 0, none⟩ = some (.int .i64 l) := X8.cell 0
                    go_wp2_with fail
                    refine (IS.out _).mono ?_
                    rintro e w' ⟨rfl, rfl⟩
                    go_wp2_with fail
                    go_roundg (4 - (j + 1))
                    case rel => exact ⟨j + 1, by go_num, by omega, Nat.le_refl _, d8, X8, hbw8⟩
                    case measure => omega
                  · have d8 := dr.below hb8 (Nat.le_refl _)
                    have X8 := Xr.below hb8 (Nat.le_refl _)
                    have hbw8 := hbr.trans (hb8.mono hbr.size)
                    rw [hp] at IS
                    have SM0 := fun W (y : DgV W dm qm gm hm (j : Int) l k 2000 zs) (z : DgV W dg q g h kind l k 2000 zs) => dg_same y z (by decide) (by decide)
                    simp only [and_self, decide_true] at SM0
                    have SM := hid SM0
                    have CF := hid (fun W (y : DgV W dm qm gm hm (j : Int) l k 2000 zs) => dg_conf y)
                    have FK := conf_kk l k (j : Int)
                    have N1 := hid (fun W (y : DgV W dm qm gm hm (j : Int) l k 2000 zs) => dg_n y)
                    have N2 := hid (fun W (y : DgV W dg q g h kind l k 2000 zs) => dg_n y)
                    have S1 := hid (fun W (y : DgV W dm qm gm hm (j : Int) l k 2000 zs) => dg_nodes y (by decide))
                    have S2 := hid (fun W (y : DgV W dg q g h kind l k 2000 zs) => dg_nodes y (by decide))
                    have NS0 := fun W va vb (ha : RdN W va zs) (hb : RdN W vb zs) => r_same W ha hb (by omega) (by omega)
                    simp only [decide_true] at NS0
                    have NS := hid NS0
                    generalize sumL zs = SZ at *
                    clear dr Xr hbr hb8 D1 DO x0 SM0 NS0
                    have x0 : w8.cell? ⟨w.heap.size, 0, none⟩ = some (.int .i64 l) := X8.cell 0
                    go_wp2_with fail
                    refine (IS.out _).mono ?_
                    rintro e w' ⟨rfl, rfl⟩
                    go_wp2_with fail
                    refine (SM.out _ m8 d8).mono ?_
                    rintro e w9 ⟨rfl, hb9⟩
                    have d9 := d8.below hb9 (Nat.le_refl _)
                    have X9 := X8.below hb9 (Nat.le_refl _)
                    have m9 := m8.below hb9 (Nat.le_refl _)
                    have hbw9 := hbw8.trans (hb9.mono hbw8.size)
                    clear x0 d8 X8 m8 hbw8 hb9 IS SM
                    go_wp2_with fail
                    refine (CF.out _ m9).mono ?_
                    rintro e w10 ⟨rfl, hb10⟩
                    have d10 := d9.below hb10 (Nat.le_refl _)
                    have X10 := X9.below hb10 (Nat.le_refl _)
                    have m10 := m9.below hb10 (Nat.le_refl _)
                    have hbw10 := hbw9.trans (hb10.mono hbw9.size)
                    clear d9 X9 m9 hbw9 hb10 CF
                    go_wp2_with fail
                    refine (N1.out _ m10).mono ?_
                    rintro e w' ⟨rfl, rfl⟩
                    go_wp2_with fail
                    refine (N2.out _ d10).mono ?_
                    rintro e w' ⟨rfl, rfl⟩
                    clear N1 N2
                    go_wp2_with fail
                    refine (S1.out _ m10).mono ?_
                    rintro e w11 ⟨v1, rfl, o11, hb11⟩
                    have d11 := d10.below hb11 (Nat.le_refl _)
                    have X11 := X10.below hb11 (Nat.le_refl _)
                    have hbw11 := hbw10.trans (hb11.mono hbw10.size)
                    clear d10 X10 m10 hbw10 hb11 S1
                    go_wp2_with fail
                    refine (S2.out _ d11).mono ?_
                    rintro e w12 ⟨v2, rfl, o12, hb12⟩
                    have d12 := d11.below hb12 (Nat.le_refl _)
                    have X12 := X11.below hb12 (Nat.le_refl _)
                    have r11 := o11.rd.below hb12 (Nat.le_refl _)
                    have hbw12 := hbw11.trans (hb12.mono hbw11.size)
                    clear d11 X11 o11 hbw11 hb12 S2
                    go_wp2_with fail
                    refine (NS.out _ _ _ r11 o12.rd).mono ?_
                    rintro e w13 ⟨rfl, n13, rfl⟩
                    have d13 := d12.keepB (w' := w12.drewN n13) (fun j hj hd => rfl)
                    have X13 := X12.drewN n13
                    have hbw13 := below_drewN hbw12 n13
                    clear d12 X12 hbw12 r11 o12 NS
                    go_wp2_with fail
                    go_roundg (4 - (j + 1))
                    case rel => exact ⟨j + 1, by go_num, by omega, Nat.le_refl _, d13, X13, hbw13⟩
                    case measure => omega
            · obtain rfl : j = 4 := by omega
              clear DO
              go_wp2_with fail
              refine (CM.out _ dr).mono ?_
              rintro e w8 ⟨rfl, h8, d8, -, cc⟩
              simp only at d8
              have X8 := Xr.keep (cc.block _ Xr.lt (fun hd => by have := hdb _ hd; omega))
              have hbw8 := ChB.of_new hbr cc (fun j hj => by have := hdb j hj; omega)
              have x1 : w8.cell? ⟨w.heap.size, 1, none⟩ = some (.int .i64 k) := X8.cell 1
              clear cc dr Xr hbr CM
              go_wp2_with fail
              refine (ENC.out _ _ d8).mono ?_
              rintro e w9 ⟨rfl, hb9⟩
              have X9 := X8.below hb9 (Nat.le_refl _)
              have hbw9 := hbw8.trans (hb9.mono hbw8.size)
              clear x1 X8 hbw8 hb9 d8 ENC
              have x1 : w9.cell? ⟨w.heap.size, 1, none⟩ = some (.int .i64 k) := X9.cell 1
              have zc : decide ((EC.length : Int) ≤ 32 + 18 * (4 * k - 1)) = true := decide_eq_true hec
              go_wp2_with fail
              refine (A.out _).mono ?_
              rintro e w10 ⟨rfl, hb10⟩
              go_wp2_with fail
              go_ret
              exact ⟨rfl, hbw9.trans (hb10.mono hbw9.size)⟩
theorem WireBack_walk (v0 : Value) (s0 : Int × Int × Int × Value × List Op3) (s : ByteArray) (b : Bool) (w : World)
    (h0 : v0 = .agg #[.int .i64 s0.1, .int .i64 s0.2.1, .int .i64 s0.2.2.1, s0.2.2.2.1] ∧ ((Lit.int .i64 s0.1).wf = true ∧ (Lit.int .i64 s0.2.1).wf = true ∧ (Lit.int .i64 s0.2.2.1).wf = true) ∧ RdO w s0.2.2.2.1 s0.2.2.2.2) (hs : s.size ≤ 281474976710656) :
    Calls Tryz.prog 6 #[v0, .agg #[.string s, .bool b]] w fun e w' => e = .returned (.bool true) ∧ Below w.heap.size w w' := by
  obtain ⟨rfl, ⟨-, hk, -⟩, r0⟩ := h0
  exact wb_walk _ _ _ _ _ s b w (bd_i64 _ hk) r0 hs
end Go.Proofs.YtbbkfjbaocpknaaGreat
