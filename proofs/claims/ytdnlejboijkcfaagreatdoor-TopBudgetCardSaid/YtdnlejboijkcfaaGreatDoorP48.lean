/- Texts laid together. -/
import Derived.Test.YtdnlejboijkcfaaGreatDoorP47
namespace Go.Proofs.YtdnlejboijkcfaaGreatDoor
set_option maxHeartbeats 8000000
set_option maxRecDepth 100000
open Go.RowKit Nl Tb
def LpRel (c : Cx) (W : World) (av bv : Array Value) (A Bg R M : Nat) (gn : Nat) (i : Value) (wr : World) : Prop :=
  ∃ (j : Nat) (lab : Nat → Nat) (v : Value) (al : List Nd) (sns : List Sn) (X : List Int), i = .int .i64 j ∧ j ≤ M ∧ M ≤ gn + j ∧ Lp c W av bv A Bg R j lab v al sns X wr
def LoRel (c : Cx) (r : Nat) (W : World) (av bv : Array Value) (A Bg R : Nat) (X : List Int) (v : Value) (al : List Nd) (gn : Nat) (i : Value) (wr : World) : Prop :=
  ∃ (m : Nat) (lab : Nat → Nat) (sns : List Sn) (fl : List Lt), i = .int .i64 m ∧ m ≤ 100 ∧ 100 ≤ gn + m ∧ RunP c r X al wr lab R sns fl ∧ (∀ x (h : x < sns.length), ¬ sns[x].ready) ∧ (fl = [] ∨ left sns fl + m ≤ 24) ∧ left sns fl ≤ 24 ∧ TbO W av bv c.l A Bg lab v al wr
def LtRel (c : Cx) (r : Nat) (W : World) (av bv : Array Value) (A Bg R : Nat) (X : List Int) (v : Value) (al : List Nd) (lab : Nat → Nat) (sns : List Sn) (fl : List Lt) (N : Nat) (gn : Nat) (i : Value) (wr : World) : Prop :=
  ∃ (m : Nat), i = .int .i64 m ∧ m ≤ N ∧ N ≤ gn + m ∧ RunP c r X al wr lab R sns fl ∧ TbO W av bv c.l A Bg lab v al wr
theorem TopBudget_walk (L K0 kind wait number Lw num den bytes y : Int) (v1 : Value) (ps : List Int) (v3 : Value) (os : List StE) (w : World) (bl : In64 L) (bn : In64 num) (bd : In64 den) (bb : In64 bytes) (by' : In64 y) (hp : RdI w v1 ps) (ho : RdStE w v3 os) (hT : Tab w) :
    Calls Tryz.prog 3 #[.agg #[v1, .int .i64 L, .int .i64 K0, .int .i64 kind, .int .i64 wait, .int .i64 number], .agg #[.int .i64 Lw, .int .i64 num, .int .i64 den, .int .i64 bytes], v3, .int .i64 y] w fun e w' => e = .returned (.bool true) ∧ Below w.heap.size w w' := by
  have AL := hid (fun W : World => t_alive W)
  obtain ⟨pp, cp, rfl⟩ := hp.val
  obtain ⟨po, co, rfl, -⟩ := id ho
  obtain ⟨W1, eW1⟩ : ∃ W, (w.alloc (.cells #[.slice pp ps.length cp, .int .i64 L, .int .i64 K0, .int .i64 kind, .int .i64 wait, .int .i64 number] 26)).alloc (.cells #[.int .i64 Lw, .int .i64 num, .int .i64 den, .int .i64 bytes] 28) = W := ⟨_, rfl⟩
  have hs1 : W1.heap.size = w.heap.size + 2 := by rw [← eW1]; simp
  have B1 : Blk W1 w.heap.size #[.slice pp ps.length cp, .int .i64 L, .int .i64 K0, .int .i64 kind, .int .i64 wait, .int .i64 number] 26 := by
    rw [← eW1]; exact (Blk.new w _ _).alloc _
  have C1 : Blk W1 (w.heap.size + 1) #[.int .i64 Lw, .int .i64 num, .int .i64 den, .int .i64 bytes] 28 := by
    rw [← eW1]
    have := Blk.new (w.alloc (.cells #[.slice pp ps.length cp, .int .i64 L, .int .i64 K0, .int .i64 kind, .int .i64 wait, .int .i64 number] 26)) #[.int .i64 Lw, .int .i64 num, .int .i64 den, .int .i64 bytes] 28
    rw [World.size_alloc] at this
    exact this
  have hb1 : Below w.heap.size w W1 := by
    rw [← eW1]
    exact ((Below.refl _ _).alloc nlr _).alloc (by simp) _
  obtain ⟨W2, eW2⟩ : ∃ W, W1.setCell ⟨w.heap.size + 1, 0, none⟩ (.int .i64 L) = W := ⟨_, rfl⟩
  have B2 : Blk W2 w.heap.size #[.slice pp ps.length cp, .int .i64 L, .int .i64 K0, .int .i64 kind, .int .i64 wait, .int .i64 number] 26 := by
    rw [← eW2]; exact B1.set_other 0 _ (by omega)
  have C2 : Blk W2 (w.heap.size + 1) #[.int .i64 L, .int .i64 num, .int .i64 den, .int .i64 bytes] 28 := by
    rw [← eW2]; exact C1.set 0 _
  have hb2 : Below w.heap.size w W2 := by rw [← eW2]; exact hb1.setCell (p := ⟨w.heap.size + 1, 0, none⟩) (by show _ ≤ w.heap.size + 1; omega) _
  have x1 : W1.cell? ⟨w.heap.size, 1, none⟩ = some (.int .i64 L) := B1.cell 1
  have f1 := C1.free 0
  have c1 : W1.cell? ⟨w.heap.size + 1, 0, none⟩ = some (.int .i64 Lw) := C1.cell 0
  have y0 : W2.cell? ⟨w.heap.size + 1, 0, none⟩ = some (.int .i64 L) := C2.cell 0
  have y1 : W2.cell? ⟨w.heap.size + 1, 1, none⟩ = some (.int .i64 num) := C2.cell 1
  have y2 : W2.cell? ⟨w.heap.size + 1, 2, none⟩ = some (.int .i64 den) := C2.cell 2
  have y3 : W2.cell? ⟨w.heap.size + 1, 3, none⟩ = some (.int .i64 bytes) := C2.cell 3
  have HB2 := hid B2
  have HC2 := hid C2
  have Hb2 := hid hb2
  have HS2 : Hid (W2.heap.size = w.heap.size + 2) := by show _ = _; rw [← eW2]; simpa using hs1
  have K := hid (pa_k L num den bytes W2 bl bn bd bb)
  have LF := hid (fun h => Rk.least_facts (l := L) (num := num) (den := den) (b := bytes) h)
  have LN := hid (fun h => Rk.least_none (l := L) (num := num) (den := den) (b := bytes) h)
  have HP := hid hp
  have HO := hid ho
  have HT := hid hT
  have HBD := hid (And.intro bn (And.intro bd (And.intro bb by')))
  clear hp ho hT B1 C1 B2 C2 hb1 hb2 hs1 bl bn bd bb by'
  generalize Rk.kE L num den bytes = ke at *
  generalize Rk.kV L num den bytes = k at *
  by_cases hE : ke = 0 ∧ k ≤ 50
  · obtain ⟨rfl, k50⟩ := hE
    obtain ⟨k1, -, kb, kw, kd, -⟩ := LF.out rfl
    have kw' := kw
    simp only [Rk.wantB, Rk.uniB, Bool.and_eq_true, decide_eq_true_eq] at kw'
    have hl : 1 ≤ L ∧ L ≤ 48 := by omega
    have z1 : decide (k < 1) = false := decide_eq_false (by omega)
    have z2 : decide (k > 50) = false := decide_eq_false (by omega)
    have bk : In64 k := ⟨by omega, by omega⟩
    have HK : Hid (1 ≤ k ∧ k ≤ 50 ∧ Rk.bytesV k ≤ bytes ∧ Rk.wantB L num den = true ∧ L * den ≤ k * num ∧ 1 ≤ L ∧ L ≤ 48) := ⟨k1, k50, kb, kw, kd, hl⟩
    clear kb kw kd kw' hl k1 k50 LF LN
    obtain ⟨M, eM⟩ : ∃ M, os.length = M := ⟨_, rfl⟩
    have FW := hid (fun W => t_few32 (W := W) pp po ps.length cp os.length co L k kind wait number)
    rw [eM] at FW HO ⊢
    have EM := hid eM
    clear eM
    have ST : Hid (∀ W3, Below W2.heap.size W2 W3 → ∃ W4, W3.setCell ⟨w.heap.size, 2, none⟩ (.int .i64 k) = W4 ∧ Blk W4 w.heap.size #[.slice pp ps.length cp, .int .i64 L, .int .i64 k, .int .i64 kind, .int .i64 wait, .int .i64 number] 26 ∧ Blk W4 (w.heap.size + 1) #[.int .i64 L, .int .i64 num, .int .i64 den, .int .i64 bytes] 28 ∧ Below w.heap.size w W4 ∧ W3.cell? ⟨w.heap.size, 2, none⟩ = some (.int .i64 K0) ∧ W3.frozen? ⟨w.heap.size, 2, none⟩ = false) := by
      intro W3 hb3
      have B3 := HB2.out.below hb3 nlr
      have C3 := HC2.out.below hb3 nlr
      have hb4 := Hb2.out.trans (hb3.mono (by rw [HS2.out]; omega))
      exact ⟨_, rfl, B3.set 2 _, C3.set_other 2 _ (by omega), hb4.setCell (p := ⟨w.heap.size, 2, none⟩) nlr _, B3.cell 2, B3.free 2⟩
    clear HB2 HC2 Hb2 HS2
    cases hf : few32 ps.length M kind L
    · rw [hf] at FW
      clear hf
      go_enter Tryz.func3, Tryz.ntmps3
      go_wp2_with fail
      refine K.out.mono ?_
      rintro e W3 ⟨rfl, hb3⟩
      obtain ⟨W4, eW4, B4, C4, hb4, c2, f2⟩ := ST.out W3 hb3
      clear x1 f1 c1 y0 y1 y2 y3 hb3 eW1 eW2 ST
      have a0 : W4.cell? ⟨w.heap.size, 0, none⟩ = some (.slice pp ps.length cp) := B4.cell 0
      have a1 : W4.cell? ⟨w.heap.size, 1, none⟩ = some (.int .i64 L) := B4.cell 1
      have a2 : W4.cell? ⟨w.heap.size, 2, none⟩ = some (.int .i64 k) := B4.cell 2
      have a3 : W4.cell? ⟨w.heap.size, 3, none⟩ = some (.int .i64 kind) := B4.cell 3
      have a4 : W4.cell? ⟨w.heap.size, 4, none⟩ = some (.int .i64 wait) := B4.cell 4
      have a5 : W4.cell? ⟨w.heap.size, 5, none⟩ = some (.int .i64 number) := B4.cell 5
      go_wp2_with fail
      refine (FW.out _).mono ?_
      rintro e W5 ⟨rfl, hb5⟩
      go_wp2_with fail
      refine (AL.out _).mono ?_
      rintro e W6 ⟨rfl, hb6⟩
      go_wp2_with fail
      go_ret
      have hb5' := hb4.trans (hb5.mono hb4.size)
      exact ⟨rfl, hb5'.trans (hb6.mono hb5'.size)⟩
    · rw [hf] at FW
      obtain ⟨n12, hM⟩ := few32_yes hf
      have RN := hid (fun W (q : Below w.heap.size w W) => re_new (HP.out.below q nlr) n12 (HT.out.below q) kind L k wait number bk)
      have HN := hid (And.intro n12 hM)
      clear hf n12 hM bk
      go_enter Tryz.func3, Tryz.ntmps3
      go_wp2_with fail
      refine K.out.mono ?_
      rintro e W3 ⟨rfl, hb3⟩
      obtain ⟨W4, eW4, B4, C4, hb4, c2, f2⟩ := ST.out W3 hb3
      clear x1 f1 c1 y0 y1 y2 y3 hb3 eW1 eW2 ST
      have a0 : W4.cell? ⟨w.heap.size, 0, none⟩ = some (.slice pp ps.length cp) := B4.cell 0
      have a1 : W4.cell? ⟨w.heap.size, 1, none⟩ = some (.int .i64 L) := B4.cell 1
      have a2 : W4.cell? ⟨w.heap.size, 2, none⟩ = some (.int .i64 k) := B4.cell 2
      have a3 : W4.cell? ⟨w.heap.size, 3, none⟩ = some (.int .i64 kind) := B4.cell 3
      have a4 : W4.cell? ⟨w.heap.size, 4, none⟩ = some (.int .i64 wait) := B4.cell 4
      have a5 : W4.cell? ⟨w.heap.size, 5, none⟩ = some (.int .i64 number) := B4.cell 5
      go_wp2_with fail
      refine (FW.out _).mono ?_
      rintro e W5 ⟨rfl, hb5⟩
      have B5 := B4.below hb5 nlr
      have C5 := C4.below hb5 nlr
      have hb5' := hb4.trans (hb5.mono hb4.size)
      clear a0 a1 a2 a3 a4 a5 eW4 hb5 hb4 B4 C4 FW c2 f2
      clear W3 W4
      have a0 : W5.cell? ⟨w.heap.size, 0, none⟩ = some (.slice pp ps.length cp) := B5.cell 0
      have a1 : W5.cell? ⟨w.heap.size, 1, none⟩ = some (.int .i64 L) := B5.cell 1
      have a2 : W5.cell? ⟨w.heap.size, 2, none⟩ = some (.int .i64 k) := B5.cell 2
      have a3 : W5.cell? ⟨w.heap.size, 3, none⟩ = some (.int .i64 kind) := B5.cell 3
      have a4 : W5.cell? ⟨w.heap.size, 4, none⟩ = some (.int .i64 wait) := B5.cell 4
      have a5 : W5.cell? ⟨w.heap.size, 5, none⟩ = some (.int .i64 number) := B5.cell 5
      go_wp2_with fail
      refine (RN.out W5 hb5').mono ?_
      rintro e W6 ⟨hb6, (⟨code, hc, rfl⟩ | ⟨c, r, R, lab, sns, rfl, N⟩)⟩
      · have z3 : (code != 0) = true := by simpa using hc
        have hb6' := hb5'.trans (hb6.mono hb5'.size)
        clear hc
        go_wp2_with fail
        refine (AL.out _).mono ?_
        rintro e W7 ⟨rfl, hb7⟩
        go_wp2_with fail
        go_ret
        exact ⟨rfl, hb6'.trans (hb7.mono hb6'.size)⟩
      · have B6 := B5.below hb6 nlr
        have C6 := C5.below hb6 nlr
        have hb6' := hb5'.trans (hb6.mono hb5'.size)
        have a1 : W6.cell? ⟨w.heap.size, 1, none⟩ = some (.int .i64 L) := B6.cell 1
        have hb7 : Below W6.heap.size W6 (W6.alloc (.cells #[.int .i64 L, .slice none 0 0] 40)) := (Below.refl _ _).alloc nlr _
        have G7 : Blk (W6.alloc (.cells #[.int .i64 L, .slice none 0 0] 40)) W6.heap.size #[.int .i64 L, .slice none 0 0] 40 := Blk.new _ _ _
        have HH := hid (And.intro hb7 G7)
        have HN2 := hid N
        have HB := hid (And.intro B6 (And.intro C6 (And.intro hb6' (And.intro hb6 (And.intro B5 C5)))))
        clear a0 a2 a3 a4 a5 B5 C5 RN hb5' N hb6 hb7 G7 B6 C6 hb6'
        go_upto_region 10 with fail
        generalize (W6.alloc (.cells #[.int .i64 L, .slice none 0 0] 40)) = W7 at *
        obtain ⟨hb7, G7⟩ := HH.out
        obtain ⟨B6, C6, hb6', hb6, B5, C5⟩ := HB.out
        have L0 : Hid (LpRel c w #[.slice pp ps.length cp, .int .i64 L, .int .i64 k, .int .i64 kind, .int .i64 wait, .int .i64 number] #[.int .i64 L, .int .i64 num, .int .i64 den, .int .i64 bytes] w.heap.size W6.heap.size R M M (.int .i64 (0 : Nat)) W7) := by
          obtain ⟨e1, e2, e3, e4⟩ := HN2.out.ec
          obtain ⟨k1, k50, -, -, -, l1, l2⟩ := HK.out
          have hw5 := B5.lt
          have hw6 := B6.lt
          have hc5 := C5.lt
          have hc6 := C6.lt
          refine ⟨0, lab, .slice none 0 0, [], sns, [], rfl, Nat.zero_le _, nlr, HN2.out.e.below hb7, ?_, fun i hi => ?_, nlr, ⟨B6.below hb7 nlr, C6.below hb7 nlr, by rw [e2]; exact G7, RdN.nil _, ⟨HN2.out.lab0 _ hw5, HN2.out.lab0 _ hc5, ?_⟩, fun h => absurd rfl h, fun b hb => HN2.out.lab0 b (by omega), hb6'.trans (hb7.mono (by omega)), ⟨nlr, hc6⟩⟩, Bag.nil _, nlr⟩
          · rw [e2, e3, e4]
            exact Pro.init HN2.out.len HN.out.1 l1 l2 k1 (by omega) HN2.out.m
          · obtain ⟨b, dg, q, g, h', e⟩ := HN2.out.m i hi
            rw [e]; rfl
          · obtain ⟨_, _, _, _, _, MM⟩ := HN2.out.e
            exact MM.new _ nlr
        have OK : Hid (CxOk c r) := by
          obtain ⟨e1, e2, e3, e4⟩ := HN2.out.ec
          obtain ⟨k1, k50, -, -, -, l1, l2⟩ := HK.out
          exact ⟨by rw [e4]; exact HN2.out.rt, by rw [e4]; exact HN2.out.O, by rw [e4]; exact HN.out.1, HN2.out.ep, by rw [e3]; exact k1, by rw [e3]; exact k50⟩
        have EC := hid HN2.out.ec
        have BGS : Hid (w.heap.size + 1 < W6.heap.size) := hid (by have := C6.lt; omega)
        have HB6 := hid hb6'
        clear HB HH hb7 G7 B6 C6 hb6 B5 C5 hb6' a1
        generalize W6.heap.size = Bg at *
        have hk50 : Hid (c.k ≤ 50) := hid (by rw [EC.out.2.2.1]; exact HK.out.2.1)
        have hcl : Hid (1 ≤ c.l ∧ c.l ≤ 48) := hid (by rw [EC.out.2.1]; exact HK.out.2.2.2.2.2)
        clear HN2 z1 z2 K
        obtain ⟨av, eav⟩ : ∃ a : Array Value, #[.slice pp ps.length cp, .int .i64 L, .int .i64 k, .int .i64 kind, .int .i64 wait, .int .i64 number] = a := ⟨_, rfl⟩
        obtain ⟨bv, ebv⟩ : ∃ a : Array Value, #[.int .i64 L, .int .i64 num, .int .i64 den, .int .i64 bytes] = a := ⟨_, rfl⟩
        rw [eav, ebv] at L0
        have EA := hid eav
        have EB := hid ebv
        clear eav ebv
        go_wp2_with fail
        go_loopg [79] M (fun gn i wr => LpRel c w av bv w.heap.size Bg R M gn i wr)
        case atStart => exact L0.out
        case round =>
          clear L0
          obtain ⟨j, lab, v, al, sns, X, rfl, hj, hgn, P⟩ := hrel
          have hM60 := HN.out.2
          by_cases hlt : j < M
          · have ho' := HO.out.below P.o.bel nlr
            obtain ⟨p', c', hv', hat⟩ := ho'
            obtain ⟨g, off, hp, hg, c0, c1, c2, c3, c4, c5, ok⟩ := hat j (by rw [EM.out]; exact hlt)
            simp only [Value.slice.injEq] at hv'
            obtain ⟨rfl, -, -⟩ := hv'
            subst hp
            obtain ⟨o, eo⟩ : ∃ o, os.getD j stE0 = o := ⟨_, rfl⟩
            rw [eo] at c0 c1 c2 c3 c4 c5 ok
            have z0 : decide ((j : Int) < (M : Int)) = true := decide_eq_true (by omega)
            have X1 := Blk.new wr #[.int .i64 o.kind, .int .i64 o.i, .int .i64 o.x, .int .i64 o.wt, .int .i64 o.at', .int .u8 o.by'] 42
            have hba : Below wr.heap.size wr (wr.alloc (.cells #[.int .i64 o.kind, .int .i64 o.i, .int .i64 o.x, .int .i64 o.wt, .int .i64 o.at', .int .u8 o.by'] 42)) := (Below.refl _ _).alloc nlr _
            have P1 := hid (P.below hba)
            have SB : Hid (lab wr.heap.size = 0 ∧ Bg ≠ wr.heap.size) := by
              obtain ⟨_, _, _, _, _, MM⟩ := P.e
              have := P.o.g.lt
              exact ⟨MM.new _ nlr, by omega⟩
            have OKO := hid ok
            clear eo P hat hba ok
            go_upto_region 13 with fail
            generalize hW : wr.alloc (.cells #[.int .i64 o.kind, .int .i64 o.i, .int .i64 o.x, .int .i64 o.wt, .int .i64 o.at', .int .u8 o.by'] 42) = w1 at *
            clear hW c0 c1 c2 c3 c4 c5
            have x1 : w1.cell? ⟨wr.heap.size, 1, none⟩ = some (.int .i64 o.i) := X1.cell 1
            have x2 : w1.cell? ⟨wr.heap.size, 2, none⟩ = some (.int .i64 o.x) := X1.cell 2
            have x3 : w1.cell? ⟨wr.heap.size, 3, none⟩ = some (.int .i64 o.wt) := X1.cell 3
            have PT := hid (re_put P1.out.e P1.out.hu (fun i hi => Nat.le_trans (P1.out.p.zs8 hk50.out i hi) (by decide)) o.i o.x o.wt OKO.out.1 OKO.out.2)
            have HX1 := hid X1
            have NX : Hid (∀ (wr' : World) (lab' : Nat → Nat) (v' : Value) (al' : List Nd) (sns' : List Sn) (X' : List Int), Lp c w av bv w.heap.size Bg R (j + 1) lab' v' al' sns' X' wr' → ∀ i, i = Value.int .i64 ((j : Nat) + 1 : Int) → LpRel c w av bv w.heap.size Bg R M (M - (j + 1)) i wr') := by
              intro wr' lab' v' al' sns' X' hL i hi
              exact ⟨j + 1, lab', v', al', sns', X', by rw [hi]; simp, by omega, by omega, hL⟩
            clear X1
            go_wp2_with fail
            refine PT.out.mono ?_
            clear x1 x2 x3 PT
            rintro e w2 (⟨-, rfl, rfl⟩ | ⟨i, hi, hii, rfl, lab', h', E2, F2⟩)
            · have R9 := hid (NX.out _ _ _ _ _ _ P1.out.next)
              clear NX P1
              go_wp2_with fail
              go_roundg (M - (j + 1))
              case rel => exact R9.out _ (by go_num)
              case measure => omega
            · by_cases c0 : (dgIns c.l c.k sns[i].zs o.x o.wt).2 = 0
              · have z1 : ((dgIns c.l c.k sns[i].zs o.x o.wt).2 == 0) = true := by simpa using c0
                have O2 := P1.out.o.step F2
                have o2 := O2.rd
                obtain ⟨pv, cv, ev⟩ := o2.val
                subst ev
                have XS2 := hid (HX1.out.keep (F2.ch.block _ HX1.out.lt (fun q => q SB.out.1)))
                have x2 : w2.cell? ⟨wr.heap.size, 2, none⟩ = some (.int .i64 o.x) := XS2.out.cell 2
                have x3 : w2.cell? ⟨wr.heap.size, 3, none⟩ = some (.int .i64 o.wt) := XS2.out.cell 3
                have g0 : w2.cell? ⟨Bg, 0, none⟩ = some (.int .i64 c.l) := O2.g.cell 0
                have g1 : w2.cell? ⟨Bg, 1, none⟩ = some (.slice pv al.length cv) := O2.g.cell 1
                have hal := P1.out.alen
                have BA := hid (b_add c.l o.x o.wt o2 (by omega) P1.out.bag hcl.out.1 hcl.out.2 OKO.out.1 OKO.out.2)
                have HO2 := hid O2
                have HC0 := hid c0
                have HE2 := hid (And.intro E2 F2)
                clear hii E2 F2 c0 o2 O2
                generalize (dgIns c.l c.k sns[i].zs o.x o.wt).2 = code at z1 ⊢
                go_wp2_with fail
                refine BA.out.mono ?_
                rintro e w3 ⟨v3', rfl, rd3, hv3, hb3⟩
                obtain ⟨p3, q3, ev3⟩ := rd3.val
                subst ev3
                have hb4 : Below w3.heap.size w3 (w3.alloc (.cells #[.int .i64 c.l, .slice p3 (badd c.l al o.x o.wt).1.length q3] 40)) := (Below.refl _ _).alloc nlr _
                have G4 := Blk.new w3 #[.int .i64 c.l, .slice p3 (badd c.l al o.x o.wt).1.length q3] 40
                have hb24 := hb3.trans (hb4.mono hb3.size)
                have rd4 := rd3.below hb4 nlr
                have hbw := HO2.out.bel.trans (hb24.mono HO2.out.bel.size)
                have GB := HO2.out.g.below hb24 nlr
                have hne : Bg ≠ w3.heap.size := by have := HO2.out.g.lt; have := hb3.size; omega
                have HRD := hid (And.intro rd4 (And.intro hv3 (And.intro hb24 (And.intro hbw GB))))
                have HLEN : Hid (∃ n, (badd c.l al o.x o.wt).1.length = n) := ⟨_, rfl⟩
                by_cases a0 : (badd c.l al o.x o.wt).2 = 0
                · have z2 : ((badd c.l al o.x o.wt).2 != 0) = false := by simpa using a0
                  have HA0 := hid a0
                  have f0 := GB.free 0
                  have f1 := GB.free 1
                  have e0 : (w3.alloc (.cells #[.int .i64 c.l, .slice p3 (badd c.l al o.x o.wt).1.length q3] 40)).cell? ⟨Bg, 0, none⟩ = some (.int .i64 c.l) := GB.cell 0
                  have e1 : (w3.alloc (.cells #[.int .i64 c.l, .slice p3 (badd c.l al o.x o.wt).1.length q3] 40)).cell? ⟨Bg, 1, none⟩ = some (.slice pv al.length cv) := GB.cell 1
                  clear rd3 hv3 hb3 rd4 hb4 hb24 hbw g0 g1 x2 x3 a0 GB
                  go_upto_region 17 with fail
                  generalize (w3.alloc (.cells #[.int .i64 c.l, .slice p3 (badd c.l al o.x o.wt).1.length q3] 40)) = w4 at *
                  obtain ⟨n3, en3⟩ := HLEN.out
                  rw [en3] at G4 HRD
                  have h0 : w4.cell? ⟨w3.heap.size, 0, none⟩ = some (.int .i64 c.l) := G4.cell 0
                  have h1 : w4.cell? ⟨w3.heap.size, 1, none⟩ = some (.slice p3 n3 q3) := G4.cell 1
                  have HG4 := hid G4
                  have HE3 := hid en3
                  have YES : Hid (∃ sns' X', Lp c w av bv w.heap.size Bg R (j + 1) lab' (.slice p3 n3 q3) (badd c.l al o.x o.wt).1 sns' X' ((w4.setCell ⟨Bg, 0, none⟩ (.int .i64 c.l)).setCell ⟨Bg, 1, none⟩ (.slice p3 n3 q3))) := by
                    obtain ⟨rd4, hv4, hb24, hbw, GB⟩ := HRD.out
                    exact P1.out.yes i hi o.x o.wt h' HE2.out.1 HE2.out.2 HC0.out HA0.out hb24 rd4 hv4 ((chb_set Bg w4 0 _).trans (chb_set Bg _ 1 _) (fun _ _ q => q)) ((GB.set 0 _).set 1 _)
                  clear z1 z2 G4 en3 HRD HA0 HC0 HE2 HO2 P1 XS2 HG4 HE3 HLEN BA
                  generalize (badd c.l al o.x o.wt).2 = code2 at *
                  go_wp2_with fail
                  have R9 : Hid (∀ i, i = Value.int .i64 ((j : Nat) + 1 : Int) → LpRel c w av bv w.heap.size Bg R M (M - (j + 1)) i ((w4.setCell ⟨Bg, 0, none⟩ (.int .i64 c.l)).setCell ⟨Bg, 1, none⟩ (.slice p3 n3 q3))) := by
                    obtain ⟨sns', X', q⟩ := YES.out
                    exact hid (NX.out _ _ _ _ _ _ q)
                  clear YES NX
                  go_roundg (M - (j + 1))
                  case rel => exact R9.out _ (by go_num)
                  case measure => omega
                · have z2 : ((badd c.l al o.x o.wt).2 != 0) = true := by simpa using a0
                  clear rd3 hv3 hb3 rd4 hb4 hb24 g0 g1 x2 x3 a0 GB G4
                  go_wp2_with fail
                  refine (AL.out _).mono ?_
                  rintro e w5 ⟨rfl, hb5⟩
                  go_wp2_with fail
                  go_ret
                  exact ⟨rfl, hbw.trans (hb5.mono hbw.size)⟩
              · have z1 : ((dgIns c.l c.k sns[i].zs o.x o.wt).2 == 0) = false := by simpa using c0
                have R9 := hid (NX.out _ _ _ _ _ _ (P1.out.no i hi o.x o.wt h' E2 F2 c0))
                clear NX P1 E2 F2 hii c0
                generalize (dgIns c.l c.k sns[i].zs o.x o.wt).2 = code at *
                go_wp2_with fail
                go_roundg (M - (j + 1))
                case rel => exact R9.out _ (by go_num)
                case measure => omega
          · have z0 : decide ((j : Int) < (M : Int)) = false := decide_eq_false (by omega)
            have hjM : j ≤ 60 := by omega
            have RS := hid (re_start OK.out P.e P.p P.hu)
            have HPP := hid P
            clear P HO EM HT
            go_wp2_with fail
            refine RS.out.mono ?_
            rintro e w2 ⟨rfl, lab2, sns2, fl2, P2, F2, hq2, hc2, hl2⟩
            have L2 : Hid (LoRel c r w av bv w.heap.size Bg R X v al 100 (.int .i64 (0 : Nat)) w2) := by
              have hl24 : left sns2 fl2 ≤ 24 := by
                have h1 := uns_le sns
                have h2 := HPP.out.p.len
                have h3 := OK.out.n12
                have h4 : left sns [] = 2 * uns sns := by simp [left]
                omega
              exact ⟨0, lab2, sns2, fl2, rfl, by omega, by omega, P2, hq2, .inr hl24, hl24, HPP.out.o.step F2⟩
            have HBG := hid (And.intro HPP.out.bag (And.intro HPP.out.alen HPP.out.xl))
            have hbv := HK.out.2.2.1
            have hby : 78 + 72 * c.k ≤ bytes := by
              have e : Rk.bytesV k = 78 + 72 * k := by unfold Rk.bytesV Rk.isK; rw [if_pos (decide_eq_true ⟨HK.out.1, by have := HK.out.2.1; omega⟩)]
              rw [e] at hbv; rw [EC.out.2.2.1]; exact hbv
            clear P2 F2 hq2 hc2 hl2 RS HPP hbv
            go_wp2_with fail
            go_loopg [109] 100 (fun gn i wr => LoRel c r w av bv w.heap.size Bg R X v al gn i wr)
            case atStart => exact L2.out
            case round =>
              clear L2
              obtain ⟨m, lab3, sns3, fl3, rfl, hm, hgn2, P3, hq3, hf3, hl3, O3⟩ := hrel
              by_cases hlt2 : m < 100
              · have z3 : decide ((m : Int) < 100) = true := decide_eq_true (by omega)
                have FL := hid (fun W lab sns fl (q : RunP c r X al W lab R sns fl) => re_flight q.e.choose_spec.1)
                have FL3 := hid (FL.out _ _ _ _ P3)
                have HP3 := hid P3
                have HO3 := hid O3
                have HQ3 := hid (And.intro hq3 (And.intro hf3 hl3))
                obtain ⟨N, eN⟩ : ∃ N, (itL c fl3).length = N := ⟨_, rfl⟩
                rw [eN] at FL3
                have I0 : Hid (LtRel c r w av bv w.heap.size Bg R X v al lab3 sns3 fl3 N N (.int .i64 (0 : Nat)) wr) := ⟨0, rfl, by omega, by omega, P3, O3⟩
                have HEN := hid eN
                have hN24 : N ≤ 24 := by rw [← eN, itL_len]; exact P3.few
                clear P3 O3 hq3 hf3 hl3 eN
                go_wp2_with fail
                refine FL3.out.mono ?_
                rintro e w3 ⟨rfl, rfl⟩
                go_wp2_with fail
                go_loopg [113] N (fun gn i wr => LtRel c r w av bv w.heap.size Bg R X v al lab3 sns3 fl3 N gn i wr)
                case atStart => exact I0.out
                case round =>
                  clear I0
                  obtain ⟨m2, rfl, hm2, hgn3, P4, O4⟩ := hrel
                  by_cases hlt3 : m2 < N
                  · have z4 : decide ((m2 : Int) < (N : Int)) = true := decide_eq_true (by omega)
                    have hi : m2 < (itL c fl3).length := by rw [HEN.out]; exact hlt3
                    have LT := hid (re_letter P4.e.choose_spec.1 m2 hi)
                    have SM := P4.small OK.out m2 hi
                    generalize (itL c fl3)[m2] = x at LT SM
                    have HP4 := hid (And.intro P4 O4)
                    clear P4 O4 hi
                    go_wp2_with fail
                    refine LT.out.mono ?_
                    rintro e w5 ⟨rfl, n, rfl⟩
                    have hb5 := below_drewN (Below.refl wr.heap.size wr) n
                    have P5 := hid (HP4.out.1.below hb5)
                    have O5 := hid (HP4.out.2.below hb5)
                    clear LT HP4 hb5
                    generalize wr.drewN n = w5 at *
                    have b3 : w5.cell? ⟨w.heap.size + 1, 3, none⟩ = some (.int .i64 bytes) := by
                      have := O5.out.b.cell 3
                      rw [← EB.out] at this
                      exact this
                    have z5 : decide ((x.2.size : Int) > bytes) = false := decide_eq_false (by omega)
                    have R9 : Hid (∀ i, i = Value.int .i64 ((m2 : Nat) + 1 : Int) → LtRel c r w av bv w.heap.size Bg R X v al lab3 sns3 fl3 N (N - (m2 + 1)) i w5) := by
                      intro i hi
                      exact ⟨m2 + 1, by rw [hi]; simp, by omega, by omega, P5.out, O5.out⟩
                    clear P5 O5 SM hby
                    go_wp2_with fail
                    go_roundg (N - (m2 + 1))
                    case rel => exact R9.out _ (by go_num)
                    case measure => omega
                  · have z4 : decide ((m2 : Int) < (N : Int)) = false := decide_eq_false (by omega)
                    have FL5 := FL.out _ _ _ _ P4
                    rw [HEN.out] at FL5
                    have FL5 := hid FL5
                    obtain ⟨hq3, hf3, hl3⟩ := HQ3.out
                    rcases List.eq_nil_or_concat fl3 with e | ⟨gl, x, e⟩
                    · have e0 : (N : Int) = 0 := by rw [← HEN.out, itL_len, e]; rfl
                      have FL5 := FL5.out
                      rw [e0] at FL5
                      have FL5 := hid FL5
                      have R9 : Hid (∀ i, i = Value.int .i64 ((m : Nat) + 1 : Int) → LoRel c r w av bv w.heap.size Bg R X v al (100 - (m + 1)) i wr) := by
                        intro i hi
                        exact ⟨m + 1, lab3, sns3, fl3, by rw [hi]; simp, by omega, by omega, P4, hq3, .inl e, hl3, O4⟩
                      clear P4 O4 hq3 hf3 hl3 e hby
                      go_wp2_with fail
                      refine FL5.out.mono ?_
                      rintro e w5 ⟨rfl, rfl⟩
                      go_wp2_with fail
                      go_roundg (100 - (m + 1))
                      case rel => exact R9.out _ (by go_num)
                      case measure => omega
                    · rw [List.concat_eq_append] at e
                      subst e
                      have eN2 : gl.length + 1 = N := by rw [← HEN.out, itL_len, List.length_append]; rfl
                      have z5 : decide (0 < N) = true := decide_eq_true (by omega)
                      have z6 : decide (0 < (N : Int)) = true := decide_eq_true (by omega)
                      have z7 : 0 < N := by omega
                      have DL := re_deliver OK.out P4 hl3
                      rw [show ((gl.length : Nat) : Int) = (N : Int) - 1 by omega] at DL
                      have DL := hid DL
                      have HO4 := hid O4
                      have hfm : left sns3 (gl ++ [x]) + m ≤ 24 := by
                        rcases hf3 with q | q
                        · simp at q
                        · exact q
                      have HFM := hid (And.intro hfm hl3)
                      clear P4 O4 hq3 hf3 hl3 hby hfm eN2
                      go_wp2_with fail
                      refine FL5.out.mono ?_
                      rintro e w5 ⟨rfl, rfl⟩
                      go_wp2_with fail
                      refine FL5.out.mono ?_
                      rintro e w5 ⟨rfl, rfl⟩
                      go_wp2_with fail
                      refine DL.out.mono ?_
                      rintro e w6 ⟨rfl, lab6, sns6, fl6, P6, F6, hq6, -, hl6⟩
                      have R9 : Hid (∀ i, i = Value.int .i64 ((m : Nat) + 1 : Int) → LoRel c r w av bv w.heap.size Bg R X v al (100 - (m + 1)) i w6) := by
                        intro i hi
                        have h1 := HFM.out.1
                        have h2 := HFM.out.2
                        exact ⟨m + 1, lab6, sns6, fl6, by rw [hi]; simp, by omega, by omega, P6, hq6, .inr (by omega), by omega, HO4.out.step F6⟩
                      clear P6 F6 hq6 hl6 HO4 DL FL5
                      go_wp2_with fail
                      go_roundg (100 - (m + 1))
                      case rel => exact R9.out _ (by go_num)
                      case measure => omega
              · have z3 : decide ((m : Int) < 100) = false := decide_eq_false (by omega)
                have efl : fl3 = [] := by
                  rcases hf3 with q | q
                  · exact q
                  · omega
                subst efl
                have hr : r < sns3.length := by rw [P3.p.len]; exact OK.out.R.rt
                have QT := P3.p.quiet OK.out.R.tree hq3
                obtain ⟨E1, E2, E3⟩ := P3.p.end QT r hr OK.out.R.root
                have T0 := P3.p.ti r hr
                have RR := re_result OK.out P3 hr (QT r hr)
                rw [E1, P3.p.len, EC.out.2.2.2] at RR
                obtain ⟨ZS, eZ⟩ : ∃ z, sns3[r].zs = z := ⟨_, rfl⟩
                obtain ⟨IT, eI⟩ : ∃ z, sns3[r].its = z := ⟨_, rfl⟩
                rw [eZ] at RR T0
                rw [eI] at E2 E3 T0
                have n1 : 1 ≤ ps.length := by have := OK.out.R.n1; rwa [EC.out.2.2.2] at this
                have CL := hid (fun W => cw_len ps.length n1 HN.out.1 W)
                obtain ⟨CV, eCV⟩ : ∃ z : Nat, 2 ^ ps.length - 1 = z := ⟨_, rfl⟩
                rw [eCV] at RR CL
                obtain ⟨NP, eNP⟩ : ∃ z, ps.length = z := ⟨_, rfl⟩
                rw [eNP] at CL EA
                have RR := hid RR
                have HO3 := hid O3
                have HT0 := hid (And.intro T0 (And.intro E2 E3))
                obtain ⟨pv, cv, ev⟩ := O3.rd.val
                subst ev
                clear P3 O3 hq3 hf3 hl3 QT E1 E2 E3 T0 eZ eI n1 eCV hby hr
                rw [eNP]
                clear eNP
                go_wp2_with fail
                refine RR.out.mono ?_
                rintro e w5 ⟨dg, q, g, h, rfl, D5, -, hb5⟩
                have O5 := HO3.out.below hb5
                obtain ⟨T0, E2, E3⟩ := HT0.out
                obtain ⟨bag, alen, -⟩ := HBG.out
                have eL := EC.out.2.1
                have ek := EC.out.2.2.1
                rw [eL, ek] at D5 T0
                rw [eL] at O5 bag
                obtain ⟨k1, k50, kb, kw, kd, l1, l2⟩ := HK.out
                have hs := T0.sum
                have s1 := bag.most
                have s0 := T0.nn
                have st := T0.stands y
                rw [bet_rank T0.bag, E3 y, ← bet_rank bag, E2] at st
                have room := T0.dg.room
                have w0 : 0 ≤ gsum (lowF L y) ZS := gsum_zero (fun z hz => by have := T0.dg.roll.strict.2 z hz; unfold lowF; split <;> omega)
                rw [E2] at s0
                have RK := hid (fun W (q : Below w5.heap.size w5 W) => r_brank L y (O5.rd.below q nlr) (by omega) bag.pos' bag.most)
                have BT := hid (fun W (q : Below w5.heap.size w5 W) => b_total L (O5.rd.below q nlr) (by omega) bag.pos' bag.most)
                have DN := hid (fun W (q : Below w5.heap.size w5 W) => dg_n (D5.below q nlr))
                have LW := hid (fun W (q : Below w5.heap.size w5 W) => ph_low y (D5.below q nlr) (by decide) (by omega))
                rw [← hs, E2] at DN
                have WI := hid (fun W => pa_within L num den bytes k (sumL al) W ⟨by omega, by omega⟩ HBD.out.1 HBD.out.2.1 HBD.out.2.2.1 ⟨by omega, by omega⟩ ⟨by omega, by omega⟩)
                rw [Rk.within_of kw k1 (by omega) kd s0 s1] at WI
                obtain ⟨lo, elo⟩ : ∃ x, gsum (lowF L y) ZS = x := ⟨_, rfl⟩
                obtain ⟨hi, ehi⟩ : ∃ x, gsum (highF L y) ZS = x := ⟨_, rfl⟩
                obtain ⟨n, en⟩ : ∃ x, betV 0 y al = x := ⟨_, rfl⟩
                obtain ⟨S, eS⟩ : ∃ x, sumL al = x := ⟨_, rfl⟩
                rw [elo] at st w0 LW
                rw [ehi] at st
                rw [en] at st RK
                rw [eS] at st s0 s1 BT DN WI
                obtain ⟨a1, a2, a3⟩ := st
                have hq0 : 0 ≤ S / k := Int.ediv_nonneg s0 (by omega)
                have hq1 : S / k ≤ S := Int.ediv_le_self _ s0
                have hmul : L * (S / k) ≤ 48 * (S / k) := Int.mul_le_mul_of_nonneg_right l2 hq0
                have hmul0 : 0 ≤ L * (S / k) := Int.mul_nonneg (by omega) hq0
                have f1 : IntKind.i64.wrap (n - lo) = n - lo := IntWalk.i64_in _ ⟨by omega, by omega⟩
                have f2 : IntKind.i64.wrap (S.tdiv k) = S / k := by rw [Int.tdiv_eq_ediv_of_nonneg s0]; exact IntWalk.i64_in _ ⟨by omega, by omega⟩
                have f3 : IntKind.i64.wrap (L * (S / k)) = L * (S / k) := IntWalk.i64_in _ ⟨by omega, by omega⟩
                have z5 : decide (n - lo ≤ L * (S / k)) = true := decide_eq_true (by omega)
                have z6 : decide (lo ≤ n) = true := decide_eq_true a1
                have HZ := hid (And.intro f1 (And.intro f2 (And.intro f3 (And.intro z5 z6))))
                have HK1 : Hid (1 ≤ k) := hid k1
                have hB0 := Below.refl w5.heap.size w5
                have FX := hid (fun W (q : Below w5.heap.size w5 W) => (show W.cell? ⟨w.heap.size, 0, none⟩ = some (.slice pp NP cp) ∧ W.cell? ⟨Bg, 0, none⟩ = some (.int .i64 L) ∧ W.cell? ⟨Bg, 1, none⟩ = some (.slice pv al.length cv) ∧ Below w5.heap.size w5 W from by
                  have ha := (O5.a.below q nlr).cell 0
                  rw [← EA.out] at ha
                  exact ⟨ha, (O5.g.below q nlr).cell 0, (O5.g.below q nlr).cell 1, q⟩))
                have HO5 := hid O5
                clear f1 f2 f3 z5 z6 hmul hmul0 hq0 hq1 a1 a2 a3 w0 s0 s1 hs E2 E3 T0 bag alen eL ek k1 k50 kb kw kd l1 l2 room elo ehi en eS RR HO3 hb5 O5 D5 HT0 HBG
                go_upto_region 34 with fail
                go_region_held3 (fun W => W.cell? ⟨w.heap.size, 0, none⟩ = some (.slice pp NP cp) ∧ W.cell? ⟨Bg, 0, none⟩ = some (.int .i64 L) ∧ W.cell? ⟨Bg, 1, none⟩ = some (.slice pv al.length cv) ∧ Below w5.heap.size w5 W)
                  (first
                    | exact FX.out _ (below_drewN hB0 1)
                    | exact FX.out _ hBn)
                  (first
                    | (go_at_call 15; have hBn := (‹_ ∧ _ ∧ _ ∧ Below w5.heap.size w5 _›).2.2.2; refine (CL.out _).mono ?_; rintro e w6 ⟨rfl, rfl⟩)
                    | (go_at_call 16; have hBn := (‹_ ∧ _ ∧ _ ∧ Below w5.heap.size w5 _›).2.2.2; refine (DN.out _ hBn).mono ?_; rintro e w6 ⟨rfl, rfl⟩)
                    | (go_at_call 17; have hBa := (‹_ ∧ _ ∧ _ ∧ Below w5.heap.size w5 _›).2.2.2; refine (BT.out _ hBa).mono ?_; rintro e w6 ⟨rfl, hb6⟩
                       have hBn := hBa.trans (hb6.mono hBa.size)))
                all_goals
                  have hB6 := hBn
                  clear FX CL BT hBn
                  have FX2 := hid (fun W (q : Below w5.heap.size w5 W) => (show W.cell? ⟨w.heap.size, 1, none⟩ = some (.int .i64 L) ∧ W.cell? ⟨w.heap.size + 1, 0, none⟩ = some (.int .i64 L) ∧ W.cell? ⟨w.heap.size + 1, 1, none⟩ = some (.int .i64 num) ∧ W.cell? ⟨w.heap.size + 1, 2, none⟩ = some (.int .i64 den) ∧ W.cell? ⟨w.heap.size + 1, 3, none⟩ = some (.int .i64 bytes) ∧ W.cell? ⟨Bg, 0, none⟩ = some (.int .i64 L) ∧ W.cell? ⟨Bg, 1, none⟩ = some (.slice pv al.length cv) ∧ Below w5.heap.size w5 W from by
                    have ha := (HO5.out.a.below q nlr).cell 1
                    rw [← EA.out] at ha
                    have hb := fun j => (HO5.out.b.below q nlr).cell j
                    rw [← EB.out] at hb
                    exact ⟨ha, hb 0, hb 1, hb 2, hb 3, (HO5.out.g.below q nlr).cell 0, (HO5.out.g.below q nlr).cell 1, q⟩))
                  obtain ⟨f1, f2, f3, z5, z6⟩ := HZ.out
                  have k1 := HK1.out
                  have zk : (k == 0) = false := by simp; omega
                  have zk' : k ≠ 0 := by omega
                  go_upto_region 36 with fail
                  go_region_held3 (fun W => W.cell? ⟨w.heap.size, 1, none⟩ = some (.int .i64 L) ∧ W.cell? ⟨w.heap.size + 1, 0, none⟩ = some (.int .i64 L) ∧ W.cell? ⟨w.heap.size + 1, 1, none⟩ = some (.int .i64 num) ∧ W.cell? ⟨w.heap.size + 1, 2, none⟩ = some (.int .i64 den) ∧ W.cell? ⟨w.heap.size + 1, 3, none⟩ = some (.int .i64 bytes) ∧ W.cell? ⟨Bg, 0, none⟩ = some (.int .i64 L) ∧ W.cell? ⟨Bg, 1, none⟩ = some (.slice pv al.length cv) ∧ Below w5.heap.size w5 W)
                    (first
                      | exact FX2.out _ (below_drewN hB6 1)
                      | exact FX2.out _ hBm)
                    (first
                      | (go_at_call 16; have hBm := (‹_ ∧ _ ∧ _ ∧ _ ∧ _ ∧ _ ∧ _ ∧ Below w5.heap.size w5 _›).2.2.2.2.2.2.2; refine (DN.out _ hBm).mono ?_; rintro e w8 ⟨rfl, rfl⟩)
                      | (go_at_call 18; have hBa := (‹_ ∧ _ ∧ _ ∧ _ ∧ _ ∧ _ ∧ _ ∧ Below w5.heap.size w5 _›).2.2.2.2.2.2.2; refine (WI.out _).mono ?_; rintro e w8 ⟨rfl, hb8⟩
                         have hBm := hBa.trans (hb8.mono hBa.size))
                      | (go_at_call 19; have hBa := (‹_ ∧ _ ∧ _ ∧ _ ∧ _ ∧ _ ∧ _ ∧ Below w5.heap.size w5 _›).2.2.2.2.2.2.2; refine (RK.out _ hBa).mono ?_; rintro e w8 ⟨rfl, hb8⟩
                         have hBm := hBa.trans (hb8.mono hBa.size))
                      | (go_at_call 20; have hBa := (‹_ ∧ _ ∧ _ ∧ _ ∧ _ ∧ _ ∧ _ ∧ Below w5.heap.size w5 _›).2.2.2.2.2.2.2; refine (LW.out _ hBa).mono ?_; rintro e w8 ⟨rfl, hb8⟩
                         have hBm := hBa.trans (hb8.mono hBa.size))
                      | (go_at_call 6; have hBa := (‹_ ∧ _ ∧ _ ∧ _ ∧ _ ∧ _ ∧ _ ∧ Below w5.heap.size w5 _›).2.2.2.2.2.2.2; refine (AL.out _).mono ?_; rintro e w8 ⟨rfl, hb8⟩
                         have hBm := hBa.trans (hb8.mono hBa.size)))
                  all_goals
                    have hbw := HO5.out.bel.trans (hBm.mono HO5.out.bel.size)
                    go_wp2_with fail
                    first
                      | go_ret
                      | go_ret2
                    exact ⟨rfl, hbw⟩
  · have hz : (ke != 0) = true ∨ (ke != 0) = false ∧ decide (k < 1) = false ∧ decide (k > 50) = true := by
      by_cases h0 : ke = 0
      · right
        exact ⟨by simp [h0], decide_eq_false (by omega), decide_eq_true (by omega)⟩
      · left; simpa using h0
    have HEH := hid hE
    clear hE
    rcases hz with z1 | ⟨z1, z2, z3⟩
    all_goals
      go_enter Tryz.func3, Tryz.ntmps3
      go_wp2_with fail
      refine K.out.mono ?_
      rintro e W3 ⟨rfl, hb3⟩
      have B3 := HB2.out.below hb3 nlr
      have c2 : W3.cell? ⟨w.heap.size, 2, none⟩ = some (.int .i64 K0) := B3.cell 2
      have f2 := B3.free 2
      have hb4 := Hb2.out.trans (hb3.mono (by rw [HS2.out]; omega))
      have hb5 : Below w.heap.size w (W3.setCell ⟨w.heap.size, 2, none⟩ (.int .i64 k)) := hb4.setCell (p := ⟨w.heap.size, 2, none⟩) nlr _
      clear x1 f1 c1 y0 y1 y2 y3 hb3 hb4 eW1 eW2 B3 HB2
      go_wp2_with fail
      refine (AL.out _).mono ?_
      rintro e W4 ⟨rfl, hb6⟩
      go_wp2_with fail
      go_ret
      exact ⟨rfl, hb5.trans (hb6.mono hb5.size)⟩
end Go.Proofs.YtdnlejboijkcfaaGreatDoor
