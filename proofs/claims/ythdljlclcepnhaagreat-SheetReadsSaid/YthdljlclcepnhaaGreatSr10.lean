/- The walk of SheetBack. -/
import Derived.Test.YthdljlclcepnhaaGreatSRC
import Derived.Test.YthdljlclcepnhaaGreatSr9
import Derived.Test.YthdljlclcepnhaaGreatSh9
import Derived.Test.YthdljlclcepnhaaGreatMdAny
import Derived.Test.YthdljlclcepnhaaGreatDg7
import Derived.Test.YthdljlclcepnhaaGreatGO
namespace Go.Proofs.YthdljlclcepnhaaGreat
open Go.RowKit Nl Sh

theorem Sh.run_good : ∀ (xs : List (Nat × List UInt8)) (st st' : Sh.St) (n : Nat), GoodR n st → runR st xs = .inr st' → GoodR (n + xs.length) st'
  | [], st, st', n, g, h => by
    simp only [runR, Sum.inr.injEq] at h
    subst h; exact g
  | x :: r, st, st', n, g, h => by
    simp only [runR] at h
    cases hs : stepR st x.1 x.2 with
    | none => rw [hs] at h; cases h
    | some s2 =>
      rw [hs] at h
      have := run_good r s2 st' (n + 1) (g.step hs) h
      rw [List.length_cons]
      rw [show n + (r.length + 1) = n + 1 + r.length by omega]
      exact this
theorem Sh.step_ne {st st' : Sh.St} {n : Nat} {l : List UInt8} (h : stepR st n l = some st') : 1 ≤ l.length := by
  have key : ∀ t0 t1 t2, thrB l t0 t1 t2 = true → 1 ≤ l.length := fun t0 t1 t2 h => by
    have e := thr_inv h
    have hp : 0 < (decL (thr0 l t0)).length := List.length_pos_iff.2 (decL_ne _)
    rw [e]
    simp only [List.length_append]; omega
  unfold stepR at h
  split at h
  · split at h
    · rename_i hh
      unfold headOk at hh
      simp only [Bool.and_eq_true] at hh
      exact key _ _ _ hh.1.1.1.1
    · cases h
  · split at h
    · rename_i hh
      unfold nodeOk at hh
      simp only [Bool.and_eq_true] at hh
      exact key _ _ _ hh.1.1.1.1
    · cases h
theorem Sh.run_lines : ∀ (xs : List (Nat × List UInt8)) (st st' : Sh.St), runR st xs = .inr st' → 2 * xs.length ≤ (joinL xs).length
  | [], _, _, _ => Nat.zero_le _
  | x :: r, st, st', h => by
    simp only [runR] at h
    cases hs : stepR st x.1 x.2 with
    | none => rw [hs] at h; cases h
    | some s2 =>
      rw [hs] at h
      have h1 := run_lines r s2 st' h
      have h2 := step_ne hs
      unfold joinL at h1 ⊢
      rw [List.map_cons, List.flatten_cons, List.length_append, List.length_append, List.length_cons]
      simp only [List.length_singleton]; omega
theorem Sh.run_size {s : List UInt8} {st : Sh.St} (h : runR (0, 0, 0, []) (linesF 1 s) = .inr st) : 2 * st.2.2.2.length ≤ s.length := by
  have h1 := (run_good _ _ _ 0 GoodR.zero h).len
  have h2 := run_lines _ _ _ h
  rw [← lines_join _ s 1 _ _ (Nat.le_refl _) h] at h2
  omega
theorem Sh.read_err {s : List UInt8} {n : Nat} {er : Int} (h : readV s = .inl (n, er)) : er ≠ 0 := by
  unfold readV at h
  split at h
  · simp only [Sum.inl.injEq, Prod.mk.injEq] at h; omega
  · split at h
    · simp only [Sum.inl.injEq, Prod.mk.injEq] at h; omega
    · split at h
      · cases h
      · rename_i he
        simp only [Sum.inl.injEq, Prod.mk.injEq] at h
        rw [← h.2]; exact he
/-- What the first reading gives, in one form. -/
theorem Sh.read2 {t : ByteArray} {w w' : World} {e : Ending} (h : ReadSh 2 t.data.toList w e w') : ∃ (a : Option Addr) (n er : Int), e = .returned (.tuple #[.pointer a, .int .i64 n, .int .i64 er]) ∧ Below w.heap.size w w' ∧
    ((er == 0) = false ∨ (er = 0 ∧ n = 0 ∧ ∃ (l k : Int) (zs : List Nd) (dg q g hh : Nat), t = ⟨(textL l k zs).toArray⟩ ∧ a = some ⟨dg, 0, none⟩ ∧ DgV w' dg q g hh 2 l k 2000 zs)) := by
  rcases h with ⟨n, er, hr, rfl, hb⟩ | ⟨l, k, zs, hr, (⟨hp, -, -⟩ | ⟨-, dg, q, g, h, rfl, d, -, -, -, -, hb⟩)⟩
  · exact ⟨_, _, _, rfl, hb, .inl (by simpa using read_err hr)⟩
  · rw [(load_ok (read_told hr).2).1] at hp; cases hp
  · refine ⟨_, _, _, rfl, hb, .inr ⟨rfl, rfl, l, k, zs, dg, q, g, h, ?_, rfl, d⟩⟩
    rw [← (read_told hr).1]
set_option maxRecDepth 100000 in
theorem conf_ks (a b c : Int) (W : World) : (Instr.field 37 (.agg #[.int .i64 a, .int .i64 b, .int .i64 c]) 2).run Tryz.prog W = .ok (.int .i64 c) W := by
  simp [Instr.field, run_underlying Tryz.underlying37]
  rfl
theorem tx_own {w : World} {dg q g h : Nat} {kind l k : Int} {zs : List Nd} (d : DgV w dg q g h kind l k 2000 zs) :
    Calls Tryz.prog 9 #[.pointer (some ⟨dg, 0, none⟩)] w fun e w' => e = .returned (.tuple #[.string ⟨(textL l k zs).toArray⟩, .int .i64 0]) ∧ Below w.heap.size w w' := by
  have inv := d.inv
  have hr := inv.roll
  have h0 := sumL_nonneg hr.strict.pos
  exact s_text d (by decide) ⟨by have := hr.l1; omega, by have := hr.l2; omega⟩ ⟨by have := inv.k1; omega, by have := inv.k2; omega⟩ ⟨by omega, by have := hr.most; omega⟩ (fun x hx => by
    have h1 := hr.strict.2 x hx
    have h2 := Pos.le_sum hr.strict.pos x hx
    have := hr.most
    exact ⟨by omega, by omega⟩)
theorem Sh.text_len {l k : Int} {zs : List Nd} (inv : Dg l k zs) : (textL l k zs).length ≤ 67 + 61 * zs.length := by
  have hr := inv.roll
  have h0 := sumL_nonneg hr.strict.pos
  have d1 := digL_len (n := l) ⟨by have := hr.l1; omega, by have := hr.l2; omega⟩
  have d2 := digL_len (n := k) ⟨by have := inv.k1; omega, by have := inv.k2; omega⟩
  have d3 := digL_len (n := sumL zs) ⟨by omega, by have := hr.most; omega⟩
  have key : ∀ ys : List Nd, (∀ x ∈ ys, x ∈ zs) → (bodyL l ys).length ≤ 61 * ys.length := by
    intro ys
    induction ys with
    | nil => intro _; exact Nat.zero_le _
    | cons y r ih =>
      intro hy
      have h1 := ih (fun x hx => hy x (by simp [hx]))
      have hm := hy y (by simp)
      obtain ⟨e1, e2⟩ := ends_in (hr.ids y hm)
      have g1 := digL_len e1
      have g2 := digL_len e2
      have hs := hr.strict.2 y hm
      have hl := Pos.le_sum hr.strict.pos y hm
      have g3 := digL_len (n := y.2) ⟨by omega, by have := hr.most; omega⟩
      have hL : (lineL l y).length ≤ 61 := by
        unfold lineL
        simp only [List.length_append, List.length_cons, List.length_nil]
        omega
      unfold bodyL at h1 ⊢
      rw [List.map_cons, List.flatten_cons, List.length_append, List.length_cons]
      omega
  have hb := key zs (fun x hx => hx)
  unfold textL headL
  simp only [List.length_append, List.length_cons, List.length_nil]
  omega
/-- What reading a digest's lines gives. -/
def ReadOwn (kind l k : Int) (zs : List Nd) (w : World) (e : Ending) (w' : World) : Prop :=
  (poolIs kind l = false ∧ e = .returned (.tuple #[.pointer none, .int .i64 0, .int .i64 2]) ∧ Below w.heap.size w w') ∨
  (poolIs kind l = true ∧ ∃ dg q g h, e = .returned (.tuple #[.pointer (some ⟨dg, 0, none⟩), .int .i64 0, .int .i64 0]) ∧ DgV w' dg q g h kind l k 2000 zs ∧ w.heap.size ≤ dg ∧ w.heap.size ≤ q ∧ w.heap.size ≤ g ∧ w.heap.size ≤ h ∧ Below w.heap.size w w')
theorem read_own {l k : Int} {zs : List Nd} (inv : Dg l k zs) (hz : zs.length ≤ 1999) (kind : Int) (w : World) :
    Calls Tryz.prog 7 #[.string ⟨(textL l k zs).toArray⟩, .int .i64 kind] w (ReadOwn kind l k zs w) := by
  have h0 := load_dg inv
  obtain ⟨t1, t2⟩ := told_read h0
  have hl := text_len inv
  have es : (⟨(textL l k zs).toArray⟩ : ByteArray).data.toList = textL l k zs := rfl
  refine (s_read ⟨(textL l k zs).toArray⟩ kind w (by show (textL l k zs).toArray.size ≤ _; simp; omega) (fun st h => ?_)).mono ?_
  · rw [es, t2] at h
    obtain rfl := Sum.inr.inj h
    exact hz
  · rintro e w' (⟨n, er, h, -⟩ | ⟨L, K, Z, h, h2⟩)
    · rw [es, t1] at h; cases h
    · rw [es, t1] at h
      simp only [Sum.inr.injEq, Prod.mk.injEq] at h
      obtain ⟨rfl, rfl, rfl⟩ := h
      exact h2
def SbRel (dg q g h : Nat) (kind l k : Int) (zs : List Nd) (C : Array Value) (T : TypeId) (w : World) (gn : Nat) (i : Value) (wr : World) : Prop :=
  ∃ j : Nat, i = .int .i64 j ∧ j ≤ 4 ∧ 4 - j ≤ gn ∧ DgV wr dg q g h kind l k 2000 zs ∧ Blk wr w.heap.size C T ∧ Below w.heap.size w wr
set_option maxRecDepth 100000 in
set_option maxHeartbeats 8000000 in
theorem sb_walk (l k kind : Int) (v : Value) (os : List Op3) (t : ByteArray) (w : World) (bk : In64 k) (ho : RdO w v os) :
    Calls Tryz.prog 4 #[.agg #[.int .i64 l, .int .i64 k, .int .i64 kind, v], .string t] w fun e w' => e = .returned (.bool true) ∧ Below w.heap.size w w' := by
  have A := hid (fun W : World => s_alive W)
  obtain ⟨p, cap, rfl, hlen, -⟩ := id ho
  have MD := hid (fun (h3 : os.length ≤ 120) (W : World) (h : RdO W (.slice p os.length cap) os) => d_made_any l k kind _ os W bk h (by omega))
  have X1 := Blk.new w #[.int .i64 l, .int .i64 k, .int .i64 kind, .slice p os.length cap] 40
  have hbw1 : Below w.heap.size w (w.alloc (.cells #[.int .i64 l, .int .i64 k, .int .i64 kind, .slice p os.length cap] 40)) := (Below.refl _ _).alloc (Nat.le_refl _) _
  have ho1 := ho.below hbw1 (Nat.le_refl _)
  have b0 : ∃ b0 : Bool, b0 = ((decide (120 < (os.length : Int)) || ((kind == 1) && decide (10 < l))) || decide (3000 < (t.size : Int))) := ⟨_, rfl⟩
  obtain ⟨b0, hbe⟩ := b0
  have HB := hid hbe
  clear ho hbe
  go_enter Tryz.func4, Tryz.ntmps4
  go_upto_region 1 with fail
  generalize (w.alloc (.cells #[.int .i64 l, .int .i64 k, .int .i64 kind, .slice p os.length cap] 40)) = w2 at *
  have x0 : w2.cell? ⟨w.heap.size, 0, none⟩ = some (.int .i64 l) := X1.cell 0
  have x2 : w2.cell? ⟨w.heap.size, 2, none⟩ = some (.int .i64 kind) := X1.cell 2
  have x3 : w2.cell? ⟨w.heap.size, 3, none⟩ = some (.slice p os.length cap) := X1.cell 3
  go_cut [38] (fun s wx => s = .bool b0 ∧ w2 = wx)
  case first =>
    cases z1 : decide (120 < (os.length : Int)) <;> cases z2 : (kind == 1) <;> cases z3 : decide (10 < l) <;> cases z4 : decide (3000 < (t.size : Int))
    all_goals
      have HE := HB.out
      rw [z1, z2, z3, z4] at HE
      have HE := hid HE
      clear HB
      go_wp2_with fail
      go_meet
      exact ⟨by rw [HE.out]; rfl, rfl⟩
  case rest =>
    obtain ⟨rfl, rfl⟩ := hcut
    cases b0
    case true =>
      clear HB MD X1 x0 x2 x3 ho1
      go_wp2_with fail
      refine (A.out _).mono ?_
      rintro e w3 ⟨rfl, hb3⟩
      go_wp2_with fail
      go_ret
      exact ⟨rfl, hbw1.trans (hb3.mono hbw1.size)⟩
    case false =>
      have h120 : os.length ≤ 120 ∧ t.size ≤ 3000 := by
        have h := HB.out
        simp only [Bool.false_eq, Bool.or_eq_false_iff, decide_eq_false_iff_not] at h
        omega
      obtain ⟨h120, hT⟩ := h120
      have RE := hid (s_read t 2 w2 (by omega) (fun st h => by have := run_size h; have hl : t.data.toList.length = t.size := by simp
                                                               omega))
      clear HB x0 x2 x3
      go_wp2_with fail
      refine RE.out.mono ?_
      intro e w3 hD
      obtain ⟨a, n, er, rfl, hb3, hD⟩ := read2 hD
      have X3 := X1.below hb3 (Nat.le_refl _)
      have ho3 := ho1.below hb3 (Nat.le_refl _)
      have hbw3 := hbw1.trans (hb3.mono hbw1.size)
      clear RE X1 ho1 hbw1 hb3
      go_upto_if 47 with fail
      go_cut [47] (fun _ wx => Blk wx w.heap.size #[.int .i64 l, .int .i64 k, .int .i64 kind, .slice p os.length cap] 40 ∧ RdO wx (.slice p os.length cap) os ∧ Below w.heap.size w wx)
      case first =>
        rcases hD with h0 | ⟨rfl, rfl, l', k', zs, dg, q, g, hh, rfl, rfl, d⟩
        · go_wp2_with fail
          go_meet
          exact ⟨X3, ho3, hbw3⟩
        · have TX := hid (tx_own d)
          generalize textL l' k' zs = E at *
          clear d
          go_wp2_with fail
          refine TX.out.mono ?_
          rintro e w4 ⟨rfl, hb4⟩
          have X4 := X3.below hb4 (Nat.le_refl _)
          have ho4 := ho3.below hb4 (Nat.le_refl _)
          have hbw4 := hbw3.trans (hb4.mono hbw3.size)
          clear TX X3 ho3 hbw3 hb4
          go_wp2_with fail
          go_meet
          exact ⟨X4, ho4, hbw4⟩
      case rest =>
        clear hD X3 ho3 hbw3
        obtain ⟨X3, ho3, hbw3⟩ := hcut
        obtain ⟨w3, rfl⟩ : ∃ x, x = wc := ⟨_, rfl⟩
        have M3 := hid (MD.out h120 w3 ho3)
        have x0 : w3.cell? ⟨w.heap.size, 0, none⟩ = some (.int .i64 l) := X3.cell 0
        have x1 : w3.cell? ⟨w.heap.size, 1, none⟩ = some (.int .i64 k) := X3.cell 1
        have x2 : w3.cell? ⟨w.heap.size, 2, none⟩ = some (.int .i64 kind) := X3.cell 2
        have x3 : w3.cell? ⟨w.heap.size, 3, none⟩ = some (.slice p os.length cap) := X3.cell 3
        clear MD ho3
        go_wp2_with fail
        refine M3.out.mono ?_
        clear M3 x0 x1 x2 x3
        have hxl := X3.lt
        rintro e w4 (⟨rfl, hb4⟩ | ⟨dg, q, g, h, vb, zs, its, rfl, d4, rb, -, -, hzl, -, hdb, hb4⟩)
        · have hbw4 := hbw3.trans (hb4.mono hbw3.size)
          have hbw5 := hbw4.alloc hbw4.size (.cells #[.int .i64 0, .slice none 0 0] 45)
          clear X3 hbw3 hb4
          go_wp2_with fail
          refine (A.out _).mono ?_
          rintro e w6 ⟨rfl, hb6⟩
          go_wp2_with fail
          go_ret
          exact ⟨rfl, hbw5.trans (hb6.mono hbw5.size)⟩
        · obtain ⟨pb, cb, rfl⟩ := rb.val
          have hbb : Below w4.heap.size w4 (w4.alloc (.cells #[.int .i64 l, .slice pb its.length cb] 45)) := (Below.refl _ _).alloc (Nat.le_refl _) _
          have d5 := d4.below hbb (Nat.le_refl _)
          have X5 := (X3.below hb4 (Nat.le_refl _)).below hbb (Nat.le_refl _)
          have hbw4 := hbw3.trans (hb4.mono hbw3.size)
          have hbw5 := hbw4.trans (hbb.mono hbw4.size)
          have inv := d5.inv
          have hz : zs.length ≤ 120 := by omega
          have TX := hid (fun W (y : DgV W dg q g h kind l k 2000 zs) => tx_own y)
          have RO := hid (fun kn W => read_own inv (by omega) kn W)
          generalize textL l k zs = E at *
          clear d4 X3 hb4 hbb hbw3 hbw4 rb inv hdb hzl hz
          go_wp2_with fail
          generalize (w4.alloc (.cells #[.int .i64 l, .slice pb its.length cb] 45)) = w5 at *
          refine (TX.out _ d5).mono ?_
          rintro e w7 ⟨rfl, hb7⟩
          have d7 := d5.below hb7 (Nat.le_refl _)
          have X7 := X5.below hb7 (Nat.le_refl _)
          have hbw7 := hbw5.trans (hb7.mono hbw5.size)
          clear d5 X5 hbw5 hb7 TX
          go_wp2_with fail
          go_loopg [82] 4 (fun gn i wr => SbRel dg q g h kind l k zs #[.int .i64 l, .int .i64 k, .int .i64 kind, .slice p os.length cap] 40 w gn i wr)
          case atStart => exact ⟨0, rfl, Nat.zero_le _, Nat.le_refl _, d7, X7, hbw7⟩
          case round =>
            clear d7 X7 hbw7
            obtain ⟨j, rfl, hj4, hgn, dr, Xr, hbr⟩ := hrel
            by_cases hj : j < 4
            · have zj : decide ((j : Int) < 4) = true := decide_eq_true (by omega)
              have x0 : wr.cell? ⟨w.heap.size, 0, none⟩ = some (.int .i64 l) := Xr.cell 0
              by_cases hsk : j = 1 ∧ 12 < l
              · obtain ⟨rfl, hl⟩ := hsk
                have z2 : decide (12 < l) = true := decide_eq_true hl
                clear RO
                go_wp2_with fail
                go_roundg 2
                case rel => exact ⟨2, by go_num, by omega, by omega, dr, Xr, hbr⟩
                case measure => omega
              · have D1 := hid (RO.out (j : Int) wr)
                have IS := hid (fun W => r_poolIs (j : Int) l W)
                rcases (show ((j : Int) == 1) = false ∨ (((j : Int) == 1) = true ∧ decide (12 < l) = false) by
                  by_cases e : j = 1
                  · right
                    exact ⟨by simp [e], decide_eq_false (fun h => hsk ⟨e, h⟩)⟩
                  · left; simp; omega) with z1 | ⟨z1, z2⟩
                all_goals
                  clear hsk
                  go_wp2_with fail
                  refine D1.out.mono ?_
                  rintro e w8 (⟨hp, rfl, hb8⟩ | ⟨hp, dm, qm, gm, hm, rfl, m8, -, -, -, -, hb8⟩)
                  · have d8 := dr.below hb8 (Nat.le_refl _)
                    have X8 := Xr.below hb8 (Nat.le_refl _)
                    have hbw8 := hbr.trans (hb8.mono hbr.size)
                    rw [hp] at IS
                    clear dr Xr hbr hb8 D1 RO x0
                    have x0 : w8.cell? ⟨w.heap.size, 0, none⟩ = some (.int .i64 l) := X8.cell 0
                    go_wp2_with fail
                    refine (IS.out _).mono ?_
                    rintro e w' ⟨rfl, rfl⟩
                    go_wp2_with fail
                    go_roundg (4 - (j + 1))
                    case rel => exact ⟨j + 1, by go_num, by omega, Nat.le_refl _, d8, X8, hbw8⟩
                    case measure => omega
                  · have d8 := dr.below hb8 (Nat.le_refl _)
                    have X8 := Xr.below hb8 (Nat.le_refl _)
                    have hbw8 := hbr.trans (hb8.mono hbr.size)
                    rw [hp] at IS
                    have SM0 := fun W (y : DgV W dm qm gm hm (j : Int) l k 2000 zs) (z : DgV W dg q g h kind l k 2000 zs) => dg_same y z (by decide) (by decide)
                    simp only [and_self, decide_true] at SM0
                    have SM := hid SM0
                    have CF := hid (fun W (y : DgV W dm qm gm hm (j : Int) l k 2000 zs) => dg_conf y)
                    have FK := conf_ks l k (j : Int)
                    clear dr Xr hbr hb8 D1 RO x0 SM0
                    have x0 : w8.cell? ⟨w.heap.size, 0, none⟩ = some (.int .i64 l) := X8.cell 0
                    go_wp2_with fail
                    refine (IS.out _).mono ?_
                    rintro e w' ⟨rfl, rfl⟩
                    go_wp2_with fail
                    refine (SM.out _ m8 d8).mono ?_
                    rintro e w9 ⟨rfl, hb9⟩
                    have d9 := d8.below hb9 (Nat.le_refl _)
                    have X9 := X8.below hb9 (Nat.le_refl _)
                    have m9 := m8.below hb9 (Nat.le_refl _)
                    have hbw9 := hbw8.trans (hb9.mono hbw8.size)
                    clear x0 d8 X8 m8 hbw8 hb9 IS SM
                    go_wp2_with fail
                    refine (CF.out _ m9).mono ?_
                    rintro e w10 ⟨rfl, hb10⟩
                    have d10 := d9.below hb10 (Nat.le_refl _)
                    have X10 := X9.below hb10 (Nat.le_refl _)
                    have hbw10 := hbw9.trans (hb10.mono hbw9.size)
                    clear d9 X9 m9 hbw9 hb10 CF
                    go_wp2_with fail
                    go_roundg (4 - (j + 1))
                    case rel => exact ⟨j + 1, by go_num, by omega, Nat.le_refl _, d10, X10, hbw10⟩
                    case measure => omega
            · obtain rfl : j = 4 := by omega
              clear RO
              go_wp2_with fail
              refine (A.out _).mono ?_
              rintro e w10 ⟨rfl, hb10⟩
              go_wp2_with fail
              go_ret
              exact ⟨rfl, hbr.trans (hb10.mono hbr.size)⟩
theorem SheetBack_walk (v0 : Value) (s0 : Int × Int × Int × Value × List Op3) (t : ByteArray) (w : World)
    (h0 : v0 = .agg #[.int .i64 s0.1, .int .i64 s0.2.1, .int .i64 s0.2.2.1, s0.2.2.2.1] ∧ ((Lit.int .i64 s0.1).wf = true ∧ (Lit.int .i64 s0.2.1).wf = true ∧ (Lit.int .i64 s0.2.2.1).wf = true) ∧ RdO w s0.2.2.2.1 s0.2.2.2.2) (_hs : t.size ≤ maxLen) :
    Calls Tryz.prog 4 #[v0, .string t] w fun e w' => e = .returned (.bool true) ∧ Below w.heap.size w w' := by
  obtain ⟨rfl, ⟨-, hk, -⟩, r0⟩ := h0
  exact sb_walk _ _ _ _ _ t w (bd_i64 _ hk) r0
end Go.Proofs.YthdljlclcepnhaaGreat
