/- Texts laid together. -/
import Derived.Test.YtlciofheonbkiaaGreatP39
import Derived.Test.YtlciofheonbkiaaGreatP40
import Derived.Test.YtlciofheonbkiaaGreatP38
import Derived.Test.YtlciofheonbkiaaGreatP13
import Derived.Test.YtlciofheonbkiaaGreatP32
import Derived.Test.YtlciofheonbkiaaGreatP25
import Derived.Test.YtlciofheonbkiaaGreatP01
import Derived.Deep.Fields
import Derived.Deep.Slices
import Derived.Test.YtlciofheonbkiaaGreatP34
import Derived.Test.YtlciofheonbkiaaGreatP02
import Derived.Test.YtlciofheonbkiaaGreatP24
import Derived.Test.YtlciofheonbkiaaGreatP12
import Derived.Laws.StructEq
import Derived.Test.YtlciofheonbkiaaGreatP15
import Derived.Test.YtlciofheonbkiaaGreatP16
import Derived.Test.YtlciofheonbkiaaGreatP28
/- The walk of SheetBack. -/
namespace Go.Proofs.YtlciofheonbkiaaGreat
open Go.RowKit Nl Sh
theorem tx_own {w : World} {dg q g h : Nat} {kind l k : Int} {zs : List Nd} (d : DgV w dg q g h kind l k 20000 zs) :
    Calls Tryz.prog 23 #[.pointer (some ⟨dg, 0, none⟩)] w fun e w' => e = .returned (.tuple #[.string ⟨(textL l k zs).toArray⟩, .int .i64 0]) ∧ Below w.heap.size w w' := by
  have inv := d.inv
  have hr := inv.roll
  have h0 := sumL_nonneg hr.strict.pos
  exact s_text d (by decide) ⟨by have := hr.l1; omega, by have := hr.l2; omega⟩ ⟨by have := inv.k1; omega, by have := inv.k2; omega⟩ ⟨by omega, by have := hr.most; omega⟩ (fun x hx => by
    have h1 := hr.strict.2 x hx
    have h2 := Pos.le_sum hr.strict.pos x hx
    have := hr.most
    exact ⟨by omega, by omega⟩)
theorem Sh.text_len {l k : Int} {zs : List Nd} (inv : Dg l k zs) : (textL l k zs).length ≤ 67 + 61 * zs.length := by
  have hr := inv.roll
  have h0 := sumL_nonneg hr.strict.pos
  have d1 := digL_len (n := l) ⟨by have := hr.l1; omega, by have := hr.l2; omega⟩
  have d2 := digL_len (n := k) ⟨by have := inv.k1; omega, by have := inv.k2; omega⟩
  have d3 := digL_len (n := sumL zs) ⟨by omega, by have := hr.most; omega⟩
  have key : ∀ ys : List Nd, (∀ x ∈ ys, x ∈ zs) → (bodyL l ys).length ≤ 61 * ys.length := by
    intro ys
    induction ys with
    | nil => intro _; exact Nat.zero_le _
    | cons y r ih =>
      intro hy
      have h1 := ih (fun x hx => hy x (by simp [hx]))
      have hm := hy y (by simp)
      obtain ⟨e1, e2⟩ := ends_in (hr.ids y hm)
      have g1 := digL_len e1
      have g2 := digL_len e2
      have hs := hr.strict.2 y hm
      have hl := Pos.le_sum hr.strict.pos y hm
      have g3 := digL_len (n := y.2) ⟨by omega, by have := hr.most; omega⟩
      have hL : (lineL l y).length ≤ 61 := by
        unfold lineL
        simp only [List.length_append, List.length_cons, List.length_nil]
        omega
      unfold bodyL at h1 ⊢
      rw [List.map_cons, List.flatten_cons, List.length_append, List.length_cons]
      omega
  have hb := key zs (fun x hx => hx)
  unfold textL headL
  simp only [List.length_append, List.length_cons, List.length_nil]
  omega
def ReadOwn (kind l k : Int) (zs : List Nd) (w : World) (e : Ending) (w' : World) : Prop :=
  (poolIs kind l = false ∧ e = .returned (.tuple #[.pointer none, .int .i64 0, .int .i64 2]) ∧ Below w.heap.size w w') ∨
  (poolIs kind l = true ∧ ∃ dg q g h, e = .returned (.tuple #[.pointer (some ⟨dg, 0, none⟩), .int .i64 0, .int .i64 0]) ∧ DgV w' dg q g h kind l k 20000 zs ∧ w.heap.size ≤ dg ∧ w.heap.size ≤ q ∧ w.heap.size ≤ g ∧ w.heap.size ≤ h ∧ Below w.heap.size w w')
theorem read_own {l k : Int} {zs : List Nd} (inv : Dg l k zs) (hz : zs.length ≤ 9999) (kind : Int) (w : World) :
    Calls Tryz.prog 80 #[.string ⟨(textL l k zs).toArray⟩, .int .i64 kind] w (ReadOwn kind l k zs w) := by
  have h0 := load_dg inv
  obtain ⟨t1, t2⟩ := told_read h0
  have hl := text_len inv
  have es : (⟨(textL l k zs).toArray⟩ : ByteArray).data.toList = textL l k zs := rfl
  refine (s_read ⟨(textL l k zs).toArray⟩ kind w (by show (textL l k zs).toArray.size ≤ _; simp; omega) (fun st h => ?_)).mono ?_
  · rw [es, t2] at h
    obtain rfl := Sum.inr.inj h
    exact Nat.le_trans hz (by decide)
  · rintro e w' (⟨n, er, h, -⟩ | ⟨L, K, Z, h, h2⟩)
    · rw [es, t1] at h; cases h
    · rw [es, t1] at h
      simp only [Sum.inr.injEq, Prod.mk.injEq] at h
      obtain ⟨rfl, rfl, rfl⟩ := h
      exact h2
end Go.Proofs.YtlciofheonbkiaaGreat

/- The walks of recast.may, Grow, Coarsen, Turn. -/
namespace Go.Proofs.YtlciofheonbkiaaGreat
set_option maxHeartbeats 8000000
set_option maxRecDepth 100000
open Go.RowKit Nl
theorem rc_may (l k kind : Int) (w : World) :
    Calls Tryz.prog 137 #[.agg #[.int .i64 l, .int .i64 k, .int .i64 kind]] w fun e w' => e = .returned (.bool (poolIs kind l)) ∧ Below w.heap.size w w' := by
  have hba : Below w.heap.size w (w.alloc (.cells #[.int .i64 l, .int .i64 k, .int .i64 kind] 64)) := (Below.refl _ _).alloc nlr _
  have hsx : (w.alloc (.cells #[.int .i64 l, .int .i64 k, .int .i64 kind] 64)).heap.size = w.heap.size + 1 := by simp
  cases hp : poolIs kind l
  · have N := hid (fun W : World => dg_new_no kind l 1 W ⟨by decide, by decide⟩ (by rw [hp]; rfl))
    clear hp
    go_enter Tryz.func137, Tryz.ntmps137
    go_wp2_with fail
    refine (N.out _).mono ?_
    rintro e w2 ⟨rfl, hb2⟩
    go_wp2_with fail
    go_ret
    exact ⟨rfl, hba.trans (hb2.mono (by omega))⟩
  · have N := hid (fun W : World => dg_new kind l 1 W hp (by decide))
    clear hp
    go_enter Tryz.func137, Tryz.ntmps137
    go_wp2_with fail
    refine (N.out _).mono ?_
    rintro e w2 ⟨dg, q, g, h, rfl, -, -, -, -, -, hb2⟩
    go_wp2_with fail
    go_ret
    exact ⟨rfl, hba.trans (hb2.mono (by omega))⟩
end Go.Proofs.YtlciofheonbkiaaGreat

/- The walks of recast.Turn, and of the reference's Grow and Coarsen. -/
namespace Go.Proofs.YtlciofheonbkiaaGreat
set_option maxHeartbeats 8000000
set_option maxRecDepth 100000
open Go.RowKit Nl
theorem rc_turn {w : World} {dg q g h m : Nat} {kind l k : Int} {zs : List Nd} (kind' : Int) (d : DgV w dg q g h kind l k m zs) (hm : m ≤ 100000) (hz : zs.length ≤ 19999) (hp : poolIs kind' l = true) :
    Calls Tryz.prog 81 #[.pointer (some ⟨dg, 0, none⟩), .int .i64 kind'] w (DgNew kind' l k 20000 zs w) := by
  have CF := hid (dg_conf d)
  have MY0 := fun W : World => rc_may l k kind' W
  rw [hp] at MY0
  have MY := hid MY0
  have hd := d.inv
  have h0 : loadE kind' l k zs = 0 := by
    have hk : isK k = true := decide_eq_true ⟨hd.k1, hd.k2⟩
    unfold loadE
    rw [if_neg (by rw [hp, hk]; decide), if_neg (by rw [rollB_iff.2 hd.roll]; decide), if_neg (fun q => q.elim (fun q => by have := hd.room; omega) (fun q => by rw [hd.light] at q; cases q))]
  have DL := hid (fun W v (y : RdN W v zs) => dg_load kind' l k y hd.roll.nb (by omega) h0)
  have NO := hid (fun W (y : DgV W dg q g h kind l k m zs) => dg_nodes y hm)
  clear hd h0 MY0 hp
  go_enter Tryz.func81, Tryz.ntmps81
  go_wp2_with fail
  refine CF.out.mono ?_
  rintro e w1 ⟨rfl, hb1⟩
  have hs1 := hb1.size
  have hba : Below w1.heap.size w1 (w1.alloc (.cells #[.int .i64 l, .int .i64 k, .int .i64 kind'] 64)) := (Below.refl _ _).alloc nlr _
  have X := Blk.new w1 #[.int .i64 l, .int .i64 k, .int .i64 kind'] 64
  have d2 := (d.below hb1 nlr).below hba nlr
  have hbw2 := hb1.trans (hba.mono hs1)
  have hs2 : (w1.alloc (.cells #[.int .i64 l, .int .i64 k, .int .i64 kind'] 64)).heap.size = w1.heap.size + 1 := by simp
  clear d hb1 hba
  go_wp2_with fail
  generalize (w1.alloc (.cells #[.int .i64 l, .int .i64 k, .int .i64 kind'] 64)) = w2 at *
  refine (MY.out _).mono ?_
  rintro e w3 ⟨rfl, hb3⟩
  have hs3 := hb3.size
  have X3 := X.below hb3 nlr
  have d3 := d2.below hb3 nlr
  have hbw3 := hbw2.trans (hb3.mono hbw2.size)
  have x0 : w3.cell? ⟨w1.heap.size, 0, none⟩ = some (.int .i64 l) := X3.cell 0
  have x1 : w3.cell? ⟨w1.heap.size, 1, none⟩ = some (.int .i64 k) := X3.cell 1
  have x2 : w3.cell? ⟨w1.heap.size, 2, none⟩ = some (.int .i64 kind') := X3.cell 2
  have hl0 : w1.heap.size < w3.heap.size := by omega
  have hB0 := Below.refl w3.heap.size w3
  clear X d2 hb3 MY hbw2
  go_wp2_with fail
  go_region_held3 (fun w' => w'.cell? ⟨w1.heap.size, 0, none⟩ = some (.int .i64 l) ∧ w'.cell? ⟨w1.heap.size, 1, none⟩ = some (.int .i64 k) ∧ w'.cell? ⟨w1.heap.size, 2, none⟩ = some (.int .i64 kind') ∧ Below w3.heap.size w3 w')
    (first
      | exact ⟨x0, x1, x2, below_drewN hB0 1⟩
      | exact ⟨(X3.below' hB5 hl0).cell 0, (X3.below' hB5 hl0).cell 1, (X3.below' hB5 hl0).cell 2, hB5⟩
      | exact ⟨(X3.below' hB6 hl0).cell 0, (X3.below' hB6 hl0).cell 1, (X3.below' hB6 hl0).cell 2, hB6⟩)
    (first
      | (go_at_call 59; have hB4 := (‹_ ∧ _ ∧ _ ∧ Below w3.heap.size w3 _›).2.2.2; refine (NO.out _ (d3.below hB4 nlr)).mono ?_; rintro e w5 ⟨v5, rfl, o5, hb5⟩
         have hB5 := hB4.trans (hb5.mono hB4.size))
      | (go_at_call 77; have hB4 := (‹_ ∧ _ ∧ _ ∧ Below w3.heap.size w3 _›).2.2.2; have hsB := hB4.size; refine (DL.out _ _ o5.rd).mono ?_; rintro e w6 ⟨dg6, q6, g6, h6, rfl, d6, e1, e2, e3, e4, hb6⟩
         have hB6 := hB4.trans (hb6.mono hB4.size)))
  go_wp2_with fail
  go_ret2
  exact ⟨dg6, q6, g6, h6, rfl, d6, by omega, by omega, by omega, by omega, hbw3.trans (hB6.mono hbw3.size)⟩
end Go.Proofs.YtlciofheonbkiaaGreat

/- The walk of a digest that is written, and read again. -/
namespace Go.Proofs.YtlciofheonbkiaaGreat
set_option maxHeartbeats 8000000
set_option maxRecDepth 100000
open Go.RowKit Nl Vy Sh
def thruK (kind l : Int) : Int := if l ≤ 10 then 3 - kind else kind
def ThruP (kind l k : Int) (zs : List Nd) (w : World) (e : Ending) (w' : World) : Prop :=
  ∃ dg q g h, e = .returned (.pointer (some ⟨dg, 0, none⟩)) ∧ DgV w' dg q g h (thruK kind l) l k 20000 zs ∧ (∀ j, DB dg q g h j → w.heap.size ≤ j) ∧ Below w.heap.size w w'
theorem ThruP.of_new {kind l k : Int} {zs : List Nd} {w w2 w' : World} {dg q g h : Nat} (hb : Below w.heap.size w w2) (d : DgV w' dg q g h (thruK kind l) l k 20000 zs) (h1 : w2.heap.size ≤ dg) (h2 : w2.heap.size ≤ q) (h3 : w2.heap.size ≤ g) (h4 : w2.heap.size ≤ h) (hb' : Below w2.heap.size w2 w') :
    ThruP kind l k zs w (.returned (.pointer (some ⟨dg, 0, none⟩))) w' :=
  ⟨dg, q, g, h, rfl, d, fun j hj => by have := hb.size; rcases hj with e | e | e | e <;> omega, hb.trans (hb'.mono hb.size)⟩
theorem t_through {w : World} {dg q g h : Nat} {kind l k : Int} {zs : List Nd} (kd : Int) (d : DgV w dg q g h kind l k 20000 zs) (hz : zs.length ≤ 7400) (hkd : kd = 3 ∨ kd = 4 ∨ kd = 6 ∨ kd = 9) (hk1 : 1 ≤ kind) (hk2 : kind ≤ 2) (hp : poolIs (thruK kind l) l = true) :
    Calls Tryz.prog 31 #[.pointer (some ⟨dg, 0, none⟩), .int .i64 kd] w (ThruP kind l k zs w) := by
  have CF := hid (dg_conf d)
  have inv := d.inv
  have EB := enc_bytes inv (by omega)
  have EN := hid (fun W (y : DgV W dg q g h kind l k 20000 zs) => w_encode y (by decide) (by omega))
  have TX := hid (fun W (y : DgV W dg q g h kind l k 20000 zs) => tx_own y)
  have TR := hid (fun W (y : DgV W dg q g h kind l k 20000 zs) => rc_turn (thruK kind l) y (by decide) (by omega) hp)
  have RO := hid (fun W => read_own inv (by omega) (thruK kind l) W)
  have DE := hid (fun W => w_decode ⟨(encB l k zs).toArray⟩ (thruK kind l) W (by show (encB l k zs).toArray.size ≤ _; simp; omega) (fun l' k' zs' h0 hs => by
    obtain ⟨rfl, rfl, rfl⟩ := enc_inj (load_dg inv) h0 hs
    omega))
  have LE := hid (fun W => lt_encode ⟨(encB l k zs).toArray⟩ W (by show (encB l k zs).toArray.size ≤ _; simp; omega))
  have LD := hid (fun W => lt_decode ⟨(encB l k zs).toArray⟩ W (by show (encB l k zs).toArray.size ≤ _; simp; omega))
  have INV := hid inv
  have HP := hid hp
  clear inv EB hp
  go_enter Tryz.func31, Tryz.ntmps31
  go_wp2_with fail
  refine CF.out.mono ?_
  rintro e w1 ⟨rfl, hb1⟩
  have X := Blk.new w1 #[.int .i64 l, .int .i64 k, .int .i64 (thruK kind l)] 64
  have d1 := (d.below hb1 nlr).below ((Below.refl _ _).alloc nlr (.cells #[.int .i64 l, .int .i64 k, .int .i64 (thruK kind l)] 64)) nlr
  have hbw := hb1.alloc hb1.size (.cells #[.int .i64 l, .int .i64 k, .int .i64 (thruK kind l)] 64)
  clear hb1 CF d
  by_cases h10 : l ≤ 10
  · have z : decide (l ≤ 10) = true := decide_eq_true h10
    have hw3 : IntKind.i64.wrap (3 - kind) = 3 - kind := IntWalk.i64_in _ ⟨by omega, by omega⟩
    have e3 : 3 - kind = thruK kind l := by unfold thruK; rw [if_pos h10]
    go_upto_region 4 with fail
    clear z hw3 e3 h10
    have c2 : World.cell? (w1.alloc (.cells #[.int .i64 l, .int .i64 k, .int .i64 (thruK kind l)] 64)) ⟨w1.heap.size, 2, none⟩ = some (.int .i64 (thruK kind l)) := X.cell 2
    generalize hW : w1.alloc (.cells #[.int .i64 l, .int .i64 k, .int .i64 (thruK kind l)] 64) = w2 at *
    generalize w1.heap.size = C at *
    clear hW
    rcases hkd with rfl | rfl | rfl | rfl
    · go_wp2_with fail
      refine (EN.out _ d1).mono ?_
      rintro e w3 ⟨rfl, hb3⟩
      have X3 := X.below hb3 nlr
      have c2 : w3.cell? ⟨C, 2, none⟩ = some (.int .i64 (thruK kind l)) := X3.cell 2
      have hbw3 := hbw.trans (hb3.mono hbw.size)
      have DE3 := DE.out w3
      go_wp2_with fail
      refine DE3.mono ?_
      intro e w4 hde
      rcases dec_own INV.out hde with ⟨hf, -, -⟩ | ⟨-, dg', q', g', h', rfl, d', p1, p2, p3, p4, hb4⟩
      · have := HP.out; rw [hf] at this; cases this
      have PP := hid (ThruP.of_new hbw3 d' p1 p2 p3 p4 hb4)
      clear hde DE3
      go_wp2_with fail
      go_ret
      exact PP.out
    · go_wp2_with fail
      refine (TX.out _ d1).mono ?_
      rintro e w3 ⟨rfl, hb3⟩
      have X3 := X.below hb3 nlr
      have c2 : w3.cell? ⟨C, 2, none⟩ = some (.int .i64 (thruK kind l)) := X3.cell 2
      have hbw3 := hbw.trans (hb3.mono hbw.size)
      have RO3 := RO.out w3
      go_wp2_with fail
      refine RO3.mono ?_
      rintro e w4 (⟨hf, -, -⟩ | ⟨-, dg', q', g', h', rfl, d', p1, p2, p3, p4, hb4⟩)
      · have := HP.out; rw [hf] at this; cases this
      have PP := hid (ThruP.of_new hbw3 d' p1 p2 p3 p4 hb4)
      go_wp2_with fail
      go_ret
      exact PP.out
    · go_wp2_with fail
      refine (TR.out _ d1).mono ?_
      rintro e w4 ⟨dg', q', g', h', rfl, d', p1, p2, p3, p4, hb4⟩
      have PP := hid (ThruP.of_new hbw d' p1 p2 p3 p4 hb4)
      go_wp2_with fail
      go_ret
      exact PP.out
    · have cW := hid (fun W => c_with W)
      go_wp2_with fail
      refine (EN.out _ d1).mono ?_
      rintro e w3 ⟨rfl, hb3⟩
      have X3 := X.below hb3 nlr
      have hbw3 := hbw.trans (hb3.mono hbw.size)
      have LE3 := LE.out w3
      go_wp2_with fail
      refine (cW.out w3).mono ?_
      rintro e w3' ⟨rfl, rfl⟩
      go_wp2_with fail
      refine LE3.mono ?_
      rintro e w4 ⟨rfl, hb4⟩
      have X4 := X3.below hb4 nlr
      have hbw4 := hbw3.trans (hb4.mono hbw3.size)
      have LD4 := LD.out w4
      go_wp2_with fail
      refine LD4.mono ?_
      rintro e w5 ⟨rfl, hb5⟩
      have X5 := (X4.below hb5 nlr).alloc (.cells #[.int .i64 1, .int .i64 2, .int .u64 4, .string ⟨(encB l k zs).toArray⟩] 142)
      have c2 : (w5.alloc (.cells #[.int .i64 1, .int .i64 2, .int .u64 4, .string ⟨(encB l k zs).toArray⟩] 142)).cell? ⟨C, 2, none⟩ = some (.int .i64 (thruK kind l)) := X5.cell 2
      have hbw5 := (hbw4.trans (hb5.mono hbw4.size)).alloc (hbw4.trans (hb5.mono hbw4.size)).size (.cells #[.int .i64 1, .int .i64 2, .int .u64 4, .string ⟨(encB l k zs).toArray⟩] 142)
      have DE5 := DE.out (w5.alloc (.cells #[.int .i64 1, .int .i64 2, .int .u64 4, .string ⟨(encB l k zs).toArray⟩] 142))
      go_wp2_with fail
      refine DE5.mono ?_
      intro e w6 hde
      rcases dec_own INV.out hde with ⟨hf, -, -⟩ | ⟨-, dg', q', g', h', rfl, d', p1, p2, p3, p4, hb6⟩
      · have := HP.out; rw [hf] at this; cases this
      have PP := hid (ThruP.of_new hbw5 d' p1 p2 p3 p4 hb6)
      clear hde DE5
      go_wp2_with fail
      go_ret
      exact PP.out
  · have z : decide (l ≤ 10) = false := decide_eq_false h10
    have e3 : thruK kind l = kind := by unfold thruK; rw [if_neg h10]
    go_upto_region 4 with fail
    rw [show (Obj.cells #[Value.int .i64 l, Value.int .i64 k, Value.int .i64 kind] 64) = Obj.cells #[Value.int .i64 l, Value.int .i64 k, Value.int .i64 (thruK kind l)] 64 by rw [e3]]
    clear z e3 h10
    have c2 : World.cell? (w1.alloc (.cells #[.int .i64 l, .int .i64 k, .int .i64 (thruK kind l)] 64)) ⟨w1.heap.size, 2, none⟩ = some (.int .i64 (thruK kind l)) := X.cell 2
    generalize hW : w1.alloc (.cells #[.int .i64 l, .int .i64 k, .int .i64 (thruK kind l)] 64) = w2 at *
    generalize w1.heap.size = C at *
    clear hW
    rcases hkd with rfl | rfl | rfl | rfl
    · go_wp2_with fail
      refine (EN.out _ d1).mono ?_
      rintro e w3 ⟨rfl, hb3⟩
      have X3 := X.below hb3 nlr
      have c2 : w3.cell? ⟨C, 2, none⟩ = some (.int .i64 (thruK kind l)) := X3.cell 2
      have hbw3 := hbw.trans (hb3.mono hbw.size)
      have DE3 := DE.out w3
      go_wp2_with fail
      refine DE3.mono ?_
      intro e w4 hde
      rcases dec_own INV.out hde with ⟨hf, -, -⟩ | ⟨-, dg', q', g', h', rfl, d', p1, p2, p3, p4, hb4⟩
      · have := HP.out; rw [hf] at this; cases this
      have PP := hid (ThruP.of_new hbw3 d' p1 p2 p3 p4 hb4)
      clear hde DE3
      go_wp2_with fail
      go_ret
      exact PP.out
    · go_wp2_with fail
      refine (TX.out _ d1).mono ?_
      rintro e w3 ⟨rfl, hb3⟩
      have X3 := X.below hb3 nlr
      have c2 : w3.cell? ⟨C, 2, none⟩ = some (.int .i64 (thruK kind l)) := X3.cell 2
      have hbw3 := hbw.trans (hb3.mono hbw.size)
      have RO3 := RO.out w3
      go_wp2_with fail
      refine RO3.mono ?_
      rintro e w4 (⟨hf, -, -⟩ | ⟨-, dg', q', g', h', rfl, d', p1, p2, p3, p4, hb4⟩)
      · have := HP.out; rw [hf] at this; cases this
      have PP := hid (ThruP.of_new hbw3 d' p1 p2 p3 p4 hb4)
      go_wp2_with fail
      go_ret
      exact PP.out
    · go_wp2_with fail
      refine (TR.out _ d1).mono ?_
      rintro e w4 ⟨dg', q', g', h', rfl, d', p1, p2, p3, p4, hb4⟩
      have PP := hid (ThruP.of_new hbw d' p1 p2 p3 p4 hb4)
      go_wp2_with fail
      go_ret
      exact PP.out
    · have cW := hid (fun W => c_with W)
      go_wp2_with fail
      refine (EN.out _ d1).mono ?_
      rintro e w3 ⟨rfl, hb3⟩
      have X3 := X.below hb3 nlr
      have hbw3 := hbw.trans (hb3.mono hbw.size)
      have LE3 := LE.out w3
      go_wp2_with fail
      refine (cW.out w3).mono ?_
      rintro e w3' ⟨rfl, rfl⟩
      go_wp2_with fail
      refine LE3.mono ?_
      rintro e w4 ⟨rfl, hb4⟩
      have X4 := X3.below hb4 nlr
      have hbw4 := hbw3.trans (hb4.mono hbw3.size)
      have LD4 := LD.out w4
      go_wp2_with fail
      refine LD4.mono ?_
      rintro e w5 ⟨rfl, hb5⟩
      have X5 := (X4.below hb5 nlr).alloc (.cells #[.int .i64 1, .int .i64 2, .int .u64 4, .string ⟨(encB l k zs).toArray⟩] 142)
      have c2 : (w5.alloc (.cells #[.int .i64 1, .int .i64 2, .int .u64 4, .string ⟨(encB l k zs).toArray⟩] 142)).cell? ⟨C, 2, none⟩ = some (.int .i64 (thruK kind l)) := X5.cell 2
      have hbw5 := (hbw4.trans (hb5.mono hbw4.size)).alloc (hbw4.trans (hb5.mono hbw4.size)).size (.cells #[.int .i64 1, .int .i64 2, .int .u64 4, .string ⟨(encB l k zs).toArray⟩] 142)
      have DE5 := DE.out (w5.alloc (.cells #[.int .i64 1, .int .i64 2, .int .u64 4, .string ⟨(encB l k zs).toArray⟩] 142))
      go_wp2_with fail
      refine DE5.mono ?_
      intro e w6 hde
      rcases dec_own INV.out hde with ⟨hf, -, -⟩ | ⟨-, dg', q', g', h', rfl, d', p1, p2, p3, p4, hb6⟩
      · have := HP.out; rw [hf] at this; cases this
      have PP := hid (ThruP.of_new hbw5 d' p1 p2 p3 p4 hb6)
      clear hde DE5
      go_wp2_with fail
      go_ret
      exact PP.out
end Go.Proofs.YtlciofheonbkiaaGreat
