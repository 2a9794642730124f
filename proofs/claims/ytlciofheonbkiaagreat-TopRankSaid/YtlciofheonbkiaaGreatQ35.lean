/- Texts laid together. -/
import Derived.Test.YtlciofheonbkiaaGreatQ33
import Derived.Test.YtlciofheonbkiaaGreatQ34
import Derived.Test.YtlciofheonbkiaaGreatQ32
import Derived.Test.YtlciofheonbkiaaGreatQ13
import Derived.Test.YtlciofheonbkiaaGreatQ28
import Derived.Test.YtlciofheonbkiaaGreatQ23
import Derived.Test.YtlciofheonbkiaaGreatQ01
import Derived.Deep.Fields
import Derived.Deep.Slices
import Derived.Test.YtlciofheonbkiaaGreatQ29
import Derived.Test.YtlciofheonbkiaaGreatQ02
import Derived.Test.YtlciofheonbkiaaGreatQ22
import Derived.Test.YtlciofheonbkiaaGreatQ12
import Derived.Laws.StructEq
import Derived.Test.YtlciofheonbkiaaGreatQ15
import Derived.Test.YtlciofheonbkiaaGreatQ26
import Derived.Test.YtlciofheonbkiaaGreatQ17
import Derived.Test.YtlciofheonbkiaaGreatQ21
/- The walk of SheetBack. -/
namespace Go.Proofs.YtlciofheonbkiaaGreat
open Go.RowKit Nl Sh

theorem tx_own {w : World} {dg q g h : Nat} {kind l k : Int} {zs : List Nd} (d : DgV w dg q g h kind l k 20000 zs) :
    Calls Tryz.prog 23 #[.pointer (some ⟨dg, 0, none⟩)] w fun e w' => e = .returned (.tuple #[.string ⟨(textL l k zs).toArray⟩, .int .i64 0]) ∧ Below w.heap.size w w' := by
  have inv := d.inv
  have hr := inv.roll
  have h0 := sumL_nonneg hr.strict.pos
  exact s_text d (by decide) ⟨by have := hr.l1; omega, by have := hr.l2; omega⟩ ⟨by have := inv.k1; omega, by have := inv.k2; omega⟩ ⟨by omega, by have := hr.most; omega⟩ (fun x hx => by
    have h1 := hr.strict.2 x hx
    have h2 := Pos.le_sum hr.strict.pos x hx
    have := hr.most
    exact ⟨by omega, by omega⟩)
theorem Sh.text_len {l k : Int} {zs : List Nd} (inv : Dg l k zs) : (textL l k zs).length ≤ 67 + 61 * zs.length := by
  have hr := inv.roll
  have h0 := sumL_nonneg hr.strict.pos
  have d1 := digL_len (n := l) ⟨by have := hr.l1; omega, by have := hr.l2; omega⟩
  have d2 := digL_len (n := k) ⟨by have := inv.k1; omega, by have := inv.k2; omega⟩
  have d3 := digL_len (n := sumL zs) ⟨by omega, by have := hr.most; omega⟩
  have key : ∀ ys : List Nd, (∀ x ∈ ys, x ∈ zs) → (bodyL l ys).length ≤ 61 * ys.length := by
    intro ys
    induction ys with
    | nil => intro _; exact Nat.zero_le _
    | cons y r ih =>
      intro hy
      have h1 := ih (fun x hx => hy x (by simp [hx]))
      have hm := hy y (by simp)
      obtain ⟨e1, e2⟩ := ends_in (hr.ids y hm)
      have g1 := digL_len e1
      have g2 := digL_len e2
      have hs := hr.strict.2 y hm
      have hl := Pos.le_sum hr.strict.pos y hm
      have g3 := digL_len (n := y.2) ⟨by omega, by have := hr.most; omega⟩
      have hL : (lineL l y).length ≤ 61 := by
        unfold lineL
        simp only [List.length_append, List.length_cons, List.length_nil]
        omega
      unfold bodyL at h1 ⊢
      rw [List.map_cons, List.flatten_cons, List.length_append, List.length_cons]
      omega
  have hb := key zs (fun x hx => hx)
  unfold textL headL
  simp only [List.length_append, List.length_cons, List.length_nil]
  omega
/-- What reading a digest's lines gives. -/
def ReadOwn (kind l k : Int) (zs : List Nd) (w : World) (e : Ending) (w' : World) : Prop :=
  (poolIs kind l = false ∧ e = .returned (.tuple #[.pointer none, .int .i64 0, .int .i64 2]) ∧ Below w.heap.size w w') ∨
  (poolIs kind l = true ∧ ∃ dg q g h, e = .returned (.tuple #[.pointer (some ⟨dg, 0, none⟩), .int .i64 0, .int .i64 0]) ∧ DgV w' dg q g h kind l k 20000 zs ∧ w.heap.size ≤ dg ∧ w.heap.size ≤ q ∧ w.heap.size ≤ g ∧ w.heap.size ≤ h ∧ Below w.heap.size w w')
theorem read_own {l k : Int} {zs : List Nd} (inv : Dg l k zs) (hz : zs.length ≤ 9999) (kind : Int) (w : World) :
    Calls Tryz.prog 80 #[.string ⟨(textL l k zs).toArray⟩, .int .i64 kind] w (ReadOwn kind l k zs w) := by
  have h0 := load_dg inv
  obtain ⟨t1, t2⟩ := told_read h0
  have hl := text_len inv
  have es : (⟨(textL l k zs).toArray⟩ : ByteArray).data.toList = textL l k zs := rfl
  refine (s_read ⟨(textL l k zs).toArray⟩ kind w (by show (textL l k zs).toArray.size ≤ _; simp; omega) (fun st h => ?_)).mono ?_
  · rw [es, t2] at h
    obtain rfl := Sum.inr.inj h
    exact Nat.le_trans hz (by decide)
  · rintro e w' (⟨n, er, h, -⟩ | ⟨L, K, Z, h, h2⟩)
    · rw [es, t1] at h; cases h
    · rw [es, t1] at h
      simp only [Sum.inr.injEq, Prod.mk.injEq] at h
      obtain ⟨rfl, rfl, rfl⟩ := h
      exact h2
end Go.Proofs.YtlciofheonbkiaaGreat

/- The walks of Graft and Prune, and of the reference's. -/
namespace Go.Proofs.YtlciofheonbkiaaGreat
open Go.RowKit Nl

theorem Nl.nat_rep {l id : Int} (h : rightB l id = true) : ∃ d x : Nat, id = (x : Int) ∧ depV id = (d : Int) ∧ depOk id = true ∧ (d : Int) ≤ l ∧ l ≤ 48 ∧ 2 ^ d ≤ x ∧ x < 2 ^ (d + 1) := by
  obtain ⟨b1, b2, b3⟩ := right_pos1 h
  obtain ⟨d, i, rfl, hi, hd⟩ := dep_rep b1
  rw [right_rep hi b2 b3] at h
  have h := of_decide_eq_true h
  refine ⟨d, 2 ^ d + i, rfl, hd, decide_eq_true b1, h, b3, by omega, ?_⟩
  rw [Nat.pow_succ]; omega
end Go.Proofs.YtlciofheonbkiaaGreat

/- The walks of recast.may, Grow, Coarsen, Turn. -/
namespace Go.Proofs.YtlciofheonbkiaaGreat
open Go.RowKit Nl

set_option maxRecDepth 100000 in
set_option maxHeartbeats 1000000 in
theorem rc_may (l k kind : Int) (w : World) :
    Calls Tryz.prog 137 #[.agg #[.int .i64 l, .int .i64 k, .int .i64 kind]] w fun e w' => e = .returned (.bool (poolIs kind l)) ∧ Below w.heap.size w w' := by
  have hba : Below w.heap.size w (w.alloc (.cells #[.int .i64 l, .int .i64 k, .int .i64 kind] 64)) := (Below.refl _ _).alloc (Nat.le_refl _) _
  have hsx : (w.alloc (.cells #[.int .i64 l, .int .i64 k, .int .i64 kind] 64)).heap.size = w.heap.size + 1 := by simp
  cases hp : poolIs kind l
  · have N := hid (fun W : World => dg_new_no kind l 1 W ⟨by decide, by decide⟩ (by rw [hp]; rfl))
    clear hp
    go_enter Tryz.func137, Tryz.ntmps137
    go_wp2_with fail
    refine (N.out _).mono ?_
    rintro e w2 ⟨rfl, hb2⟩
    go_wp2_with fail
    go_ret
    exact ⟨rfl, hba.trans (hb2.mono (by omega))⟩
  · have N := hid (fun W : World => dg_new kind l 1 W hp (by decide))
    clear hp
    go_enter Tryz.func137, Tryz.ntmps137
    go_wp2_with fail
    refine (N.out _).mono ?_
    rintro e w2 ⟨dg, q, g, h, rfl, -, -, -, -, -, hb2⟩
    go_wp2_with fail
    go_ret
    exact ⟨rfl, hba.trans (hb2.mono (by omega))⟩

end Go.Proofs.YtlciofheonbkiaaGreat

/- The walks of recast.Turn, and of the reference's Grow and Coarsen. -/
namespace Go.Proofs.YtlciofheonbkiaaGreat
open Go.RowKit Nl

set_option maxRecDepth 100000 in
set_option maxHeartbeats 2000000 in
theorem rc_turn {w : World} {dg q g h m : Nat} {kind l k : Int} {zs : List Nd} (kind' : Int) (d : DgV w dg q g h kind l k m zs) (hm : m ≤ 100000) (hz : zs.length ≤ 19999) (hp : poolIs kind' l = true) :
    Calls Tryz.prog 81 #[.pointer (some ⟨dg, 0, none⟩), .int .i64 kind'] w (DgNew kind' l k 20000 zs w) := by
  have CF := hid (dg_conf d)
  have MY0 := fun W : World => rc_may l k kind' W
  rw [hp] at MY0
  have MY := hid MY0
  have hd := d.inv
  have h0 : loadE kind' l k zs = 0 := by
    have hk : isK k = true := decide_eq_true ⟨hd.k1, hd.k2⟩
    unfold loadE
    rw [if_neg (by rw [hp, hk]; decide), if_neg (by rw [rollB_iff.2 hd.roll]; decide), if_neg (fun q => q.elim (fun q => by have := hd.room; omega) (fun q => by rw [hd.light] at q; cases q))]
  have DL := hid (fun W v (y : RdN W v zs) => dg_load kind' l k y hd.roll.nb (by omega) h0)
  have NO := hid (fun W (y : DgV W dg q g h kind l k m zs) => dg_nodes y hm)
  clear hd h0 MY0 hp
  go_enter Tryz.func81, Tryz.ntmps81
  go_wp2_with fail
  refine CF.out.mono ?_
  rintro e w1 ⟨rfl, hb1⟩
  have hs1 := hb1.size
  have hba : Below w1.heap.size w1 (w1.alloc (.cells #[.int .i64 l, .int .i64 k, .int .i64 kind'] 64)) := (Below.refl _ _).alloc (Nat.le_refl _) _
  have X := Blk.new w1 #[.int .i64 l, .int .i64 k, .int .i64 kind'] 64
  have d2 := (d.below hb1 (Nat.le_refl _)).below hba (Nat.le_refl _)
  have hbw2 := hb1.trans (hba.mono hs1)
  have hs2 : (w1.alloc (.cells #[.int .i64 l, .int .i64 k, .int .i64 kind'] 64)).heap.size = w1.heap.size + 1 := by simp
  clear d hb1 hba
  go_wp2_with fail
  generalize (w1.alloc (.cells #[.int .i64 l, .int .i64 k, .int .i64 kind'] 64)) = w2 at *
  refine (MY.out _).mono ?_
  rintro e w3 ⟨rfl, hb3⟩
  have hs3 := hb3.size
  have X3 := X.below hb3 (Nat.le_refl _)
  have d3 := d2.below hb3 (Nat.le_refl _)
  have hbw3 := hbw2.trans (hb3.mono hbw2.size)
  have x0 : w3.cell? ⟨w1.heap.size, 0, none⟩ = some (.int .i64 l) := X3.cell 0
  have x1 : w3.cell? ⟨w1.heap.size, 1, none⟩ = some (.int .i64 k) := X3.cell 1
  have x2 : w3.cell? ⟨w1.heap.size, 2, none⟩ = some (.int .i64 kind') := X3.cell 2
  have hl0 : w1.heap.size < w3.heap.size := by omega
  have hB0 := Below.refl w3.heap.size w3
  clear X d2 hb3 MY hbw2
  go_wp2_with fail
  go_region_held3 (fun w' => w'.cell? ⟨w1.heap.size, 0, none⟩ = some (.int .i64 l) ∧ w'.cell? ⟨w1.heap.size, 1, none⟩ = some (.int .i64 k) ∧ w'.cell? ⟨w1.heap.size, 2, none⟩ = some (.int .i64 kind') ∧ Below w3.heap.size w3 w')
    (first
      | exact ⟨x0, x1, x2, below_drewN hB0 1⟩
      | exact ⟨(X3.below' hB5 hl0).cell 0, (X3.below' hB5 hl0).cell 1, (X3.below' hB5 hl0).cell 2, hB5⟩
      | exact ⟨(X3.below' hB6 hl0).cell 0, (X3.below' hB6 hl0).cell 1, (X3.below' hB6 hl0).cell 2, hB6⟩)
    (first
      | (go_at_call 59; have hB4 := (‹_ ∧ _ ∧ _ ∧ Below w3.heap.size w3 _›).2.2.2; refine (NO.out _ (d3.below hB4 (Nat.le_refl _))).mono ?_; rintro e w5 ⟨v5, rfl, o5, hb5⟩
         have hB5 := hB4.trans (hb5.mono hB4.size))
      | (go_at_call 77; have hB4 := (‹_ ∧ _ ∧ _ ∧ Below w3.heap.size w3 _›).2.2.2; have hsB := hB4.size; refine (DL.out _ _ o5.rd).mono ?_; rintro e w6 ⟨dg6, q6, g6, h6, rfl, d6, e1, e2, e3, e4, hb6⟩
         have hB6 := hB4.trans (hb6.mono hB4.size)))
  go_wp2_with fail
  go_ret2
  exact ⟨dg6, q6, g6, h6, rfl, d6, by omega, by omega, by omega, by omega, hbw3.trans (hB6.mono hbw3.size)⟩

end Go.Proofs.YtlciofheonbkiaaGreat

/- The walk of a digest that is written, and read again. -/
namespace Go.Proofs.YtlciofheonbkiaaGreat
open Go.RowKit Nl Vy Sh

/-- The kind that a digest is read as. -/
def thruK (kind l : Int) : Int := if l ≤ 10 then 3 - kind else kind
/-- What comes of a digest that is written, and read again. -/
def ThruP (kind l k : Int) (zs : List Nd) (w : World) (e : Ending) (w' : World) : Prop :=
  ∃ dg q g h, e = .returned (.pointer (some ⟨dg, 0, none⟩)) ∧ DgV w' dg q g h (thruK kind l) l k 20000 zs ∧ (∀ j, DB dg q g h j → w.heap.size ≤ j) ∧ Below w.heap.size w w'
theorem ThruP.of_new {kind l k : Int} {zs : List Nd} {w w2 w' : World} {dg q g h : Nat} (hb : Below w.heap.size w w2) (d : DgV w' dg q g h (thruK kind l) l k 20000 zs) (h1 : w2.heap.size ≤ dg) (h2 : w2.heap.size ≤ q) (h3 : w2.heap.size ≤ g) (h4 : w2.heap.size ≤ h) (hb' : Below w2.heap.size w2 w') :
    ThruP kind l k zs w (.returned (.pointer (some ⟨dg, 0, none⟩))) w' :=
  ⟨dg, q, g, h, rfl, d, fun j hj => by have := hb.size; rcases hj with e | e | e | e <;> omega, hb.trans (hb'.mono hb.size)⟩
set_option maxRecDepth 100000 in
set_option maxHeartbeats 4000000 in
theorem t_through {w : World} {dg q g h : Nat} {kind l k : Int} {zs : List Nd} (kd : Int) (d : DgV w dg q g h kind l k 20000 zs) (hz : zs.length ≤ 7400) (hkd : kd = 3 ∨ kd = 4 ∨ kd = 6 ∨ kd = 9) (hk1 : 1 ≤ kind) (hk2 : kind ≤ 2) (hp : poolIs (thruK kind l) l = true) :
    Calls Tryz.prog 31 #[.pointer (some ⟨dg, 0, none⟩), .int .i64 kd] w (ThruP kind l k zs w) := by
  have CF := hid (dg_conf d)
  have inv := d.inv
  have EB := enc_bytes inv (by omega)
  have EN := hid (fun W (y : DgV W dg q g h kind l k 20000 zs) => w_encode y (by decide) (by omega))
  have TX := hid (fun W (y : DgV W dg q g h kind l k 20000 zs) => tx_own y)
  have TR := hid (fun W (y : DgV W dg q g h kind l k 20000 zs) => rc_turn (thruK kind l) y (by decide) (by omega) hp)
  have RO := hid (fun W => read_own inv (by omega) (thruK kind l) W)
  have DE := hid (fun W => w_decode ⟨(encB l k zs).toArray⟩ (thruK kind l) W (by show (encB l k zs).toArray.size ≤ _; simp; omega) (fun l' k' zs' h0 hs => by
    obtain ⟨rfl, rfl, rfl⟩ := enc_inj (load_dg inv) h0 hs
    omega))
  have LE := hid (fun W => lt_encode ⟨(encB l k zs).toArray⟩ W (by show (encB l k zs).toArray.size ≤ _; simp; omega))
  have LD := hid (fun W => lt_decode ⟨(encB l k zs).toArray⟩ W (by show (encB l k zs).toArray.size ≤ _; simp; omega))
  have INV := hid inv
  have HP := hid hp
  clear inv EB hp
  go_enter Tryz.func31, Tryz.ntmps31
  go_wp2_with fail
  refine CF.out.mono ?_
  rintro e w1 ⟨rfl, hb1⟩
  have X := Blk.new w1 #[.int .i64 l, .int .i64 k, .int .i64 (thruK kind l)] 64
  have d1 := (d.below hb1 (Nat.le_refl _)).below ((Below.refl _ _).alloc (Nat.le_refl _) (.cells #[.int .i64 l, .int .i64 k, .int .i64 (thruK kind l)] 64)) (Nat.le_refl _)
  have hbw := hb1.alloc hb1.size (.cells #[.int .i64 l, .int .i64 k, .int .i64 (thruK kind l)] 64)
  clear hb1 CF d
  by_cases h10 : l ≤ 10
  · have z : decide (l ≤ 10) = true := decide_eq_true h10
    have hw3 : IntKind.i64.wrap (3 - kind) = 3 - kind := IntWalk.i64_in _ ⟨by omega, by omega⟩
    have e3 : 3 - kind = thruK kind l := by unfold thruK; rw [if_pos h10]
    go_upto_region 4 with fail
    clear z hw3 e3 h10
    have c2 : World.cell? (w1.alloc (.cells #[.int .i64 l, .int .i64 k, .int .i64 (thruK kind l)] 64)) ⟨w1.heap.size, 2, none⟩ = some (.int .i64 (thruK kind l)) := X.cell 2
    generalize hW : w1.alloc (.cells #[.int .i64 l, .int .i64 k, .int .i64 (thruK kind l)] 64) = w2 at *
    generalize w1.heap.size = C at *
    clear hW
    rcases hkd with rfl | rfl | rfl | rfl
    · go_wp2_with fail
      refine (EN.out _ d1).mono ?_
      rintro e w3 ⟨rfl, hb3⟩
      have X3 := X.below hb3 (Nat.le_refl _)
      have c2 : w3.cell? ⟨C, 2, none⟩ = some (.int .i64 (thruK kind l)) := X3.cell 2
      have hbw3 := hbw.trans (hb3.mono hbw.size)
      have DE3 := DE.out w3
      go_wp2_with fail
      refine DE3.mono ?_
      intro e w4 hde
      rcases dec_own INV.out hde with ⟨hf, -, -⟩ | ⟨-, dg', q', g', h', rfl, d', p1, p2, p3, p4, hb4⟩
      · have := HP.out; rw [hf] at this; cases this
      have PP := hid (ThruP.of_new hbw3 d' p1 p2 p3 p4 hb4)
      clear hde DE3
      go_wp2_with fail
      go_ret
      exact PP.out
    · go_wp2_with fail
      refine (TX.out _ d1).mono ?_
      rintro e w3 ⟨rfl, hb3⟩
      have X3 := X.below hb3 (Nat.le_refl _)
      have c2 : w3.cell? ⟨C, 2, none⟩ = some (.int .i64 (thruK kind l)) := X3.cell 2
      have hbw3 := hbw.trans (hb3.mono hbw.size)
      have RO3 := RO.out w3
      go_wp2_with fail
      refine RO3.mono ?_
      rintro e w4 (⟨hf, -, -⟩ | ⟨-, dg', q', g', h', rfl, d', p1, p2, p3, p4, hb4⟩)
      · have := HP.out; rw [hf] at this; cases this
      have PP := hid (ThruP.of_new hbw3 d' p1 p2 p3 p4 hb4)
      go_wp2_with fail
      go_ret
      exact PP.out
    · go_wp2_with fail
      refine (TR.out _ d1).mono ?_
      rintro e w4 ⟨dg', q', g', h', rfl, d', p1, p2, p3, p4, hb4⟩
      have PP := hid (ThruP.of_new hbw d' p1 p2 p3 p4 hb4)
      go_wp2_with fail
      go_ret
      exact PP.out
    · have cW := hid (fun W => c_with W)
      go_wp2_with fail
      refine (EN.out _ d1).mono ?_
      rintro e w3 ⟨rfl, hb3⟩
      have X3 := X.below hb3 (Nat.le_refl _)
      have hbw3 := hbw.trans (hb3.mono hbw.size)
      have LE3 := LE.out w3
      go_wp2_with fail
      refine (cW.out w3).mono ?_
      rintro e w3' ⟨rfl, rfl⟩
      go_wp2_with fail
      refine LE3.mono ?_
      rintro e w4 ⟨rfl, hb4⟩
      have X4 := X3.below hb4 (Nat.le_refl _)
      have hbw4 := hbw3.trans (hb4.mono hbw3.size)
      have LD4 := LD.out w4
      go_wp2_with fail
      refine LD4.mono ?_
      rintro e w5 ⟨rfl, hb5⟩
      have X5 := (X4.below hb5 (Nat.le_refl _)).alloc (.cells #[.int .i64 1, .int .i64 2, .int .u64 4, .string ⟨(encB l k zs).toArray⟩] 142)
      have c2 : (w5.alloc (.cells #[.int .i64 1, .int .i64 2, .int .u64 4, .string ⟨(encB l k zs).toArray⟩] 142)).cell? ⟨C, 2, none⟩ = some (.int .i64 (thruK kind l)) := X5.cell 2
      have hbw5 := (hbw4.trans (hb5.mono hbw4.size)).alloc (hbw4.trans (hb5.mono hbw4.size)).size (.cells #[.int .i64 1, .int .i64 2, .int .u64 4, .string ⟨(encB l k zs).toArray⟩] 142)
      have DE5 := DE.out (w5.alloc (.cells #[.int .i64 1, .int .i64 2, .int .u64 4, .string ⟨(encB l k zs).toArray⟩] 142))
      go_wp2_with fail
      refine DE5.mono ?_
      intro e w6 hde
      rcases dec_own INV.out hde with ⟨hf, -, -⟩ | ⟨-, dg', q', g', h', rfl, d', p1, p2, p3, p4, hb6⟩
      · have := HP.out; rw [hf] at this; cases this
      have PP := hid (ThruP.of_new hbw5 d' p1 p2 p3 p4 hb6)
      clear hde DE5
      go_wp2_with fail
      go_ret
      exact PP.out
  · have z : decide (l ≤ 10) = false := decide_eq_false h10
    have e3 : thruK kind l = kind := by unfold thruK; rw [if_neg h10]
    go_upto_region 4 with fail
    rw [show (Obj.cells #[Value.int .i64 l, Value.int .i64 k, Value.int .i64 kind] 64) = Obj.cells #[Value.int .i64 l, Value.int .i64 k, Value.int .i64 (thruK kind l)] 64 by rw [e3]]
    clear z e3 h10
    have c2 : World.cell? (w1.alloc (.cells #[.int .i64 l, .int .i64 k, .int .i64 (thruK kind l)] 64)) ⟨w1.heap.size, 2, none⟩ = some (.int .i64 (thruK kind l)) := X.cell 2
    generalize hW : w1.alloc (.cells #[.int .i64 l, .int .i64 k, .int .i64 (thruK kind l)] 64) = w2 at *
    generalize w1.heap.size = C at *
    clear hW
    rcases hkd with rfl | rfl | rfl | rfl
    · go_wp2_with fail
      refine (EN.out _ d1).mono ?_
      rintro e w3 ⟨rfl, hb3⟩
      have X3 := X.below hb3 (Nat.le_refl _)
      have c2 : w3.cell? ⟨C, 2, none⟩ = some (.int .i64 (thruK kind l)) := X3.cell 2
      have hbw3 := hbw.trans (hb3.mono hbw.size)
      have DE3 := DE.out w3
      go_wp2_with fail
      refine DE3.mono ?_
      intro e w4 hde
      rcases dec_own INV.out hde with ⟨hf, -, -⟩ | ⟨-, dg', q', g', h', rfl, d', p1, p2, p3, p4, hb4⟩
      · have := HP.out; rw [hf] at this; cases this
      have PP := hid (ThruP.of_new hbw3 d' p1 p2 p3 p4 hb4)
      clear hde DE3
      go_wp2_with fail
      go_ret
      exact PP.out
    · go_wp2_with fail
      refine (TX.out _ d1).mono ?_
      rintro e w3 ⟨rfl, hb3⟩
      have X3 := X.below hb3 (Nat.le_refl _)
      have c2 : w3.cell? ⟨C, 2, none⟩ = some (.int .i64 (thruK kind l)) := X3.cell 2
      have hbw3 := hbw.trans (hb3.mono hbw.size)
      have RO3 := RO.out w3
      go_wp2_with fail
      refine RO3.mono ?_
      rintro e w4 (⟨hf, -, -⟩ | ⟨-, dg', q', g', h', rfl, d', p1, p2, p3, p4, hb4⟩)
      · have := HP.out; rw [hf] at this; cases this
      have PP := hid (ThruP.of_new hbw3 d' p1 p2 p3 p4 hb4)
      go_wp2_with fail
      go_ret
      exact PP.out
    · go_wp2_with fail
      refine (TR.out _ d1).mono ?_
      rintro e w4 ⟨dg', q', g', h', rfl, d', p1, p2, p3, p4, hb4⟩
      have PP := hid (ThruP.of_new hbw d' p1 p2 p3 p4 hb4)
      go_wp2_with fail
      go_ret
      exact PP.out
    · have cW := hid (fun W => c_with W)
      go_wp2_with fail
      refine (EN.out _ d1).mono ?_
      rintro e w3 ⟨rfl, hb3⟩
      have X3 := X.below hb3 (Nat.le_refl _)
      have hbw3 := hbw.trans (hb3.mono hbw.size)
      have LE3 := LE.out w3
      go_wp2_with fail
      refine (cW.out w3).mono ?_
      rintro e w3' ⟨rfl, rfl⟩
      go_wp2_with fail
      refine LE3.mono ?_
      rintro e w4 ⟨rfl, hb4⟩
      have X4 := X3.below hb4 (Nat.le_refl _)
      have hbw4 := hbw3.trans (hb4.mono hbw3.size)
      have LD4 := LD.out w4
      go_wp2_with fail
      refine LD4.mono ?_
      rintro e w5 ⟨rfl, hb5⟩
      have X5 := (X4.below hb5 (Nat.le_refl _)).alloc (.cells #[.int .i64 1, .int .i64 2, .int .u64 4, .string ⟨(encB l k zs).toArray⟩] 142)
      have c2 : (w5.alloc (.cells #[.int .i64 1, .int .i64 2, .int .u64 4, .string ⟨(encB l k zs).toArray⟩] 142)).cell? ⟨C, 2, none⟩ = some (.int .i64 (thruK kind l)) := X5.cell 2
      have hbw5 := (hbw4.trans (hb5.mono hbw4.size)).alloc (hbw4.trans (hb5.mono hbw4.size)).size (.cells #[.int .i64 1, .int .i64 2, .int .u64 4, .string ⟨(encB l k zs).toArray⟩] 142)
      have DE5 := DE.out (w5.alloc (.cells #[.int .i64 1, .int .i64 2, .int .u64 4, .string ⟨(encB l k zs).toArray⟩] 142))
      go_wp2_with fail
      refine DE5.mono ?_
      intro e w6 hde
      rcases dec_own INV.out hde with ⟨hf, -, -⟩ | ⟨-, dg', q', g', h', rfl, d', p1, p2, p3, p4, hb6⟩
      · have := HP.out; rw [hf] at this; cases this
      have PP := hid (ThruP.of_new hbw5 d' p1 p2 p3 p4 hb6)
      clear hde DE5
      go_wp2_with fail
      go_ret
      exact PP.out
end Go.Proofs.YtlciofheonbkiaaGreat

/- The walks of a hop. -/
namespace Go.Proofs.YtlciofheonbkiaaGreat
open Go.RowKit Nl

set_option maxRecDepth 100000 in
set_option maxHeartbeats 4000000 in
theorem hp_3 {w : World} {B0 c : Nat} {l : Int} {vd vb : Value} {rs : List Rec} {X : List Int} (kd on ot x wt : Int) (ok : HopE.ok ⟨kd, on, ot, x, wt⟩) (C : Crowd w B0 l c vd vb rs) (T : CrowdT l rs X) (hX : X.length < 150) (n1 : 1 ≤ rs.length) (n5 : rs.length ≤ 5) (hkd : kd = 3 ∨ kd = 4 ∨ kd = 6 ∨ kd = 9) :
    Calls Tryz.prog 8 #[.pointer (some ⟨c, 0, none⟩), .agg #[.int .i64 kd, .int .i64 on, .int .i64 ot, .int .i64 x, .int .i64 wt]] w (HopP (CB vd vb rs) B0 l c vd vb rs.length X w) := by
  obtain ⟨D, cd, E, ce, rfl, rfl, -, -⟩ := C.shape n1
  have SD : CB (.slice (some ⟨D, 0, none⟩) rs.length cd) (.slice (some ⟨E, 0, none⟩) rs.length ce) rs D := .inl rfl
  have SE : CB (.slice (some ⟨D, 0, none⟩) rs.length cd) (.slice (some ⟨E, 0, none⟩) rs.length ce) rs E := .inr (.inl rfl)
  have SR : ∀ j (h : j < rs.length) b, rs[j].B b → CB (.slice (some ⟨D, 0, none⟩) rs.length cd) (.slice (some ⟨E, 0, none⟩) rs.length ce) rs b := fun j h b p => .inr (.inr ⟨j, h, p⟩)
  generalize CB (.slice (some ⟨D, 0, none⟩) rs.length cd) (.slice (some ⟨E, 0, none⟩) rs.length ce) rs = S at *
  obtain ⟨N, eN⟩ : ∃ N, rs.length = N := ⟨_, rfl⟩
  obtain ⟨-, ok1, ok2, ok3, ok4⟩ := ok
  have hI := atV_lt on n1
  have hJ := atV_lt ot n1
  have A1 := hid (fun W => t_at on rs.length W ok1 n1 n5)
  have A2 := hid (fun W => t_at ot rs.length W ok2 n1 n5)
  obtain ⟨I, eI⟩ : ∃ I, atV on rs.length = I := ⟨_, rfl⟩
  obtain ⟨J, eJ⟩ : ∃ J, atV ot rs.length = J := ⟨_, rfl⟩
  rw [eI] at hI A1
  rw [eJ] at hJ A2
  have HCW := hid C
  have X0 := Blk.new w #[.int .i64 kd, .int .i64 on, .int .i64 ot, .int .i64 x, .int .i64 wt] 30
  have hb0 : Below w.heap.size w (w.alloc (.cells #[.int .i64 kd, .int .i64 on, .int .i64 ot, .int .i64 x, .int .i64 wt] 30)) := (Below.refl _ _).alloc (Nat.le_refl _) _
  have C1 := C.below hb0
  have hcw := C.blk.lt
  rw [eN] at A1 A2 n1 n5 C1 ⊢
  have EN := hid eN
  have hIN : I < N := by omega
  have hJN : J < N := by omega
  have Cw := hid (fun W (y : Crowd W B0 l c (.slice (some ⟨D, 0, none⟩) N cd) (.slice (some ⟨E, 0, none⟩) N ce) rs) => y.cells eN)
  clear eI eJ eN C
  go_enter Tryz.func8, Tryz.ntmps8
  go_upto_region 1 with fail
  generalize hW : w.alloc (.cells #[.int .i64 kd, .int .i64 on, .int .i64 ot, .int .i64 x, .int .i64 wt] 30) = w1 at *
  clear hW
  have o1 : w1.cell? ⟨w.heap.size, 1, none⟩ = some (.int .i64 on) := X0.cell 1
  have o2 : w1.cell? ⟨w.heap.size, 2, none⟩ = some (.int .i64 ot) := X0.cell 2
  have c1 : w1.cell? ⟨c, 1, none⟩ = some (.slice (some ⟨D, 0, none⟩) N cd) := C1.blk.cell 1
  go_quiet ((first
    | (go_at_call_of 9 (Value.int .i64 on); exact Calls.quiet_of_same (calls_flip (A1.out _)))
    | (go_at_call_of 9 (Value.int .i64 ot); exact Calls.quiet_of_same (calls_flip (A2.out _)))))
  have hB2 := below_drewN (Below.refl w1.heap.size w1) nq
  have C2 := C1.below hB2
  have X2 := X0.below hB2 (Nat.le_refl _)
  have hs0 : B0 ≤ w.heap.size := by have := C1.base; omega
  have hb2 : ChB S w (w1.drewN nq) := ChB.of_below (hb0.trans (hB2.mono hb0.size))
  clear A1 A2 HCW C1 X0 hb0 hB2 o1 o2 c1 n5
  generalize w1.drewN nq = w2 at *
  clear w1
  obtain ⟨c1, c2, c3, c4, c5⟩ := Cw.out _ C2 I hI
  have x0 : w2.cell? ⟨w.heap.size, 0, none⟩ = some (.int .i64 kd) := X2.cell 0
  have x3 : w2.cell? ⟨w.heap.size, 3, none⟩ = some (.int .i64 x) := X2.cell 3
  have x4 : w2.cell? ⟨w.heap.size, 4, none⟩ = some (.int .i64 wt) := X2.cell 4
  have OK := C2.each I hI
  have TT := T I hI
  have NS := SR I hI
  have hzl : rs[I].zs.length ≤ 7400 := by
    have h1 := TT.zlen
    have h2 := TT.dg.roll.l2
    have h3 : l.toNat + 1 ≤ 49 := by omega
    have h4 : X.length * (l.toNat + 1) ≤ 150 * 49 := Nat.mul_le_mul (by omega) h3
    omega
  have hil : rs[I].its.length ≤ 150 := by have := TT.ilen; omega
  obtain ⟨r, er⟩ : ∃ r, r = rs[I] := ⟨_, rfl⟩
  rw [← er] at OK TT NS hzl hil c3 c5
  have ER := hid er
  have HC := hid C2
  have HT := hid T
  have hs2 : B0 ≤ w2.heap.size := by have := hb2.size; omega
  clear er T
  have l1 := TT.dg.roll.l1
  have l2 := TT.dg.roll.l2
  have hnR := (HC.out.nR I hI)
  rw [← ER.out] at hnR
  have ok1 := OK.k1
  have ok2 := OK.k2
  have okl := OK.kl
  have ht : 1 ≤ thruK r.kind l ∧ thruK r.kind l ≤ 2 ∧ (10 < l → thruK r.kind l = 2) := by
    unfold thruK
    split
    · exact ⟨by omega, by omega, fun h => by omega⟩
    · exact ⟨ok1, ok2, okl⟩
  have hp := poolIs_of l1 l2 ht.1 ht.2.1 ht.2.2
  have TH := hid (t_through kd OK.d hzl hkd ok1 ok2 hp)
  have HK := hid OK
  have HHT := hid ht
  have KD1 := hid hkd
  clear TT OK x3 x4 hJ hJN c4 c5 c2 hp ht ok1 ok2 okl l1 l2
  rcases hkd with rfl | rfl | rfl | rfl
  all_goals
    go_wp2_with fail
    refine TH.out.mono ?_
    rintro e w5 ⟨dg', q', g', h', rfl, d5, hnew, hb5⟩
    have SM5 := dg_same1 d5 (HK.out.d.below hb5 (Nat.le_refl _)) (by decide) (by decide)
    clear TH
    go_wp2_with fail
    refine SM5.mono ?_
    rintro e w6 ⟨rfl, hb6⟩
    have hb7 := hb5.trans (hb6.mono hb5.size)
    have d' := d5.below hb6 (Nat.le_refl _)
    have C5 := HC.out.below hb7
    have kc := (C5.cells EN.out I hI).2.2.1
    have c1 : w6.cell? ⟨c, 1, none⟩ = some (.slice (some ⟨D, 0, none⟩) N cd) := C5.blk.cell 1
    have kf := row_free C5.rowD I
    have kl := (World.ownsRow.lt C5.rowD D rfl).2
    have C6 := C5.newD EN.out I hI d' HHT.out.1 HHT.out.2.1 HHT.out.2.2 (fun b hb => by
      obtain ⟨q1, q2, q3, q4, q5, q6⟩ := HC.out.off b (hnew b hb)
      exact ⟨q1, q2, fun e => q3 (Option.some.inj e).symm, q4, q5, q6⟩)
    have hl6 : (rs.set I (rs[I].swap dg' q' g' h' (thruK r.kind l) r.k r.zs)).length = N := by rw [List.length_set]; exact EN.out
    have T6 := HT.out.set I (r := rs[I].swap dg' q' g' h' (thruK r.kind l) r.k r.zs) (by have := HT.out I hI; rw [← ER.out] at this ⊢; exact this)
    have hb8 := (hb2.add hb7).setS ⟨D, I, none⟩ SD (.pointer (some ⟨dg', 0, none⟩))
    have PP : Hid (HopP S B0 l c (.slice (some ⟨D, 0, none⟩) N cd) (.slice (some ⟨E, 0, none⟩) N ce) N X w (.returned (.bool true)) (w6.setCell ⟨D, I, none⟩ (.pointer (some ⟨dg', 0, none⟩)))) :=
      ⟨rfl, _, X, hl6, by omega, C6, T6, hb8⟩
    clear C6 T6 hb8 C5 d' d5 SM5 HC HT HK X2 hb2 Cw NS hl6 hnew hb5 hb6 hb7 hnR
    go_wp2_with fail
    go_ret
    exact PP.out
end Go.Proofs.YtlciofheonbkiaaGreat
