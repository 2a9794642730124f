/- Texts laid together. -/
import Derived.Test.YtdnlejboijkcfaaGreatDoorP25
import Derived.Deep.CutBlock
import Derived.Laws.ResultCell
import Derived.Laws.Rows
/- The walk of wire.read. -/
namespace Go.Proofs.YtdnlejboijkcfaaGreatDoor
set_option maxHeartbeats 8000000
set_option maxRecDepth 100000
open Go.RowKit Nl Vy
theorem RdSt.set_other {W : World} {r g : Nat} {st : VSt} (h : RdSt W r st) (j : Nat) (v : Value) (hne : r ≠ g) : RdSt (W.setCell ⟨g, j, none⟩ v) r st := h.keep (Below.heap_setCell W ⟨g, j, none⟩ v r hne)
theorem RdSt.new {W : World} {t : ByteArray} {er : Int} {st : VSt} (ht : t.size ≤ 200000) (h : (er = 0 ∧ st = some t.data.toList) ∨ (1 ≤ er ∧ er ≤ 100 ∧ st = none)) : RdSt (W.alloc (.cells #[.string t, .int .i64 er] 259)) W.heap.size st := ⟨t, er, Blk.new W _ _, ht, h⟩
theorem RdSt.alloc {W : World} {r : Nat} {st : VSt} (h : RdSt W r st) (o : Obj) : RdSt (W.alloc o) r st := h.keep (Below.heap_alloc W o r h.lt)
def ReadP (s : ByteArray) (w : World) (e : Ending) (w' : World) : Prop :=
  Below w.heap.size w w' ∧ ((∃ er : Int, e = .returned (.tuple #[.agg (PartC 0 0 0 0 (.slice none 0 0)), .int .i64 er]) ∧ 1 ≤ er ∧ er ≤ 100 ∧ Dead s.data.toList) ∨
    ∃ (l k : Int) (zs : List Nd) (v : Value), e = .returned (.tuple #[.agg (PartC l k 0 (sumL zs) v), .int .i64 0]) ∧ loadE 2 l k zs = 0 ∧ s.data.toList = encB l k zs ∧ OwnN w' w.heap.size v zs ∧ 2 * zs.length ≤ s.size)
theorem Vy.vy_pos (n : Nat) : 1 ≤ (vyL n).length := by
  by_cases h1 : n < 128
  · rw [vy_low h1]; simp
  · rw [vy_big h1]; simp
theorem Vy.gapsF_ge (l : List Int) : ∀ last, l.length ≤ (gapsF last l).length := by
  induction l with
  | nil => intro _; exact Nat.zero_le _
  | cons a l ih =>
    intro last
    have h1 := vy_pos (a - last).toNat
    have h2 := ih a
    simp only [gapsF, List.length_append, List.length_cons]; omega
theorem Vy.vysL_ge (l : List Int) : l.length ≤ (vysL l).length := by
  induction l with
  | nil => exact Nat.zero_le _
  | cons a l ih =>
    have h1 := vy_pos a.toNat
    simp only [vysL, List.length_append, List.length_cons]; omega
theorem Vy.encB_len2 (l k : Int) (zs : List Nd) : 2 * zs.length ≤ (encB l k zs).length := by
  have h1 := gapsF_ge (zs.map (·.1)) 0
  have h2 := vysL_ge (zs.map (·.2))
  rw [List.length_map] at h1 h2
  unfold encB encL risesL
  rw [seal_len, gaps_all, ws_all]
  simp only [List.length_append]
  omega
theorem Vy.magic_eq (t : ByteArray) (st : VSt) (h : t.data.toList = rawV 4 st) : failS (!(t.toList == [68, 87, 80, 1])) (rawS 4 st) = magicS st := by
  unfold magicS
  rw [← h, ByteArray.toList_eq]
  by_cases e : t.data.toList = [68, 87, 80, 1]
  · rw [e]; rfl
  · rw [decide_eq_false e, beq_eq_false_iff_ne.2 e]
theorem Vy.num_le (st : VSt) : numV st ≤ 9223372036854775807 := by
  cases st with
  | none => exact Nat.zero_le _
  | some s =>
    simp only [numV]
    cases hg : getF s with
    | none => exact Nat.zero_le _
    | some x => obtain ⟨n, r⟩ := x; exact getF_bd hg
theorem Vy.byte_le (st : VSt) : byteV st ≤ 255 := by
  unfold byteV
  split
  · exact Nat.zero_le _
  · rename_i c _ _
    have := UInt8.toNat_lt c
    omega
theorem OwnN.tch {w w' : World} {B r : Nat} {v : Value} {xs : List Nd} (h : OwnN w B v xs) (t : Tch r r w w') (hr : r < B) : OwnN w' B v xs :=
  h.keep fun k hk => t.block k (h.lt' k hk) (by have := h.lt k hk; omega) (by have := h.lt k hk; omega)
def Vy.Sofar (s : List UInt8) (ids : List Int) (j : Nat) (lv : Int) (st : VSt) (zs : List Nd) : Prop :=
  (st = none ∧ Dead s) ∨ ∃ t q0 q ws, st = some q ∧ s4 s = some t ∧ idsF (8 * (vK s : Int)) t = some (ids, q0) ∧ ids.all (rightB (vL s)) = true ∧ ws.length = j ∧ j ≤ ids.length ∧ zs = (ids.take j).zip ws ∧ 0 ≤ lv ∧ lv ≤ 72057594037927935 ∧ wsF ids.length (vN s) q0 = mapW ws (wsF (ids.length - j) lv q)
theorem Vy.good_start (s : List UInt8) (most : Int) (hm : s4 s ≠ none → most = 8 * (vK s : Int)) : Sofar s (idsV most (s4 s)) 0 (vN s) (idsS most (vL s) (s4 s)) [] := by
  cases h : s4 s with
  | none => exact .inl ⟨rfl, dead4 h⟩
  | some t =>
    obtain rfl := hm (by rw [h]; simp)
    obtain ⟨-, -, -, -, h5, -⟩ := s4_some h
    cases hs : idsS (8 * (vK s : Int)) (vL s) (some t) with
    | none => exact .inl ⟨rfl, dead_ids h hs⟩
    | some q =>
      simp only [idsS] at hs
      cases hi : idsF (8 * (vK s : Int)) t with
      | none => rw [hi] at hs; cases hs
      | some x =>
        obtain ⟨ids, q0⟩ := x
        rw [hi] at hs
        simp only [allS] at hs
        split at hs
        · rename_i ha
          obtain rfl := Option.some.inj hs
          have e : idsV (8 * (vK s : Int)) (some t) = ids := by simp only [idsV, hi]
          rw [e]
          exact .inr ⟨t, q0, q0, [], rfl, h, hi, ha, rfl, Nat.zero_le _, by simp, by omega, by omega, by rw [mapW_nil]; rfl⟩
        · cases hs
theorem Vy.good_step {s : List UInt8} {ids : List Int} {j : Nat} {lv : Int} {st : VSt} {zs : List Nd} (g : Sofar s ids j lv st zs) (hj : j < ids.length) :
    Sofar s ids (j + 1) (lv - numV st) (btS 1 lv st) (zs ++ [(ids.getD j 0, (numV st : Int))]) := by
  rcases g with ⟨rfl, hd⟩ | ⟨t, q0, q, ws, rfl, h4, hi, ha, hwl, hjl, rfl, h0, h1, hw⟩
  · refine .inl ⟨?_, hd⟩
    unfold btS
    rw [show numS none = none from rfl, failS_none]
  · have em : ids.length - j = (ids.length - (j + 1)) + 1 := by omega
    rw [em] at hw
    cases hb : btS 1 lv (some q) with
    | none =>
      refine .inl ⟨rfl, dead_ws h4 hi (fun ws' => ?_)⟩
      rw [hw, ws_none hb (by omega)]
      simp [mapW]
    | some r =>
      obtain ⟨b1, b2, b3⟩ := btS_some hb
      refine .inr ⟨t, q0, r, ws ++ [(numV (some q) : Int)], rfl, h4, hi, ha, by simp [hwl], by omega, zip_snoc hj hwl _, by omega, by omega, ?_⟩
      rw [hw, ws_step ws hb (by omega)]
theorem Vy.good_end {s : List UInt8} {ids : List Int} {lv : Int} {q : List UInt8} {zs : List Nd} (g : Sofar s ids ids.length lv (some q) zs) :
    (q ≠ [] ∨ 0 < lv → Dead s) ∧ (q = [] → lv ≤ 0 → s = encB (vL s) (vK s) zs ∧ rollB (vL s) zs = true ∧ poolIs 2 (vL s) = true ∧ isK (vK s) = true ∧ (zs.length : Int) ≤ 8 * (vK s : Int) ∧ sumL zs = vN s ∧ (loadE 2 (vL s) (vK s) zs ≠ 0 → Dead s)) := by
  rcases g with ⟨h, -⟩ | ⟨t, q0, q', ws, h, h4, hi, ha, hwl, hjl, rfl, h0, h1, hw⟩
  · cases h
  · obtain rfl := Option.some.inj h
    rw [List.take_length, Nat.sub_self] at *
    rw [show wsF 0 lv q = some ([], lv, q) from rfl] at hw
    simp only [mapW, List.append_nil] at hw
    refine ⟨fun hq => dead_ws h4 hi (fun ws' e => ?_), fun hq hl => ?_⟩
    · rw [hw] at e
      obtain ⟨-, rfl, rfl⟩ : ws = ws' ∧ lv = 0 ∧ q = [] := by simpa using e
      rcases hq with hq | hq
      · exact hq rfl
      · omega
    · subst hq
      obtain rfl : lv = 0 := by omega
      obtain ⟨a, b, c, d, e, f⟩ := read_all h4 hi ha hw
      exact ⟨a, b, c, d, e, f, fun hl => dead_load h4 hi hw hl⟩
theorem Vy.good_none {s : List UInt8} {ids : List Int} {j : Nat} {lv : Int} {zs : List Nd} (g : Sofar s ids j lv none zs) : Dead s := by
  rcases g with ⟨-, h⟩ | ⟨_, _, _, _, h, -⟩
  · exact h
  · cases h
def Rd3 (w wx : World) (r : Nat) (st : VSt) (L K n : Int) (v : Value) : Prop :=
  RdSt wx r st ∧ Blk wx (r + 1) (PartC L K 0 n v) 234 ∧ Blk wx w.heap.size (PartC 0 0 0 0 (.slice none 0 0)) 234 ∧ Below w.heap.size w wx ∧ w.heap.size < r ∧ r + 2 ≤ wx.heap.size
theorem Rd3.tch {w wx wy : World} {r : Nat} {st st' : VSt} {L K n : Int} {v : Value} (h : Rd3 w wx r st L K n v) (t : Tch r r wx wy) (S : RdSt wy r st') : Rd3 w wy r st' L K n v := by
  obtain ⟨-, P, Y, hb, h1, h2⟩ := h
  exact ⟨S, P.tch t (by omega) (by omega), Y.tch t (by omega) (by omega), hb.trans (t.below (by omega) (by omega) (by omega)), h1, by have := t.size; omega⟩
theorem Rd3.set {w wx : World} {r : Nat} {st : VSt} {L K n : Int} {v : Value} (h : Rd3 w wx r st L K n v) {L' K' n' : Int} {v' : Value} (j : Nat) (u : Value) (e : (PartC L K 0 n v).setIfInBounds j u = PartC L' K' 0 n' v') : Rd3 w (wx.setCell ⟨r + 1, j, none⟩ u) r st L' K' n' v' := by
  obtain ⟨S, P, Y, hb, h1, h2⟩ := h
  refine ⟨S.set_other j u (by omega), e ▸ P.set j u, Y.set_other j u (by omega), hb.setCell (p := ⟨r + 1, j, none⟩) (by show _ ≤ r + 1; omega) u, h1, by simp; omega⟩
theorem Rd3.grown {w wx wy : World} {r : Nat} {st : VSt} {L K n : Int} {v : Value} {row : Option Nat} (h : Rd3 w wx r st L K n v) (g : wx.grownBy wy row) (hr : ∀ k, row = some k → r + 2 ≤ k) : Rd3 w wy r st L K n v := by
  obtain ⟨S, P, Y, hb, h1, h2⟩ := h
  have b := below_grown g (Nat.le_refl wx.heap.size)
  refine ⟨S.keep ?_, P.grown g hr (by omega), Y.grown g hr (by omega), hb.trans (below_grown g (by omega) (fun k hk => by have := hr k hk; omega)), h1, ?_⟩
  · exact (below_grown g (B := r + 1) (by omega) (fun k hk => by have := hr k hk; omega)).block r (by omega)
  · have := (below_grown g (B := r + 1) (by omega) (fun k hk => by have := hr k hk; omega)).size; omega
theorem Rd3.below {w wx wy : World} {r : Nat} {st : VSt} {L K n : Int} {v : Value} (h : Rd3 w wx r st L K n v) (b : Below wx.heap.size wx wy) : Rd3 w wy r st L K n v := by
  obtain ⟨S, P, Y, hb, h1, h2⟩ := h
  exact ⟨S.below b, P.below b nlr, Y.below b nlr, hb.trans (b.mono (by omega)), h1, by have := b.size; omega⟩
def ReadEnd (s : List UInt8) (w : World) (r : Nat) (ids : List Int) (left : Value) (wx : World) : Prop :=
  ∃ (lv : Int) (st : VSt) (v : Value) (zs : List Nd), left = .int .i64 lv ∧ In64 lv ∧ Rd3 w wx r st (vL s) (vK s) (vN s) v ∧ OwnN wx (r + 2) v zs ∧ zs.length ≤ 200000 ∧ Hid ((st = none ∧ Dead s) ∨ Sofar s ids ids.length lv st zs)
def ReadRound (s : List UInt8) (w : World) (r Bn : Nat) (ids : List Int) (vi : Value) (gn : Nat) (left i : Value) (wx : World) : Prop :=
  ∃ (lv : Int) (st : VSt) (v : Value) (zs : List Nd) (j : Nat), left = .int .i64 lv ∧ i = .int .i64 j ∧ j ≤ ids.length ∧ ids.length - j ≤ gn ∧ (0 ≤ lv ∧ lv ≤ 9223372036854775807) ∧ Rd3 w wx r st (vL s) (vK s) (vN s) v ∧ OwnN wx Bn v zs ∧ zs.length = j ∧ OwnI wx (r + 2) vi ids ∧ Bn ≤ wx.heap.size ∧ Hid (Sofar s ids j lv st zs)
theorem Rd3.alloc {w wx : World} {r : Nat} {st : VSt} {L K n : Int} {v : Value} (h : Rd3 w wx r st L K n v) (o : Obj) : Rd3 w (wx.alloc o) r st L K n v := h.below ((Below.refl _ _).alloc nlr _)
theorem set5 {w : World} (wx : World) (a b c d e : Value) {v : Value} {zs : List Nd} (hb : Below w.heap.size w wx) (ho : OwnN wx (w.heap.size + 1) v zs) (Y : Blk wx w.heap.size (PartC 0 0 0 0 (.slice none 0 0)) 234) :
    Below w.heap.size w (((((wx.setCell ⟨w.heap.size, 0, none⟩ a).setCell ⟨w.heap.size, 1, none⟩ b).setCell ⟨w.heap.size, 2, none⟩ c).setCell ⟨w.heap.size, 3, none⟩ d).setCell ⟨w.heap.size, 4, none⟩ e) ∧
    OwnN (((((wx.setCell ⟨w.heap.size, 0, none⟩ a).setCell ⟨w.heap.size, 1, none⟩ b).setCell ⟨w.heap.size, 2, none⟩ c).setCell ⟨w.heap.size, 3, none⟩ d).setCell ⟨w.heap.size, 4, none⟩ e) w.heap.size v zs ∧
    Blk (((((wx.setCell ⟨w.heap.size, 0, none⟩ a).setCell ⟨w.heap.size, 1, none⟩ b).setCell ⟨w.heap.size, 2, none⟩ c).setCell ⟨w.heap.size, 3, none⟩ d).setCell ⟨w.heap.size, 4, none⟩ e) w.heap.size #[a, b, c, d, e] 234 := by
  have st := fun (W : World) (j : Nat) (u : Value) (h : Below w.heap.size w W) => h.setCell (p := ⟨w.heap.size, j, none⟩) nlr u
  have t : Tch w.heap.size w.heap.size wx (((((wx.setCell ⟨w.heap.size, 0, none⟩ a).setCell ⟨w.heap.size, 1, none⟩ b).setCell ⟨w.heap.size, 2, none⟩ c).setCell ⟨w.heap.size, 3, none⟩ d).setCell ⟨w.heap.size, 4, none⟩ e) :=
    ((((Tch.set1 wx 0 a).trans (Tch.set1 _ 1 b)).trans (Tch.set1 _ 2 c)).trans (Tch.set1 _ 3 d)).trans (Tch.set1 _ 4 e)
  exact ⟨st _ _ _ (st _ _ _ (st _ _ _ (st _ _ _ (st _ _ _ hb)))), (ho.tch t (by omega)).mono (by omega), ((((Y.set 0 a).set 1 b).set 2 c).set 3 d).set 4 e⟩
theorem ret_parts {R : Ending → World → Prop} {tmps : Array Value} {W : World} {g : Nat} {cs : Array Value} {u : Value} (Y : Blk W g cs 234) (hc : cs.size = 5) (h2 : tmps.getD 2 undef = .pointer (some ⟨g, 0, none⟩)) (h3 : tmps.getD 3 undef = u) (hR : R (.returned (.tuple #[.agg cs, u])) W) :
    bodyPost Tryz.prog Tryz.f178 R .ret ⟨tmps, []⟩ W := by
  refine bodyPost_ret (v := .tuple #[.agg cs, u]) ?_ rfl hR
  rw [results_cell_tmp rfl, h2, h3]
  have hrow := run_loadVar_row (P := Tryz.prog) W g 234 234 cs (0, 0) _ Y Tryz.underlying234 rfl (by rw [hc]; kernel_rfl)
  simp [asAddr, Result.andThen, hrow]
theorem Vy.fin_read {s : List UInt8} {ids : List Int} {lv : Int} {st : VSt} {zs : List Nd} (g : (st = none ∧ Dead s) ∨ Sofar s ids ids.length lv st zs) (sx : ByteArray) (hx : st = none ∨ st = some sx.data.toList) :
    (failS (decide (0 < lv)) (failS (!sx.toList.isEmpty) st) = none → Dead s) ∧ (∀ q, failS (decide (0 < lv)) (failS (!sx.toList.isEmpty) st) = some q → s = encB (vL s) (vK s) zs ∧ rollB (vL s) zs = true ∧ poolIs 2 (vL s) = true ∧ isK (vK s) = true ∧ (zs.length : Int) ≤ 8 * (vK s : Int) ∧ sumL zs = vN s ∧ (loadE 2 (vL s) (vK s) zs ≠ 0 → Dead s)) := by
  have key : st = none → Dead s := fun h => by
    rcases g with ⟨-, g⟩ | g
    · exact g
    · subst h; exact good_none g
  cases st with
  | none =>
    rw [failS_none, failS_none]
    exact ⟨fun _ => key rfl, fun q h => by cases h⟩
  | some q =>
    have e : sx.data.toList = q := by rcases hx with h | h <;> simp_all
    rcases g with ⟨h, -⟩ | g
    · cases h
    · obtain ⟨g1, g2⟩ := good_end g
      rw [ByteArray.toList_eq, e]
      by_cases h1 : q = []
      · subst h1
        have z1 : (!([] : List UInt8).isEmpty) = false := rfl
        rw [z1]
        by_cases h2 : 0 < lv
        · rw [decide_eq_true h2]
          exact ⟨fun _ => g1 (.inr h2), fun q h => (by cases h)⟩
        · rw [decide_eq_false h2]
          exact ⟨fun h => (by cases h), fun _ _ => g2 rfl (by omega)⟩
      · have z1 : (!q.isEmpty) = true := by simp [h1]
        rw [z1]
        exact ⟨fun _ => g1 (.inl h1), fun q' h => by rw [show failS true (some q) = none from rfl, failS_none] at h; cases h⟩
theorem Nl.Roll.nb2 {l : Int} {zs : List (Int × Int)} (r : Roll l zs) : NB zs := fun x hx => by
  have h1 := right_le (r.ids x hx)
  have hc := r.strict.2 x hx
  have hle := Pos.le_sum r.strict.pos x hx
  have hm := r.most
  exact ⟨⟨by omega, h1⟩, ⟨by omega, by omega⟩⟩
theorem w_read (s : ByteArray) (w : World) (hs : s.size ≤ 200000) : Calls Tryz.prog 178 #[.string s] w (ReadP s w) := by
  have OP := hid (fun W => s_open s W hs)
  have RW := hid (fun W r st (y : RdSt W r st) => w_raw y 4 (by decide))
  have FL := hid (fun W r st (y : RdSt W r st) b e' he => w_fail y b e' he)
  have entL : ∀ (args : Array Value) (W : World), (callFunc 205 args).run Tryz.prog W = .ok (.enter 205 args) W := enters_of Tryz.func205 (by kernel_rfl) rfl
  have entN : ∀ (args : Array Value) (W : World), (callFunc 206 args).run Tryz.prog W = .ok (.enter 206 args) W := enters_of Tryz.func206 (by kernel_rfl) rfl
  have BY := hid (fun W r st (y : RdSt W r st) => w_between (byteV st) 1 48 entL (w_byte y))
  have BN := hid (fun W r st (y : RdSt W r st) a b => w_between (numV st) a b entN (w_number y))
  have IDS := hid (fun W r pb st L K kind n v (y : RdSt W r st) (X : Blk W pb (PartC L K kind n v) 234) (q : pb ≠ r) most (bL : In64 L) (bm : In64 most) (hm2 : most ≤ 9223372036854775807) => w_ids y X q most bL bm hm2)
  clear entL entN
  have Y1 : Blk (w.alloc (.cells (PartC 0 0 0 0 (.slice none 0 0)) 234)) w.heap.size (PartC 0 0 0 0 (.slice none 0 0)) 234 := Blk.new w _ _
  have hb1 : Below w.heap.size w (w.alloc (.cells (PartC 0 0 0 0 (.slice none 0 0)) 234)) := (Below.refl _ _).alloc nlr _
  unfold PartC at Y1 hb1
  go_enter Tryz.func178, Tryz.ntmps178
  go_wp2_with fail
  refine (OP.out _).mono ?_
  generalize w.alloc (.cells #[.int .i64 0, .int .i64 0, .int .i64 0, .int .i64 0, .slice none 0 0] 234) = w1 at *
  have hB0 := Y1.lt
  intro e w2 hO
  obtain ⟨hb2, t, er, rfl, ht, hst⟩ : Below w1.heap.size w1 w2 ∧ ∃ (t : ByteArray) (er : Int), e = .returned (.tuple #[.string t, .int .i64 er]) ∧ t.size ≤ 200000 ∧ ((er = 0 ∧ openS s.data.toList = some t.data.toList) ∨ (1 ≤ er ∧ er ≤ 100 ∧ openS s.data.toList = none)) := by
    obtain ⟨hb, (⟨er, rfl, h1, h2, h3⟩ | ⟨t, rfl, h1, h2⟩)⟩ := hO
    · exact ⟨hb, ⟨#[]⟩, er, rfl, Nat.zero_le _, .inr ⟨h1, h2, h3⟩⟩
    · exact ⟨hb, t, 0, rfl, by omega, .inl ⟨rfl, h1⟩⟩
  clear hO
  have hbw2 := hb1.trans (hb2.mono hb1.size)
  have Y2 := Y1.below hb2 nlr
  have S3 := RdSt.new (W := w2) ht hst
  have hb3 := hbw2.alloc hbw2.size (.cells #[.string t, .int .i64 er] 259)
  have Y3 := Y2.alloc (.cells #[.string t, .int .i64 er] 259)
  have hB2 := Y2.lt
  clear Y1 Y2 hb1 hb2 hst hbw2 ht
  have hs3 : (w2.alloc (.cells #[.string t, .int .i64 er] 259)).heap.size = w2.heap.size + 1 := by simp
  have Y4 := Y3.alloc (.cells (PartC 0 0 0 0 (.slice none 0 0)) 234)
  have S4 := S3.alloc (.cells (PartC 0 0 0 0 (.slice none 0 0)) 234)
  have P4 := Blk.new (w2.alloc (.cells #[.string t, .int .i64 er] 259)) (PartC 0 0 0 0 (.slice none 0 0)) 234
  have hb4 := hb3.alloc hb3.size (.cells (PartC 0 0 0 0 (.slice none 0 0)) 234)
  rw [hs3] at P4
  unfold PartC at P4 Y4 S4 hb4
  have h34 : ((w2.alloc (.cells #[.string t, .int .i64 er] 259)).alloc (.cells #[.int .i64 0, .int .i64 0, .int .i64 0, .int .i64 0, .slice none 0 0] 234)).heap.size = w2.heap.size + 2 := by simp
  have hh34 := hid h34
  clear hs3 h34 Y3 S3 hb3
  go_wp2_with fail
  generalize (w2.alloc (.cells #[.string t, .int .i64 er] 259)).alloc (.cells #[.int .i64 0, .int .i64 0, .int .i64 0, .int .i64 0, .slice none 0 0] 234) = w4 at *
  have hw2 : w.heap.size < w2.heap.size := hB2
  have h45 := hh34.out
  clear hh34 hB2 hB0
  generalize w2.heap.size = r at *
  have R4 : Rd3 w w4 r (openS s.data.toList) 0 0 0 (.slice none 0 0) := ⟨S4, P4, Y4, hb4, hw2, by omega⟩
  clear S4 P4 Y4 hb4 hw2 h45
  go_wp2_with fail
  refine (RW.out _ _ _ R4.1).mono ?_
  rintro e w5 ⟨t5, ht5, hts5, rfl, S5, c5⟩
  have ME := magic_eq t5 _ ht5
  have F5 := hid (FL.out _ _ _ S5 (!(t5.toList == [68, 87, 80, 1])) 10 (fun _ => by decide))
  rw [ME] at F5
  have R5 := R4.tch c5 S5
  clear RW R4 ht5 hts5 S5 ME c5
  go_wp2_with fail
  refine F5.out.mono ?_
  rintro e w6 ⟨rfl, S6, c6⟩
  have R6 := R5.tch c6 S6
  have e2 : failS (outB (byteV (magicS (openS s.data.toList))) 1 48) (rawS 1 (magicS (openS s.data.toList))) = s2 s.data.toList := rfl
  have eL : byteV (magicS (openS s.data.toList)) = vL s.data.toList := rfl
  have BY6 := BY.out _ _ _ S6
  rw [e2, eL] at BY6
  replace BY6 := hid BY6
  have bL := byte_le (magicS (openS s.data.toList))
  rw [eL] at bL
  clear F5 R5 S6 c6 e2 eL
  go_wp2_with fail
  refine BY6.out.mono ?_
  rintro e w7 ⟨rfl, S7, c7⟩
  have R7 := R6.tch c7 S7
  have q7 : w7.cell? ⟨r + 1, 0, none⟩ = some (.int .i64 0) := R7.2.1.cell 0
  have f7 := R7.2.1.free 0
  have R8 := R7.set (L' := (vL s.data.toList : Nat)) 0 (.int .i64 (vL s.data.toList : Nat)) rfl
  have e3 : failS (outB (numV (s2 s.data.toList)) 1 1048576) (numS (s2 s.data.toList)) = s3 s.data.toList := rfl
  have eK : numV (s2 s.data.toList) = vK s.data.toList := rfl
  have BN8 := BN.out _ _ _ R8.1 1 1048576
  rw [e3, eK] at BN8
  replace BN8 := hid BN8
  have bK := num_le (s2 s.data.toList)
  rw [eK] at bK
  have R8h := hid R8
  clear BY6 BY R6 c7 S7 R7 R8 e3 eK
  go_upto_region 6 with fail
  generalize (w7.setCell ⟨r + 1, 0, none⟩ (.int .i64 (vL s.data.toList : Nat))) = w8 at *
  clear q7 f7
  go_wp2_with fail
  refine BN8.out.mono ?_
  rintro e w9 ⟨rfl, S9, c9⟩
  have R9 := R8h.out.tch c9 S9
  have q9 : w9.cell? ⟨r + 1, 1, none⟩ = some (.int .i64 0) := R9.2.1.cell 1
  have f9 := R9.2.1.free 1
  have R10 := R9.set (K' := (vK s.data.toList : Nat)) 1 (.int .i64 (vK s.data.toList : Nat)) rfl
  have e4 : failS (outB (numV (s3 s.data.toList)) 0 72057594037927935) (numS (s3 s.data.toList)) = s4 s.data.toList := rfl
  have eN : numV (s3 s.data.toList) = vN s.data.toList := rfl
  have BN10 := BN.out _ _ _ R10.1 0 72057594037927935
  rw [e4, eN] at BN10
  replace BN10 := hid BN10
  have bN := num_le (s3 s.data.toList)
  rw [eN] at bN
  have R10h := hid R10
  clear BN8 R8h c9 S9 R9 R10 e4 eN
  go_upto_region 7 with fail
  generalize (w9.setCell ⟨r + 1, 1, none⟩ (.int .i64 (vK s.data.toList : Nat))) = w10 at *
  clear q9 f9
  go_wp2_with fail
  refine BN10.out.mono ?_
  rintro e w11 ⟨rfl, S11, c11⟩
  have R11 := R10h.out.tch c11 S11
  have q11 : w11.cell? ⟨r + 1, 3, none⟩ = some (.int .i64 0) := R11.2.1.cell 3
  have f11 := R11.2.1.free 3
  have R12 := R11.set (n' := (vN s.data.toList : Nat)) 3 (.int .i64 (vN s.data.toList : Nat)) rfl
  have I12 := IDS.out _ _ _ _ _ _ _ _ _ R12.1 R12.2.1 (by omega)
  clear BN10 R10h c11 S11 R11
  have GS : s4 s.data.toList ≠ none → (wrap64 (8 * (vK s.data.toList : Int))) = 8 * (vK s.data.toList : Int) := fun h => by
    cases h4 : s4 s.data.toList with
    | none => exact absurd h4 h
    | some t =>
      obtain ⟨-, -, -, k2, -⟩ := s4_some h4
      exact IntWalk.wrap64_in _ ⟨by omega, by omega⟩
  have GG := hid (good_start s.data.toList (wrap64 (8 * (vK s.data.toList : Int))) GS)
  have bw : In64 (wrap64 (8 * (vK s.data.toList : Int))) := ⟨by simp only [wrap64]; omega, by simp only [wrap64]; omega⟩
  have bw2 : wrap64 (8 * (vK s.data.toList : Int)) ≤ 9223372036854775807 := by simp only [wrap64]; omega
  have J12 := hid (I12 (wrap64 (8 * (vK s.data.toList : Int))) ⟨by omega, by omega⟩ bw bw2)
  have R12h := hid R12
  have q12 : (w11.setCell ⟨r + 1, 3, none⟩ (.int .i64 (vN s.data.toList : Nat))).cell? ⟨r + 1, 3, none⟩ = some (.int .i64 (vN s.data.toList : Nat)) := R12.2.1.cell 3
  have q13 : (w11.setCell ⟨r + 1, 3, none⟩ (.int .i64 (vN s.data.toList : Nat))).cell? ⟨r + 1, 1, none⟩ = some (.int .i64 (vK s.data.toList : Nat)) := R12.2.1.cell 1
  clear IDS GS I12 R12 bw bw2
  go_upto_region 8 with fail
  generalize (w11.setCell ⟨r + 1, 3, none⟩ (.int .i64 (vN s.data.toList : Nat))) = w12 at *
  clear q11 f11
  go_wp2_with fail
  refine J12.out.mono ?_
  rintro e w13 ⟨vi, rfl, hil, own, S13, c13⟩
  have R13 := hid (R12h.out.tch c13 S13)
  have own2 := own.mono (B' := r + 2) R12h.out.2.2.2.2.2
  obtain ⟨ids, eI⟩ : ∃ x, idsV (wrap64 (8 * (vK s.data.toList : Int))) (s4 s.data.toList) = x := ⟨_, rfl⟩
  obtain ⟨st0, eS⟩ : ∃ x, idsS (wrap64 (8 * (vK s.data.toList : Int))) (vL s.data.toList : Nat) (s4 s.data.toList) = x := ⟨_, rfl⟩
  rw [eI] at own2 hil
  rw [eS] at R13
  rw [eI, eS] at GG
  clear own J12 c13 S13 R12h q12 q13 eI eS
  obtain ⟨pi, ci, rfl⟩ := own2.val
  have hlt13 : ∀ k, (Value.slice pi ids.length ci).ownBlock = some k → k < w13.heap.size := own2.lt'
  obtain ⟨Bn, eB⟩ : ∃ x, w13.heap.size = x := ⟨_, rfl⟩
  have R0 : Hid (ReadRound s.data.toList w r Bn ids (.slice pi ids.length ci) ids.length (.int .i64 (vN s.data.toList : Nat)) (.int .i64 (0 : Nat)) w13) := ⟨_, st0, _, [], 0, rfl, rfl, Nat.zero_le _, nlr, ⟨by omega, by omega⟩, R13.out, OwnN.nil _ _, rfl, own2, by omega, GG⟩
  rw [eB] at hlt13
  have hr2 : r + 2 ≤ Bn := by rw [← eB]; exact R13.out.2.2.2.2.2
  clear R13 own2 GG eB
  go_upto_block 0 with fail
  go_cut [8] (fun left wx => ReadEnd s.data.toList w r ids left wx)
  case first =>
    go_wp2_with fail
    go_loopg [8, 54] ids.length (fun gn left i wr => ReadRound s.data.toList w r Bn ids (.slice pi ids.length ci) gn left i wr)
    case atStart => exact R0.out
    case round =>
      clear R0
      obtain ⟨lv, st, v, zs, j, rfl, rfl, hj, hgn, ⟨hl0, hl1⟩, R, ownz, hzj, ownr, hBw, GJ⟩ := hrel
      by_cases hlt : j < ids.length
      · obtain ⟨gs, off, a, hp, hac, hgs, q0⟩ := ownr.rd.at hlt
        subst hp
        have z0 : decide ((j : Int) < (ids.length : Int)) = true := decide_eq_true (by omega)
        have B1 := BN.out _ _ _ R.1 1 lv
        have eb : failS (outB (numV st) 1 lv) (numS st) = btS 1 lv st := rfl
        rw [eb] at B1
        replace B1 := hid B1
        have hnb := num_le st
        have GN := hid (good_step GJ.out hlt)
        rw [hac] at GN
        generalize numV st = nv at *
        generalize btS 1 lv st = st' at *
        have Rh := hid R
        clear eb hac R GJ
        go_wp2_with fail
        refine B1.out.mono ?_
        rintro e w14 ⟨rfl, S14, c14⟩
        have R14 := Rh.out.tch c14 S14
        have ownz14 := ownz.tch c14 (by omega)
        have ownr14 := ownr.tch c14 (by omega)
        have hs14 := c14.size
        have hne : w14.heap.size ≠ r + 1 := by have := R14.2.2.2.2.2; omega
        have R15 := hid (R14.alloc (.cells #[.int .i64 a, .int .i64 nv] 116))
        have q15 : (w14.alloc (.cells #[.int .i64 a, .int .i64 nv] 116)).cell? ⟨r + 1, 4, none⟩ = some v := R15.out.2.1.cell 4
        have ownz15 := ownz14.alloc (.cells #[.int .i64 a, .int .i64 nv] 116)
        have ownr15 := ownr14.alloc (.cells #[.int .i64 a, .int .i64 nv] 116)
        clear Rh S14 c14 R14 ownz ownr ownz14 ownr14 B1 q0
        go_upto_region 15 with (at_builtin; refine appendN (wr := w14.alloc (.cells #[.int .i64 a, .int .i64 nv] 116)) (b := a) (c := (nv : Int)) _ _ ownz15 (by omega) (by simp; omega) rfl rfl rfl rfl (by simp [go_sem]) ?_; intro v3 w16 ho3 hg3 hnn; have R16 := R15.out.grown hg3 (fun k hk => by have := ownz15.lt k hk; omega); have q16 := R16.2.1.cell 4; have f16 := R16.2.1.free 4; obtain ⟨p3, c3, e3⟩ := ho3.val; rw [show (zs ++ [(a, (nv : Int))]).length = j + 1 by simp [hzj]] at e3; subst e3; have hid16 := hid (And.intro R16 (And.intro hg3 ho3)); clear R16 hg3 ho3)
        obtain ⟨R16, hg3, ho3⟩ := hid16.out
        have R17 := R16.set (v' := .slice p3 (j + 1) c3) 4 (.slice p3 (j + 1) c3) rfl
        have own17 : OwnN (w16.setCell ⟨r + 1, 4, none⟩ (.slice p3 (j + 1) c3)) Bn (.slice p3 (j + 1) c3) (zs ++ [(a, (nv : Int))]) := ho3.tch (Tch.set1 w16 4 _) (by omega)
        have ownr16 := ownr15.grown hg3 (fun k hk e => by have h1 := ownz15.lt k e.symm; have h2 := hlt13 k hk; omega)
        have ownr17 : OwnI (w16.setCell ⟨r + 1, 4, none⟩ (.slice p3 (j + 1) c3)) (r + 2) (.slice (some ⟨gs, off, none⟩) ids.length ci) ids := ownr16.tch (Tch.set1 w16 4 _) (by omega)
        have hs16 : Bn ≤ (w16.setCell ⟨r + 1, 4, none⟩ (.slice p3 (j + 1) c3)).heap.size := by
          have h1 := (below_grown hg3 (B := Bn) (by simp; omega) (fun k hk => ownz15.lt k hk)).size
          simp at h1 ⊢
          omega
        clear R15 ownz15 ownr15 hid16 R16 hg3 ho3 ownr16 q15 q16 f16
        generalize (w16.setCell ⟨r + 1, 4, none⟩ (.slice p3 (j + 1) c3)) = w17 at *
        obtain ⟨sx, ex, X17, hsx, hx⟩ := R17.1
        have q17 : w17.cell? ⟨r, 1, none⟩ = some (.int .i64 ex) := X17.cell 1
        have R17h := hid R17
        clear X17 R17
        rcases hx with ⟨rfl, rfl⟩ | ⟨hx1, hx2, rfl⟩
        · have hlv : 0 ≤ lv - nv := by
            rcases GN.out with ⟨h, -⟩ | ⟨_, _, _, _, _, _, _, _, _, _, _, h, -⟩
            · cases h
            · exact h
          go_wp2_with fail
          go_roundg (ids.length - (j + 1))
          case rel => exact ⟨lv - nv, _, _, zs ++ [(a, (nv : Int))], j + 1, rfl, by go_num, by omega, nlr, ⟨hlv, by omega⟩, R17h.out, own17, by simp [hzj], ownr17, hs16, GN⟩
          case measure => omega
        · have zx : (ex != 0) = true := by simp; omega
          go_wp2_with fail
          go_meet
          case rel => exact ⟨lv - nv, none, _, zs ++ [(a, (nv : Int))], rfl, ⟨by omega, by omega⟩, R17h.out, own17.mono hr2, by simp; omega, .inl ⟨rfl, good_none GN.out⟩⟩
      · obtain rfl : j = ids.length := by omega
        have z0 : decide ((ids.length : Int) < (ids.length : Int)) = false := decide_eq_false (by omega)
        have P : Hid (ReadEnd s.data.toList w r ids (.int .i64 lv) wr) := ⟨lv, st, v, zs, rfl, ⟨by omega, by omega⟩, R, ownz.mono hr2, by omega, .inr GJ⟩
        clear R ownz ownr GJ
        go_wp2_with fail
        go_meet
        case rel => exact P.out
  case rest =>
    clear R0
    obtain ⟨lv, st, v, zs, rfl, blv, R, ownz, hzl, GE⟩ := hcut
    obtain ⟨sx, ex, X17, hsx, hx⟩ := R.1
    have q17 : wc.cell? ⟨r, 0, none⟩ = some (.string sx) := X17.cell 0
    clear X17
    have F1 := hid (FL.out _ _ _ R.1 (!sx.toList.isEmpty) 11 (fun _ => by decide))
    have Rh := hid R
    clear R
    have FIN := hid (fin_read GE.out sx (by rcases hx with ⟨-, h⟩ | ⟨-, -, h⟩ <;> simp [h]))
    go_wp2_with fail
    refine F1.out.mono ?_
    rintro e w18 ⟨rfl, S18, c18⟩
    have R18 := Rh.out.tch c18 S18
    have own18 := ownz.tch (B := r + 2) c18 (by omega)
    have F2 := hid (FL.out _ _ _ S18 (decide (0 < lv)) 10 (fun _ => by decide))
    have R18h := hid R18
    clear Rh F1 S18 c18 R18 ownz GE hx
    go_wp2_with fail
    refine F2.out.mono ?_
    rintro e w19 ⟨rfl, S19, c19⟩
    have R19 := R18h.out.tch c19 S19
    have own19 := own18.tch (B := r + 2) c19 (by omega)
    obtain ⟨sy, ey, X19, hsy, hy⟩ := S19
    have q19 : w19.cell? ⟨r, 1, none⟩ = some (.int .i64 ey) := X19.cell 1
    have hbw := R19.2.2.2.1
    have hrw := R19.2.2.2.2.1
    clear F2 X19 c19 own18 R18h
    rcases hy with ⟨rfl, hy⟩ | ⟨hy1, hy2, hy⟩
    · have FG := hid (FIN.out.2 _ hy)
      have hz2 : 2 * zs.length ≤ s.size := by
        have h := encB_len2 (vL s.data.toList : Nat) (vK s.data.toList : Nat) zs
        rw [← FG.out.1, size_list] at h
        exact h
      have LD0 := hid (fun W v (q : RdN W v zs) => pl_load 2 (vL s.data.toList : Nat) W FG.out.2.2.1 FG.out.2.1 q (Nl.Roll.nb2 (rollB_iff.1 FG.out.2.1)) (by omega))
      have LG := hid (fun W q g h (x : PoolV W q g h 2 (vL s.data.toList : Nat) zs.length zs) => p_Light (vK s.data.toList : Nat) FG.out.2.2.2.1 x (by omega))
      have q0 : w19.cell? ⟨r + 1, 0, none⟩ = some (.int .i64 (vL s.data.toList : Nat)) := R19.2.1.cell 0
      have q4 : w19.cell? ⟨r + 1, 4, none⟩ = some v := R19.2.1.cell 4
      obtain ⟨p3, c3, rfl⟩ := own19.val
      have R19h := hid R19
      have LD := hid (LD0.out w19 _ own19.rd)
      clear FIN hy LD0 R19
      go_wp2_with fail
      refine LD.out.mono ?_
      rintro e w20 ⟨q, g, h, rfl, d20, -, -, -, hb20⟩
      have R20 := R19h.out.below hb20
      have own20 := own19.below hb20 nlr
      have LG20 := LG.out _ _ _ _ d20
      have q20 : w20.cell? ⟨r + 1, 1, none⟩ = some (.int .i64 (vK s.data.toList : Nat)) := R20.2.1.cell 1
      have R20h := hid R20
      clear LD LG R19h own19 d20 R20 hb20 q0 q4
      by_cases hlt : lightB (vL s.data.toList : Nat) zs (capV (sumL zs) (vK s.data.toList : Nat)) = true
      · rw [hlt] at LG20
        have LH := hid LG20
        have P : Hid (loadE 2 (vL s.data.toList : Nat) (vK s.data.toList : Nat) zs = 0) := by
          obtain ⟨h1, h2, h3, h4, h5, -⟩ := FG.out
          show _ = _
          unfold loadE
          rw [h2, h3, h4, hlt]
          simp
          omega
        clear LG20 hlt
        go_wp2_with fail
        refine LH.out.mono ?_
        rintro e w21 ⟨rfl, hb21⟩
        have R21 := R20h.out.below hb21
        have own21 := own20.below hb21 nlr
        have Y := R21.2.2.1
        have y0 : w21.cell? ⟨w.heap.size, 0, none⟩ = some (.int .i64 0) := Y.cell 0
        have y1 : w21.cell? ⟨w.heap.size, 1, none⟩ = some (.int .i64 0) := Y.cell 1
        have y2 : w21.cell? ⟨w.heap.size, 2, none⟩ = some (.int .i64 0) := Y.cell 2
        have y3 : w21.cell? ⟨w.heap.size, 3, none⟩ = some (.int .i64 0) := Y.cell 3
        have y4 : w21.cell? ⟨w.heap.size, 4, none⟩ = some (.slice none 0 0) := Y.cell 4
        have g0 := Y.free 0
        have g1 := Y.free 1
        have g2 := Y.free 2
        have g3 := Y.free 3
        have g4 := Y.free 4
        have X := R21.2.1
        have x0 : w21.cell? ⟨r + 1, 0, none⟩ = some (.int .i64 (vL s.data.toList : Nat)) := X.cell 0
        have x1 : w21.cell? ⟨r + 1, 1, none⟩ = some (.int .i64 (vK s.data.toList : Nat)) := X.cell 1
        have x2 : w21.cell? ⟨r + 1, 2, none⟩ = some (.int .i64 0) := X.cell 2
        have x3 : w21.cell? ⟨r + 1, 3, none⟩ = some (.int .i64 (vN s.data.toList : Nat)) := X.cell 3
        have x4 : w21.cell? ⟨r + 1, 4, none⟩ = some (.slice p3 zs.length c3) := X.cell 4
        have hend := hid (set5 w21 (.int .i64 (vL s.data.toList : Nat)) (.int .i64 (vK s.data.toList : Nat)) (.int .i64 0) (.int .i64 (vN s.data.toList : Nat)) (.slice p3 zs.length c3) R21.2.2.2.1 (own21.mono (show w.heap.size + 1 ≤ r + 2 by omega)) Y)
        clear X Y q20 R20h LH own20 own21 R21
        go_wp2_with fail
        obtain ⟨e1, -, -, -, e5, e6, -⟩ := FG.out
        refine ret_parts hend.out.2.2 rfl rfl rfl ?_
        exact ⟨hend.out.1, .inr ⟨_, _, zs, _, by rw [e6]; rfl, P.out, e1, hend.out.2.1, hz2⟩⟩
      · simp only [Bool.not_eq_true] at hlt
        rw [hlt] at LG20
        have LH := hid LG20
        have P : Hid (Dead s.data.toList) := by
          obtain ⟨-, -, -, -, -, -, h6⟩ := FG.out
          refine h6 ?_
          unfold loadE
          rw [hlt]
          intro h
          split at h
          · cases h
          · split at h
            · cases h
            · simp at h
        clear LG20 hlt
        go_wp2_with fail
        refine LH.out.mono ?_
        rintro e w21 ⟨rfl, hb21⟩
        have R21 := R20h.out.below hb21
        have Y := R21.2.2.1
        have y0 : w21.cell? ⟨w.heap.size, 0, none⟩ = some (.int .i64 0) := Y.cell 0
        have y1 : w21.cell? ⟨w.heap.size, 1, none⟩ = some (.int .i64 0) := Y.cell 1
        have y2 : w21.cell? ⟨w.heap.size, 2, none⟩ = some (.int .i64 0) := Y.cell 2
        have y3 : w21.cell? ⟨w.heap.size, 3, none⟩ = some (.int .i64 0) := Y.cell 3
        have y4 : w21.cell? ⟨w.heap.size, 4, none⟩ = some (.slice none 0 0) := Y.cell 4
        have g0 := Y.free 0
        have g1 := Y.free 1
        have g2 := Y.free 2
        have g3 := Y.free 3
        have g4 := Y.free 4
        have hend := hid (set5 (v := .slice none 0 0) (zs := []) w21 (.int .i64 0) (.int .i64 0) (.int .i64 0) (.int .i64 0) (.slice none 0 0) R21.2.2.2.1 (OwnN.nil _ _) Y)
        clear Y q20 R20h LH own20 R21
        go_wp2_with fail
        refine ret_parts hend.out.2.2 rfl rfl rfl ?_
        exact ⟨hend.out.1, .inl ⟨_, rfl, by decide, by decide, P.out⟩⟩
    · have hd := hid (FIN.out.1 hy)
      have zy : (ey != 0) = true := by simp; omega
      have Y := R19.2.2.1
      have y0 : w19.cell? ⟨w.heap.size, 0, none⟩ = some (.int .i64 0) := Y.cell 0
      have y1 : w19.cell? ⟨w.heap.size, 1, none⟩ = some (.int .i64 0) := Y.cell 1
      have y2 : w19.cell? ⟨w.heap.size, 2, none⟩ = some (.int .i64 0) := Y.cell 2
      have y3 : w19.cell? ⟨w.heap.size, 3, none⟩ = some (.int .i64 0) := Y.cell 3
      have y4 : w19.cell? ⟨w.heap.size, 4, none⟩ = some (.slice none 0 0) := Y.cell 4
      have g0 := Y.free 0
      have g1 := Y.free 1
      have g2 := Y.free 2
      have g3 := Y.free 3
      have g4 := Y.free 4
      have hend := hid (set5 (v := .slice none 0 0) (zs := []) w19.drew (.int .i64 0) (.int .i64 0) (.int .i64 0) (.int .i64 0) (.slice none 0 0) (below_drewN R19.2.2.2.1 1) (OwnN.nil _ _) (Y.drewN 1))
      clear FIN hy Y R19 own19
      go_wp2_with fail
      go_region
      all_goals
        go_wp2_with fail
        refine ret_parts hend.out.2.2 rfl rfl rfl ?_
        exact ⟨hend.out.1, .inl ⟨_, rfl, hy1, hy2, hd.out⟩⟩
end Go.Proofs.YtdnlejboijkcfaaGreatDoor
