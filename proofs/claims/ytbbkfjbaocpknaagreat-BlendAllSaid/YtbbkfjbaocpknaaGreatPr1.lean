/- press.run: what it turns; a pool and a told function in memory. -/
import Derived.Test.YtbbkfjbaocpknaaGreatFold6
import Derived.Deep.LoopGhost
namespace Go.Proofs.YtbbkfjbaocpknaaGreat
open Go.RowKit Nl

/-- w' is w but for the blocks of S, and new blocks. -/
structure ChB (S : Nat → Prop) (w w' : World) : Prop where
  os : w'.os = w.os
  tape : w'.tape = w.tape
  output : w'.output = w.output
  size : w.heap.size ≤ w'.heap.size
  block : ∀ k, k < w.heap.size → ¬ S k → w'.heap[k]? = w.heap[k]?
theorem ChB.refl (S : Nat → Prop) (w : World) : ChB S w w := ⟨rfl, rfl, rfl, Nat.le_refl _, fun _ _ _ => rfl⟩
theorem ChB.trans {S S' : Nat → Prop} {w w' w'' : World} (h : ChB S w w') (k : ChB S' w' w'') (hs : ∀ j, j < w.heap.size → S' j → S j) : ChB S w w'' :=
  ⟨k.os.trans h.os, k.tape.trans h.tape, k.output.trans h.output, Nat.le_trans h.size k.size, fun j hj hn => (k.block j (Nat.lt_of_lt_of_le hj h.size) (fun e => hn (hs j hj e))).trans (h.block j hj hn)⟩
theorem ChB.of_below {S : Nat → Prop} {w w' : World} (h : Below w.heap.size w w') : ChB S w w' := ⟨h.os, h.tape, h.output, h.size, fun k hk _ => h.block k hk⟩
theorem ChB.mono {S S' : Nat → Prop} {w w' : World} (h : ChB S w w') (hs : ∀ k, k < w.heap.size → S k → S' k) : ChB S' w w' := ⟨h.os, h.tape, h.output, h.size, fun k hk hn => h.block k hk (fun e => hn (hs k hk e))⟩
theorem ChB.below {S : Nat → Prop} {w w' : World} {B : Nat} (h : ChB S w w') (hS : ∀ k, k < w.heap.size → S k → B ≤ k) (hB : B ≤ w.heap.size) : Below B w w' :=
  ⟨h.os, h.tape, h.output, h.size, fun k hk => h.block k (by omega) (fun e => by have := hS k (by omega) e; omega)⟩
def PB (q g h k : Nat) : Prop := k = q ∨ k = g ∨ k = h
def AB (a b : Nat) (v : Value) (k : Nat) : Prop := k = a ∨ k = b ∨ v.ownBlock = some k
def TB (c : Nat) (o : Value) (k : Nat) : Prop := k = c ∨ o.ownBlock = some k
theorem ChB.of_tch {q g h : Nat} {w w' : World} (t : Tch g h w w') : ChB (PB q g h) w w' := ⟨t.os, t.tape, t.output, t.size, fun k hk hn => t.block k hk (fun e => hn (.inr (.inl e))) (fun e => hn (.inr (.inr e)))⟩
theorem ChB.of_ag {a b : Nat} {v : Value} {w w' : World} (t : Tch3 a b v w w') : ChB (AB a b v) w w' := ⟨t.os, t.tape, t.output, t.size, fun k hk hn => t.block k hk (fun e => hn (.inl e)) (fun e => hn (.inr (.inl e))) (fun e => hn (.inr (.inr e)))⟩
theorem ChB.of_told {c : Nat} {o : Value} {w w' : World} (t : Tch3 c c o w w') : ChB (TB c o) w w' := ⟨t.os, t.tape, t.output, t.size, fun k hk hn => t.block k hk (fun e => hn (.inl e)) (fun e => hn (.inl e)) (fun e => hn (.inr e))⟩
/-- Apart. -/
def D2 (X Y : Nat → Prop) : Prop := ∀ k, X k → ¬ Y k
theorem D2.left {X X' Y : Nat → Prop} {n : Nat} (d : D2 X Y) (hx : ∀ k, X' k → X k ∨ n ≤ k) (hy : ∀ k, Y k → k < n) : D2 X' Y := fun k h1 h2 => by
  rcases hx k h1 with h | h
  · exact d k h h2
  · have := hy k h2; omega
theorem D2.right {X Y Y' : Nat → Prop} {n : Nat} (d : D2 X Y) (hy : ∀ k, Y' k → Y k ∨ n ≤ k) (hx : ∀ k, X k → k < n) : D2 X Y' := fun k h1 h2 => by
  rcases hy k h2 with h | h
  · exact d k h1 h
  · have := hx k h1; omega
theorem ChB.off {S X : Nat → Prop} {w w' : World} (h : ChB S w w') (d : D2 X S) : ∀ k, k < w.heap.size → X k → w'.heap[k]? = w.heap[k]? := fun k hk hx => h.block k hk (d k hx)
theorem D2.symm {X Y : Nat → Prop} (d : D2 X Y) : D2 Y X := fun k h1 h2 => d k h2 h1
theorem PB.new {q g h h' n : Nat} (hh : h' = h ∨ n ≤ h') : ∀ k, PB q g h' k → PB q g h k ∨ n ≤ k := fun k hk => by
  rcases hk with e | e | e
  · exact .inl (.inl e)
  · exact .inl (.inr (.inl e))
  · rcases hh with h1 | h1
    · exact .inl (.inr (.inr (e.trans h1)))
    · exact .inr (by omega)
theorem AB.new {a b : Nat} {v v' : Value} {w : World} (f : Fr w v v') : ∀ k, AB a b v' k → AB a b v k ∨ w.heap.size ≤ k := fun k hk => by
  rcases hk with e | e | e
  · exact .inl (.inl e)
  · exact .inl (.inr (.inl e))
  · rcases f with h | ⟨j, h, hj⟩
    · exact .inl (.inr (.inr (by rw [← h]; exact e)))
    · rw [h] at e; cases e; exact .inr hj
theorem TB.new {c : Nat} {o o' : Value} {w : World} (f : Fr w o o') : ∀ k, TB c o' k → TB c o k ∨ w.heap.size ≤ k := fun k hk => by
  rcases hk with e | e
  · exact .inl (.inl e)
  · rcases f with h | ⟨j, h, hj⟩
    · exact .inl (.inr (by rw [← h]; exact e))
    · rw [h] at e; cases e; exact .inr hj
theorem PoolV.ltB {w : World} {q g h m : Nat} {kind l : Int} {zs : List Nd} (d : PoolV w q g h kind l m zs) : ∀ k, PB q g h k → k < w.heap.size := fun k hk => by
  obtain ⟨h1, h2, h3, _⟩ := d.lt
  rcases hk with e | e | e <;> omega
theorem AgL.ltB {w : World} {a b : Nat} {v : Value} {l : List Int} (d : AgL w a b v l) : ∀ k, AB a b v k → k < w.heap.size := fun k hk => by
  obtain ⟨h1, h2, h3⟩ := d.lt
  rcases hk with e | e | e
  · omega
  · omega
  · exact h3 k e
theorem PoolV.keepB {w w' : World} {q g h m : Nat} {kind l : Int} {zs : List Nd} (d : PoolV w q g h kind l m zs) (hk : ∀ k, k < w.heap.size → PB q g h k → w'.heap[k]? = w.heap[k]?) : PoolV w' q g h kind l m zs := by
  obtain ⟨l1, l2, l3, _⟩ := d.lt
  have e1 := hk q l1 (.inl rfl)
  have e2 := hk g l2 (.inr (.inl rfl))
  have e3 := hk h l3 (.inr (.inr rfl))
  rcases d with ⟨k, hb, h1, h2, cs, ⟨u, t, d, v⟩, e⟩ | ⟨k, hb, h1, h2, b, xs, ⟨⟨cap, rest, d1, d2, d3⟩, v⟩, r⟩
  · exact .inl ⟨k, hb.keep e1, h1, h2, cs, ⟨u, t, ⟨d.1.keep e2, d.2.1.keep e3, d.2.2⟩, v⟩, e⟩
  · exact .inr ⟨k, hb.keep e1, h1, h2, b, xs, ⟨⟨cap, rest, d1.keep e2, d2.keep e3, d3⟩, v⟩, r⟩
theorem AgL.keepB {w w' : World} {a b : Nat} {v : Value} {l : List Int} (d : AgL w a b v l) (hk : ∀ k, k < w.heap.size → AB a b v k → w'.heap[k]? = w.heap[k]?) : AgL w' a b v l := d.keep fun k h1 h2 => hk k h1 h2

/-- What becomes of a told function's state. -/
def ToldPost (I : List Int → Value → World → Prop) (c : Nat) (done : List Int) (o : Value) (x : Int) (w : World) (e : Ending) (w' : World) : Prop :=
  e = .returned (.tuple #[]) ∧ ∃ o', I (done ++ [x]) o' w' ∧ Fr w o o' ∧ Tch3 c c o w w'
/-- A function that is told each fold: what it has been told lies in the box c. -/
structure Told (F c : Nat) (I : List Int → Value → World → Prop) : Prop where
  keep : ∀ {done : List Int} {o : Value} {w w' : World}, I done o w → (∀ k, k < w.heap.size → TB c o k → w'.heap[k]? = w.heap[k]?) → I done o w'
  lt : ∀ {done : List Int} {o : Value} {w : World}, I done o w → ∀ k, TB c o k → k < w.heap.size
  ent : ∀ (args : Array Value) (w : World), (callFunc F args).run Tryz.prog w = .ok (.enter F args) w
  call : ∀ (done : List Int) (o : Value) (w : World) (x : Int), I done o w → done.length < 1000000 → In64 x → Calls Tryz.prog F #[.int .i64 x, .pointer (some ⟨c, 0, none⟩)] w (ToldPost I c done o x w)

theorem agl_ok {w : World} {a b : Nat} {v : Value} {l : List Int} (d : AgL w a b v l) : Ord l ∧ ∀ x ∈ l, 1 ≤ x ∧ In64 x := by
  obtain ⟨hs, _, _, _, o, h⟩ := d; exact ⟨o, h⟩
/-- A pool, an agenda and what was told, side by side. -/
structure St (I : List Int → Value → World → Prop) (q g h0 c a b m : Nat) (o0 : Value) (kind l : Int) (w : World) (zs : List Nd) (ag done : List Int) (h : Nat) (v o : Value) (wr : World) : Prop where
  pool : PoolV wr q g h kind l m zs
  agenda : AgL wr a b v ag
  told : I done o wr
  hfr : h = h0 ∨ w.heap.size ≤ h
  afr : ∀ k, AB a b v k → w.heap.size ≤ k
  ofr : Fr w o0 o
  d1 : D2 (PB q g h) (AB a b v)
  d2 : D2 (PB q g h) (TB c o)
  d3 : D2 (AB a b v) (TB c o)
  ch : ChB (fun k => PB q g h0 k ∨ TB c o0 k) w wr
section
variable {I : List Int → Value → World → Prop} {q g h0 c a b m F : Nat} {o0 : Value} {kind l : Int} {w : World} {zs : List Nd} {ag done : List Int} {h : Nat} {v o : Value} {wr w' : World}
theorem St.below (T : Told F c I) (s : St I q g h0 c a b m o0 kind l w zs ag done h v o wr) (hb : Below wr.heap.size wr w') : St I q g h0 c a b m o0 kind l w zs ag done h v o w' :=
  ⟨s.pool.below hb (Nat.le_refl _), s.agenda.below hb (Nat.le_refl _), T.keep s.told (fun k hk _ => hb.block k hk), s.hfr, s.afr, s.ofr, s.d1, s.d2, s.d3, s.ch.trans (ChB.of_below (S := fun _ => False) hb) (fun _ _ h => h.elim)⟩
theorem St.agd (T : Told F c I) (s : St I q g h0 c a b m o0 kind l w zs ag done h v o wr) {v' : Value} {ag' : List Int} (t : Tch3 a b v wr w') (d' : AgL w' a b v' ag') (f : Fr wr v v') : St I q g h0 c a b m o0 kind l w zs ag' done h v' o w' := by
  have hc := ChB.of_ag t
  refine ⟨s.pool.keepB (hc.off s.d1), d', T.keep s.told (hc.off s.d3.symm), s.hfr, fun k hk => ?_, s.ofr, s.d1.right (AB.new f) s.pool.ltB, s.d2, s.d3.left (AB.new f) (T.lt s.told), s.ch.trans hc (fun j hj e => ?_)⟩
  · rcases AB.new f k hk with e | e
    · exact s.afr k e
    · exact Nat.le_trans s.ch.size e
  · have := s.afr j e; omega
theorem St.pl (T : Told F c I) (s : St I q g h0 c a b m o0 kind l w zs ag done h v o wr) {h' : Nat} {zs' : List Nd} (t : Tch g h wr w') (d' : PoolV w' q g h' kind l m zs') (hh : h' = h ∨ wr.heap.size ≤ h') : St I q g h0 c a b m o0 kind l w zs' ag done h' v o w' := by
  have hc := ChB.of_tch (q := q) t
  refine ⟨d', s.agenda.keepB (hc.off s.d1.symm), T.keep s.told (hc.off s.d2.symm), ?_, s.afr, s.ofr, s.d1.left (PB.new hh) s.agenda.ltB, s.d2.left (PB.new hh) (T.lt s.told), s.d3, s.ch.trans hc (fun j hj e => ?_)⟩
  · rcases hh with e | e
    · rw [e]; exact s.hfr
    · exact .inr (Nat.le_trans s.ch.size e)
  · rcases PB.new s.hfr j e with e | e
    · exact .inl e
    · omega
theorem St.tl (_T : Told F c I) (s : St I q g h0 c a b m o0 kind l w zs ag done h v o wr) {o' : Value} {done' : List Int} (t : Tch3 c c o wr w') (i' : I done' o' w') (f : Fr wr o o') : St I q g h0 c a b m o0 kind l w zs ag done' h v o' w' := by
  have hc := ChB.of_told t
  refine ⟨s.pool.keepB (hc.off s.d2), s.agenda.keepB (hc.off s.d3), i', s.hfr, s.afr, s.ofr.trans f s.ch.size, s.d1, s.d2.right (TB.new f) s.pool.ltB, s.d3.right (TB.new f) s.agenda.ltB, s.ch.trans hc (fun j hj e => ?_)⟩
  rcases TB.new s.ofr j e with e | e
  · exact .inr e
  · omega
end

/-- What has come of a run that is under way. -/
def RunRel (I : List Int → Value → World → Prop) (q g h0 c a b m : Nat) (o0 : Value) (kind l most : Int) (zs0 : List Nd) (w : World) (n : Nat) (wr : World) : Prop :=
  ∃ (zs : List Nd) (ag done : List Int) (h : Nat) (v o : Value), AgInv l most zs0 zs ag done ∧ (4 * phi zs).toNat + ag.length ≤ n ∧ zs.length ≤ zs0.length ∧ (done.length : Int) + phi zs ≤ phi zs0 ∧ St I q g h0 c a b m o0 kind l w zs ag done h v o wr
def RunPost (I : List Int → Value → World → Prop) (q g h0 c m : Nat) (o0 : Value) (kind l : Int) (R : List Nd × List Int) (w : World) (e : Ending) (w' : World) : Prop :=
  e = .returned (.tuple #[]) ∧ ∃ h o, PoolV w' q g h kind l m R.1 ∧ (h = h0 ∨ w.heap.size ≤ h) ∧ I R.2 o w' ∧ Fr w o0 o ∧ D2 (PB q g h) (TB c o) ∧ ChB (fun k => PB q g h0 k ∨ TB c o0 k) w w'

set_option maxRecDepth 100000 in
set_option maxHeartbeats 400000 in
theorem press_run {I : List Int → Value → World → Prop} {w : World} {q g h c m F : Nat} {o : Value} {kind l : Int} {zs : List Nd} (k : Int) (T : Told F c I) (d : PoolV w q g h kind l m zs) (hm : m ≤ 100000) (hz : zs.length + 1 ≤ m) (hz2 : zs.length ≤ 2000) (bk : In64 k) (hI : I [] o w) (hd : D2 (PB q g h) (TB c o)) :
    Calls Tryz.prog 95 #[.pointer (some ⟨q, 0, none⟩), .int .i64 k, .func (.func F) #[] #[.pointer (some ⟨c, 0, none⟩)]] w (RunPost I q g h c m o kind l (runR l (capV (sumL zs) k) zs) w) := by
  have hroll := d.roll
  have hsum := hroll.sum
  have C0 := fun W : World => f_cap (sumL zs) k W ⟨by omega, by omega⟩ bk
  obtain ⟨most, emost⟩ : ∃ x, capV (sumL zs) k = x := ⟨_, rfl⟩
  simp only [emost] at C0
  rw [emost]
  have C := hid C0
  clear emost C0
  have P := hid (f_parents d hm (by omega))
  have IN := parents_in hroll
  have N := hid (fun W v (x : RdI W v (parentsL zs)) => f_new W x (by have := parents_len zs; omega) IN)
  go_enter Tryz.func95, Tryz.ntmps95
  go_wp2_with fail
  refine (pl_total d).mono ?_
  rintro e w1 ⟨rfl, rfl⟩
  go_wp2_with fail
  refine (C.out w).mono ?_
  rintro e w1 ⟨rfl, rfl⟩
  go_wp2_with fail
  refine P.out.mono ?_
  rintro e w1 ⟨v1, rfl, ⟨hr1, hv1⟩, hb1⟩
  go_wp2_with fail
  refine (N.out w1 _ hr1).mono ?_
  rintro e w2 ⟨a, b, v, rfl, da, ha, hb, hv, hb2⟩
  have hs1 := hb1.size
  have e0 : agendaL (parentsL zs) = parentsL zs := agendaL_self (parents_ord zs) (fun x hx => by obtain ⟨y, _, h1, h2⟩ := parents_mem.1 hx; omega)
  rw [e0] at da
  have hbw := hb1.trans (hb2.mono hs1)
  have hph := phi_le hroll
  have hph0 := phi_nonneg zs
  have hl48 := hroll.l2
  have hpl := parents_len zs
  have S0 : St I q g h c a b m o kind l w zs (parentsL zs) [] h v o w2 := by
    have hA : ∀ k, AB a b v k → w.heap.size ≤ k := fun k hk => by
      rcases hk with e | e | e
      · omega
      · omega
      · have := hv k e; omega
    exact ⟨d.below hbw (Nat.le_refl _), da, T.keep hI (fun k hk _ => hbw.block k hk), .inl rfl, hA, Fr.refl _ _,
      fun k h1 h2 => by have := hA k h2; have := d.ltB k h1; omega, hd, fun k h1 h2 => by have := hA k h1; have := T.lt hI k h2; omega, ChB.of_below hbw⟩
  have R0 : Hid (RunRel I q g h c a b m o kind l most zs w ((4 * phi zs).toNat + (parentsL zs).length) w2) := ⟨zs, _, [], h, v, o, AgInv.start hroll, Nat.le_refl _, Nat.le_refl _, by simp, S0⟩
  have hphb : phi zs ≤ 96000 := by
    have : l * (zs.length : Int) ≤ 48 * (zs.length : Int) := Int.mul_le_mul_of_nonneg_right hl48 (by omega)
    omega
  have hn0 : (4 * phi zs).toNat + (parentsL zs).length ≤ 400000 := by omega
  generalize (4 * phi zs).toNat + (parentsL zs).length = n0 at *
  clear S0 da hv e0 hv1 hr1 P N IN hb1 hb2 hbw hph hpl C hsum hI hd d
  go_wp2_with fail
  go_loopg [8] n0 (fun n _ wr => n ≤ n0 ∧ RunRel I q g h c a b m o kind l most zs w n wr)
  case atStart => exact ⟨Nat.le_refl _, R0.out⟩
  case round =>
    obtain ⟨hgk, zs1, ag, done, h1, v1, o1, hinv, hms, hzl, hdl, st⟩ := hrel
    have HI := hid hinv
    have hp0 := phi_nonneg zs1
    have Ln := hid (agl_length st.agenda)
    cases ag with
    | nil =>
      have hl0 : ([] : List Int).length = 0 := rfl
      rw [hl0] at Ln
      have PP : Hid (RunPost I q g h c m o kind l (runR l most zs) w (.returned (.tuple #[])) wr) := by
        show RunPost _ _ _ _ _ _ _ _ _ _ _ _ _
        rw [HI.out.done]
        exact ⟨rfl, h1, o1, st.pool, st.hfr, st.told, st.ofr, st.d2, st.ch⟩
      clear hl0 hinv st
      go_wp2_with fail
      refine Ln.out.mono ?_
      rintro e w3 ⟨rfl, rfl⟩
      go_wp2_with fail
      go_end0
      exact PP.out
    | cons y t =>
      have hyl : (y :: t).length = t.length + 1 := rfl
      rw [hyl] at Ln hms
      have by0 := ((agl_ok st.agenda).2 y (List.mem_cons_self ..)).2
      have Pp := hid (ag_pop st.agenda (by omega))
      have Rd := hid (fun W (x : PoolV W q g h1 kind l m zs1) => f_ready y most x hm by0)
      obtain ⟨R, eR⟩ : ∃ R, readyB l zs1 y most = R := ⟨_, rfl⟩
      rw [eR] at Rd
      have ST := hid st
      cases R
      · have HI2 := hid (hinv.skip eR)
        clear hyl eR hinv st
        go_wp2_with fail
        refine Ln.out.mono ?_
        rintro e w3 ⟨rfl, rfl⟩
        go_wp2_with fail
        refine Pp.out.mono ?_
        rintro e w3 ⟨rfl, v3, d3, e3, t3⟩
        have st3 := ST.out.agd T t3 d3 (.inl e3)
        go_wp2_with fail
        refine (Rd.out w3 st3.pool).mono ?_
        rintro e w4 ⟨rfl, hb4⟩
        have st4 := st3.below T hb4
        have ST4 := hid st4
        clear st3 st4 d3 t3 e3
        go_wp2_with fail
        go_roundg ((4 * phi zs1).toNat + t.length)
        case rel => exact ⟨by omega, zs1, t, done, h1, v3, o1, HI2.out, Nat.le_refl _, hzl, hdl, ST4.out⟩
        case measure => omega
      · have HI2 := hid (hinv.fold eR)
        have hph2 := phi_fold hinv.1 eR
        have hlen2 := (fold_facts hinv.1 y).2.2.1
        obtain ⟨kb1, kb2⟩ := kids_bound (ready_kids eR)
        have hp2 := phi_nonneg (foldDo l zs1 y).1
        have ho := hinv.2.1.tail
        have hlp1 := putL_len ho (2 * y)
        have hlp2 := putL_len (putL_ord ho (2 * y)) (2 * y + 1)
        have hlp3 := putL_len (putL_ord (putL_ord ho (2 * y)) (2 * y + 1)) (y / 2)
        have Dd := hid (fun W (x : PoolV W q g h1 kind l m zs1) => f_do m y x (Nat.le_refl _) (by omega) hm by0)
        clear hyl eR hinv st ho
        generalize foldDo l zs1 y = FD at *
        obtain ⟨zs2, n2⟩ := FD
        simp only at HI2 hph2 hlen2 hp2
        go_wp2_with fail
        refine Ln.out.mono ?_
        rintro e w3 ⟨rfl, rfl⟩
        go_wp2_with fail
        refine Pp.out.mono ?_
        rintro e w3 ⟨rfl, v3, d3, e3, t3⟩
        have st3 := ST.out.agd T t3 d3 (.inl e3)
        go_wp2_with fail
        refine (Rd.out w3 st3.pool).mono ?_
        rintro e w4 ⟨rfl, hb4⟩
        have st4 := st3.below T hb4
        clear st3 d3 t3 e3 hb4
        go_wp2_with fail
        refine (Dd.out w4 st4.pool).mono ?_
        rintro e w5 ⟨rfl, h5, d5, hh5, t5⟩
        have st5 := st4.pl T t5 d5 hh5
        have Tc := hid (T.call done o1 w5 y st5.told (by omega) by0)
        have hent := T.ent
        clear st4 d5 t5 hh5
        go_wp2_with fail
        refine Tc.out.mono ?_
        rintro e w6 ⟨rfl, o6, i6, f6, t6⟩
        have st6 := st5.tl T t6 i6 f6
        have P1 := hid (ag_put (2 * y) st6.agenda ⟨by omega, by omega⟩ (by omega))
        clear st5 t6 i6 f6 hent Tc
        go_wp2_with fail
        refine P1.out.mono ?_
        rintro e w7 ⟨rfl, v7, d7, f7, t7⟩
        have st7 := st6.agd T t7 d7 f7
        have P2 := hid (ag_put (2 * y + 1) st7.agenda ⟨by omega, by omega⟩ (by omega))
        clear st6 d7 f7 t7 P1
        go_wp2_with fail
        refine P2.out.mono ?_
        rintro e w8 ⟨rfl, v8, d8, f8, t8⟩
        have st8 := st7.agd T t8 d8 f8
        have P3 := hid (ag_put (y / 2) st8.agenda ⟨by omega, by omega⟩ (by omega))
        clear st7 d8 f8 t8 P2
        go_wp2_with fail
        refine P3.out.mono ?_
        rintro e w9 ⟨rfl, v9, d9, f9, t9⟩
        have st9 := st8.agd T t9 d9 f9
        have ST9 := hid st9
        clear st8 d9 f9 t9 P3 st9
        go_wp2_with fail
        go_roundg ((4 * phi zs2).toNat + (putL (putL (putL t (2 * y)) (2 * y + 1)) (y / 2)).length)
        case rel => exact ⟨by omega, zs2, _, done ++ [y], h5, v9, o6, HI2.out, Nat.le_refl _, by omega, by simp; omega, ST9.out⟩
        case measure => omega
end Go.Proofs.YtbbkfjbaocpknaaGreat
