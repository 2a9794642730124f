/- Texts laid together. -/
import Derived.Test.YtdnlejboijkcfaaGreatDoorP09
import Derived.Deep.LoopGhost
/- Texts laid together: Pr1, Pr2, Pr3, Pr4, Pr5, Pr6, PressMath3. -/
/- press.run: what it turns; a pool and a told function in memory. -/
namespace Go.Proofs.YtdnlejboijkcfaaGreatDoor
set_option maxHeartbeats 8000000
set_option maxRecDepth 100000
open Go.RowKit Nl
structure ChB (S : Nat → Prop) (w w' : World) : Prop where
  os : w'.os = w.os
  tape : w'.tape = w.tape
  output : w'.output = w.output
  size : w.heap.size ≤ w'.heap.size
  block : ∀ k, k < w.heap.size → ¬ S k → w'.heap[k]? = w.heap[k]?
theorem ChB.refl (S : Nat → Prop) (w : World) : ChB S w w := ⟨rfl, rfl, rfl, nlr, fun _ _ _ => rfl⟩
theorem ChB.trans {S S' : Nat → Prop} {w w' w'' : World} (h : ChB S w w') (k : ChB S' w' w'') (hs : ∀ j, j < w.heap.size → S' j → S j) : ChB S w w'' :=
  ⟨k.os.trans h.os, k.tape.trans h.tape, k.output.trans h.output, Nat.le_trans h.size k.size, fun j hj hn => (k.block j (Nat.lt_of_lt_of_le hj h.size) (fun e => hn (hs j hj e))).trans (h.block j hj hn)⟩
theorem ChB.of_below {S : Nat → Prop} {w w' : World} (h : Below w.heap.size w w') : ChB S w w' := ⟨h.os, h.tape, h.output, h.size, fun k hk _ => h.block k hk⟩
theorem ChB.mono {S S' : Nat → Prop} {w w' : World} (h : ChB S w w') (hs : ∀ k, k < w.heap.size → S k → S' k) : ChB S' w w' := ⟨h.os, h.tape, h.output, h.size, fun k hk hn => h.block k hk (fun e => hn (hs k hk e))⟩
theorem ChB.below {S : Nat → Prop} {w w' : World} {B : Nat} (h : ChB S w w') (hS : ∀ k, k < w.heap.size → S k → B ≤ k) (hB : B ≤ w.heap.size) : Below B w w' :=
  ⟨h.os, h.tape, h.output, h.size, fun k hk => h.block k (by omega) (fun e => by have := hS k (by omega) e; omega)⟩
def PB (q g h k : Nat) : Prop := k = q ∨ k = g ∨ k = h
def AB (a b : Nat) (v : Value) (k : Nat) : Prop := k = a ∨ k = b ∨ v.ownBlock = some k
def TB (c : Nat) (o : Value) (k : Nat) : Prop := k = c ∨ o.ownBlock = some k
theorem ChB.of_tch {q g h : Nat} {w w' : World} (t : Tch g h w w') : ChB (PB q g h) w w' := ⟨t.os, t.tape, t.output, t.size, fun k hk hn => t.block k hk (fun e => hn (.inr (.inl e))) (fun e => hn (.inr (.inr e)))⟩
theorem ChB.of_ag {a b : Nat} {v : Value} {w w' : World} (t : Tch3 a b v w w') : ChB (AB a b v) w w' := ⟨t.os, t.tape, t.output, t.size, fun k hk hn => t.block k hk (fun e => hn (.inl e)) (fun e => hn (.inr (.inl e))) (fun e => hn (.inr (.inr e)))⟩
theorem ChB.of_told {c : Nat} {o : Value} {w w' : World} (t : Tch3 c c o w w') : ChB (TB c o) w w' := ⟨t.os, t.tape, t.output, t.size, fun k hk hn => t.block k hk (fun e => hn (.inl e)) (fun e => hn (.inl e)) (fun e => hn (.inr e))⟩
def D2 (X Y : Nat → Prop) : Prop := ∀ k, X k → ¬ Y k
theorem D2.left {X X' Y : Nat → Prop} {n : Nat} (d : D2 X Y) (hx : ∀ k, X' k → X k ∨ n ≤ k) (hy : ∀ k, Y k → k < n) : D2 X' Y := fun k h1 h2 => by
  rcases hx k h1 with h | h
  · exact d k h h2
  · have := hy k h2; omega
theorem D2.right {X Y Y' : Nat → Prop} {n : Nat} (d : D2 X Y) (hy : ∀ k, Y' k → Y k ∨ n ≤ k) (hx : ∀ k, X k → k < n) : D2 X Y' := fun k h1 h2 => by
  rcases hy k h2 with h | h
  · exact d k h1 h
  · have := hx k h1; omega
theorem ChB.off {S X : Nat → Prop} {w w' : World} (h : ChB S w w') (d : D2 X S) : ∀ k, k < w.heap.size → X k → w'.heap[k]? = w.heap[k]? := fun k hk hx => h.block k hk (d k hx)
theorem D2.symm {X Y : Nat → Prop} (d : D2 X Y) : D2 Y X := fun k h1 h2 => d k h2 h1
theorem PB.new {q g h h' n : Nat} (hh : h' = h ∨ n ≤ h') : ∀ k, PB q g h' k → PB q g h k ∨ n ≤ k := fun k hk => by
  rcases hk with e | e | e
  · exact .inl (.inl e)
  · exact .inl (.inr (.inl e))
  · rcases hh with h1 | h1
    · exact .inl (.inr (.inr (e.trans h1)))
    · exact .inr (by omega)
theorem AB.new {a b : Nat} {v v' : Value} {w : World} (f : Fr w v v') : ∀ k, AB a b v' k → AB a b v k ∨ w.heap.size ≤ k := fun k hk => by
  rcases hk with e | e | e
  · exact .inl (.inl e)
  · exact .inl (.inr (.inl e))
  · rcases f with h | ⟨j, h, hj⟩
    · exact .inl (.inr (.inr (by rw [← h]; exact e)))
    · rw [h] at e; cases e; exact .inr hj
theorem TB.new {c : Nat} {o o' : Value} {w : World} (f : Fr w o o') : ∀ k, TB c o' k → TB c o k ∨ w.heap.size ≤ k := fun k hk => by
  rcases hk with e | e
  · exact .inl (.inl e)
  · rcases f with h | ⟨j, h, hj⟩
    · exact .inl (.inr (by rw [← h]; exact e))
    · rw [h] at e; cases e; exact .inr hj
theorem PoolV.ltB {w : World} {q g h m : Nat} {kind l : Int} {zs : List Nd} (d : PoolV w q g h kind l m zs) : ∀ k, PB q g h k → k < w.heap.size := fun k hk => by
  obtain ⟨h1, h2, h3, _⟩ := d.lt
  rcases hk with e | e | e <;> omega
theorem AgL.ltB {w : World} {a b : Nat} {v : Value} {l : List Int} (d : AgL w a b v l) : ∀ k, AB a b v k → k < w.heap.size := fun k hk => by
  obtain ⟨h1, h2, h3⟩ := d.lt
  rcases hk with e | e | e
  · omega
  · omega
  · exact h3 k e
theorem PoolV.keepB {w w' : World} {q g h m : Nat} {kind l : Int} {zs : List Nd} (d : PoolV w q g h kind l m zs) (hk : ∀ k, k < w.heap.size → PB q g h k → w'.heap[k]? = w.heap[k]?) : PoolV w' q g h kind l m zs := by
  obtain ⟨l1, l2, l3, _⟩ := d.lt
  have e1 := hk q l1 (.inl rfl)
  have e2 := hk g l2 (.inr (.inl rfl))
  have e3 := hk h l3 (.inr (.inr rfl))
  rcases d with ⟨k, hb, h1, h2, cs, ⟨u, t, d, v⟩, e⟩ | ⟨k, hb, h1, h2, b, xs, ⟨⟨cap, rest, d1, d2, d3⟩, v⟩, r⟩
  · exact .inl ⟨k, hb.keep e1, h1, h2, cs, ⟨u, t, ⟨d.1.keep e2, d.2.1.keep e3, d.2.2⟩, v⟩, e⟩
  · exact .inr ⟨k, hb.keep e1, h1, h2, b, xs, ⟨⟨cap, rest, d1.keep e2, d2.keep e3, d3⟩, v⟩, r⟩
theorem AgL.keepB {w w' : World} {a b : Nat} {v : Value} {l : List Int} (d : AgL w a b v l) (hk : ∀ k, k < w.heap.size → AB a b v k → w'.heap[k]? = w.heap[k]?) : AgL w' a b v l := d.keep fun k h1 h2 => hk k h1 h2
def ToldPost (I : List Int → Value → World → Prop) (c : Nat) (done : List Int) (o : Value) (x : Int) (w : World) (e : Ending) (w' : World) : Prop :=
  e = .returned (.tuple #[]) ∧ ∃ o', I (done ++ [x]) o' w' ∧ Fr w o o' ∧ Tch3 c c o w w'
structure Told (F c : Nat) (I : List Int → Value → World → Prop) : Prop where
  keep : ∀ {done : List Int} {o : Value} {w w' : World}, I done o w → (∀ k, k < w.heap.size → TB c o k → w'.heap[k]? = w.heap[k]?) → I done o w'
  lt : ∀ {done : List Int} {o : Value} {w : World}, I done o w → ∀ k, TB c o k → k < w.heap.size
  ent : ∀ (args : Array Value) (w : World), (callFunc F args).run Tryz.prog w = .ok (.enter F args) w
  call : ∀ (done : List Int) (o : Value) (w : World) (x : Int), I done o w → done.length < 10000000 → In64 x → Calls Tryz.prog F #[.int .i64 x, .pointer (some ⟨c, 0, none⟩)] w (ToldPost I c done o x w)
theorem agl_ok {w : World} {a b : Nat} {v : Value} {l : List Int} (d : AgL w a b v l) : Ord l ∧ ∀ x ∈ l, 1 ≤ x ∧ In64 x := by
  obtain ⟨hs, _, _, _, o, h⟩ := d; exact ⟨o, h⟩
structure St (I : List Int → Value → World → Prop) (q g h0 c a b m : Nat) (o0 : Value) (kind l : Int) (w : World) (zs : List Nd) (ag done : List Int) (h : Nat) (v o : Value) (wr : World) : Prop where
  pool : PoolV wr q g h kind l m zs
  agenda : AgL wr a b v ag
  told : I done o wr
  hfr : h = h0 ∨ w.heap.size ≤ h
  afr : ∀ k, AB a b v k → w.heap.size ≤ k
  ofr : Fr w o0 o
  d1 : D2 (PB q g h) (AB a b v)
  d2 : D2 (PB q g h) (TB c o)
  d3 : D2 (AB a b v) (TB c o)
  ch : ChB (fun k => PB q g h0 k ∨ TB c o0 k) w wr
section
variable {I : List Int → Value → World → Prop} {q g h0 c a b m F : Nat} {o0 : Value} {kind l : Int} {w : World} {zs : List Nd} {ag done : List Int} {h : Nat} {v o : Value} {wr w' : World}
theorem St.below (T : Told F c I) (s : St I q g h0 c a b m o0 kind l w zs ag done h v o wr) (hb : Below wr.heap.size wr w') : St I q g h0 c a b m o0 kind l w zs ag done h v o w' :=
  ⟨s.pool.below hb nlr, s.agenda.below hb nlr, T.keep s.told (fun k hk _ => hb.block k hk), s.hfr, s.afr, s.ofr, s.d1, s.d2, s.d3, s.ch.trans (ChB.of_below (S := fun _ => False) hb) (fun _ _ h => h.elim)⟩
theorem St.agd (T : Told F c I) (s : St I q g h0 c a b m o0 kind l w zs ag done h v o wr) {v' : Value} {ag' : List Int} (t : Tch3 a b v wr w') (d' : AgL w' a b v' ag') (f : Fr wr v v') : St I q g h0 c a b m o0 kind l w zs ag' done h v' o w' := by
  have hc := ChB.of_ag t
  refine ⟨s.pool.keepB (hc.off s.d1), d', T.keep s.told (hc.off s.d3.symm), s.hfr, fun k hk => ?_, s.ofr, s.d1.right (AB.new f) s.pool.ltB, s.d2, s.d3.left (AB.new f) (T.lt s.told), s.ch.trans hc (fun j hj e => ?_)⟩
  · rcases AB.new f k hk with e | e
    · exact s.afr k e
    · exact Nat.le_trans s.ch.size e
  · have := s.afr j e; omega
theorem St.pl (T : Told F c I) (s : St I q g h0 c a b m o0 kind l w zs ag done h v o wr) {h' : Nat} {zs' : List Nd} (t : Tch g h wr w') (d' : PoolV w' q g h' kind l m zs') (hh : h' = h ∨ wr.heap.size ≤ h') : St I q g h0 c a b m o0 kind l w zs' ag done h' v o w' := by
  have hc := ChB.of_tch (q := q) t
  refine ⟨d', s.agenda.keepB (hc.off s.d1.symm), T.keep s.told (hc.off s.d2.symm), ?_, s.afr, s.ofr, s.d1.left (PB.new hh) s.agenda.ltB, s.d2.left (PB.new hh) (T.lt s.told), s.d3, s.ch.trans hc (fun j hj e => ?_)⟩
  · rcases hh with e | e
    · rw [e]; exact s.hfr
    · exact .inr (Nat.le_trans s.ch.size e)
  · rcases PB.new s.hfr j e with e | e
    · exact .inl e
    · omega
theorem St.tl (_T : Told F c I) (s : St I q g h0 c a b m o0 kind l w zs ag done h v o wr) {o' : Value} {done' : List Int} (t : Tch3 c c o wr w') (i' : I done' o' w') (f : Fr wr o o') : St I q g h0 c a b m o0 kind l w zs ag done' h v o' w' := by
  have hc := ChB.of_told t
  refine ⟨s.pool.keepB (hc.off s.d2), s.agenda.keepB (hc.off s.d3), i', s.hfr, s.afr, s.ofr.trans f s.ch.size, s.d1, s.d2.right (TB.new f) s.pool.ltB, s.d3.right (TB.new f) s.agenda.ltB, s.ch.trans hc (fun j hj e => ?_)⟩
  rcases TB.new s.ofr j e with e | e
  · exact .inr e
  · omega
end
def RunRel (I : List Int → Value → World → Prop) (q g h0 c a b m : Nat) (o0 : Value) (kind l most : Int) (zs0 : List Nd) (w : World) (n : Nat) (wr : World) : Prop :=
  ∃ (zs : List Nd) (ag done : List Int) (h : Nat) (v o : Value), AgInv l most zs0 zs ag done ∧ (4 * phi zs).toNat + ag.length ≤ n ∧ zs.length ≤ zs0.length ∧ (done.length : Int) + phi zs ≤ phi zs0 ∧ St I q g h0 c a b m o0 kind l w zs ag done h v o wr
def RunPost (I : List Int → Value → World → Prop) (q g h0 c m : Nat) (o0 : Value) (kind l : Int) (R : List Nd × List Int) (w : World) (e : Ending) (w' : World) : Prop :=
  e = .returned (.tuple #[]) ∧ ∃ h o, PoolV w' q g h kind l m R.1 ∧ (h = h0 ∨ w.heap.size ≤ h) ∧ I R.2 o w' ∧ Fr w o0 o ∧ D2 (PB q g h) (TB c o) ∧ ChB (fun k => PB q g h0 k ∨ TB c o0 k) w w'
theorem press_run {I : List Int → Value → World → Prop} {w : World} {q g h c m F : Nat} {o : Value} {kind l : Int} {zs : List Nd} (k : Int) (T : Told F c I) (d : PoolV w q g h kind l m zs) (hm : m ≤ 100000) (hz : zs.length + 1 ≤ m) (hz2 : zs.length ≤ 20000) (bk : In64 k) (hI : I [] o w) (hd : D2 (PB q g h) (TB c o)) :
    Calls Tryz.prog 159 #[.pointer (some ⟨q, 0, none⟩), .int .i64 k, .func (.func F) #[] #[.pointer (some ⟨c, 0, none⟩)]] w (RunPost I q g h c m o kind l (runR l (capV (sumL zs) k) zs) w) := by
  have hroll := d.roll
  have hsum := hroll.sum
  have C0 := fun W : World => f_cap (sumL zs) k W ⟨by omega, by omega⟩ bk
  obtain ⟨most, emost⟩ : ∃ x, capV (sumL zs) k = x := ⟨_, rfl⟩
  simp only [emost] at C0
  rw [emost]
  have C := hid C0
  clear emost C0
  have P := hid (f_parents d hm (by omega))
  have IN := parents_in hroll
  have N := hid (fun W v (x : RdI W v (parentsL zs)) => f_new W x (by have := parents_len zs; omega) IN)
  go_enter Tryz.func159, Tryz.ntmps159
  go_wp2_with fail
  refine (pl_total d).mono ?_
  rintro e w1 ⟨rfl, rfl⟩
  go_wp2_with fail
  refine (C.out w).mono ?_
  rintro e w1 ⟨rfl, rfl⟩
  go_wp2_with fail
  refine P.out.mono ?_
  rintro e w1 ⟨v1, rfl, ⟨hr1, hv1⟩, hb1⟩
  go_wp2_with fail
  refine (N.out w1 _ hr1).mono ?_
  rintro e w2 ⟨a, b, v, rfl, da, ha, hb, hv, hb2⟩
  have hs1 := hb1.size
  have e0 : agendaL (parentsL zs) = parentsL zs := agendaL_self (parents_ord zs) (fun x hx => by obtain ⟨y, _, h1, h2⟩ := parents_mem.1 hx; omega)
  rw [e0] at da
  have hbw := hb1.trans (hb2.mono hs1)
  have hph := phi_le hroll
  have hph0 := phi_nonneg zs
  have hl48 := hroll.l2
  have hpl := parents_len zs
  have S0 : St I q g h c a b m o kind l w zs (parentsL zs) [] h v o w2 := by
    have hA : ∀ k, AB a b v k → w.heap.size ≤ k := fun k hk => by
      rcases hk with e | e | e
      · omega
      · omega
      · have := hv k e; omega
    exact ⟨d.below hbw nlr, da, T.keep hI (fun k hk _ => hbw.block k hk), .inl rfl, hA, Fr.refl _ _,
      fun k h1 h2 => by have := hA k h2; have := d.ltB k h1; omega, hd, fun k h1 h2 => by have := hA k h1; have := T.lt hI k h2; omega, ChB.of_below hbw⟩
  have R0 : Hid (RunRel I q g h c a b m o kind l most zs w ((4 * phi zs).toNat + (parentsL zs).length) w2) := ⟨zs, _, [], h, v, o, AgInv.start hroll, nlr, nlr, by simp, S0⟩
  have hphb : phi zs ≤ 960000 := by
    have : l * (zs.length : Int) ≤ 48 * (zs.length : Int) := Int.mul_le_mul_of_nonneg_right hl48 (by omega)
    omega
  have hn0 : (4 * phi zs).toNat + (parentsL zs).length ≤ 4000000 := by omega
  generalize (4 * phi zs).toNat + (parentsL zs).length = n0 at *
  clear S0 da hv e0 hv1 hr1 P N IN hb1 hb2 hbw hph hpl C hsum hI hd d
  go_wp2_with fail
  go_loopg [8] n0 (fun n _ wr => n ≤ n0 ∧ RunRel I q g h c a b m o kind l most zs w n wr)
  case atStart => exact ⟨nlr, R0.out⟩
  case round =>
    obtain ⟨hgk, zs1, ag, done, h1, v1, o1, hinv, hms, hzl, hdl, st⟩ := hrel
    have HI := hid hinv
    have hp0 := phi_nonneg zs1
    have Ln := hid (agl_length st.agenda)
    cases ag with
    | nil =>
      have hl0 : ([] : List Int).length = 0 := rfl
      rw [hl0] at Ln
      have PP : Hid (RunPost I q g h c m o kind l (runR l most zs) w (.returned (.tuple #[])) wr) := by
        show RunPost _ _ _ _ _ _ _ _ _ _ _ _ _
        rw [HI.out.done]
        exact ⟨rfl, h1, o1, st.pool, st.hfr, st.told, st.ofr, st.d2, st.ch⟩
      clear hl0 hinv st
      go_wp2_with fail
      refine Ln.out.mono ?_
      rintro e w3 ⟨rfl, rfl⟩
      go_wp2_with fail
      go_end0
      exact PP.out
    | cons y t =>
      have hyl : (y :: t).length = t.length + 1 := rfl
      rw [hyl] at Ln hms
      have by0 := ((agl_ok st.agenda).2 y (List.mem_cons_self ..)).2
      have Pp := hid (ag_pop st.agenda (by omega))
      have Rd := hid (fun W (x : PoolV W q g h1 kind l m zs1) => f_ready y most x hm by0)
      obtain ⟨R, eR⟩ : ∃ R, readyB l zs1 y most = R := ⟨_, rfl⟩
      rw [eR] at Rd
      have ST := hid st
      cases R
      · have HI2 := hid (hinv.skip eR)
        clear hyl eR hinv st
        go_wp2_with fail
        refine Ln.out.mono ?_
        rintro e w3 ⟨rfl, rfl⟩
        go_wp2_with fail
        refine Pp.out.mono ?_
        rintro e w3 ⟨rfl, v3, d3, e3, t3⟩
        have st3 := ST.out.agd T t3 d3 (.inl e3)
        go_wp2_with fail
        refine (Rd.out w3 st3.pool).mono ?_
        rintro e w4 ⟨rfl, hb4⟩
        have st4 := st3.below T hb4
        have ST4 := hid st4
        clear st3 st4 d3 t3 e3
        go_wp2_with fail
        go_roundg ((4 * phi zs1).toNat + t.length)
        case rel => exact ⟨by omega, zs1, t, done, h1, v3, o1, HI2.out, nlr, hzl, hdl, ST4.out⟩
        case measure => omega
      · have HI2 := hid (hinv.fold eR)
        have hph2 := phi_fold hinv.1 eR
        have hlen2 := (fold_facts hinv.1 y).2.2.1
        obtain ⟨kb1, kb2⟩ := kids_bound (ready_kids eR)
        have hp2 := phi_nonneg (foldDo l zs1 y).1
        have ho := hinv.2.1.tail
        have hlp1 := putL_len ho (2 * y)
        have hlp2 := putL_len (putL_ord ho (2 * y)) (2 * y + 1)
        have hlp3 := putL_len (putL_ord (putL_ord ho (2 * y)) (2 * y + 1)) (y / 2)
        have Dd := hid (fun W (x : PoolV W q g h1 kind l m zs1) => f_do m y x nlr (by omega) hm by0)
        clear hyl eR hinv st ho
        generalize foldDo l zs1 y = FD at *
        obtain ⟨zs2, n2⟩ := FD
        simp only at HI2 hph2 hlen2 hp2
        go_wp2_with fail
        refine Ln.out.mono ?_
        rintro e w3 ⟨rfl, rfl⟩
        go_wp2_with fail
        refine Pp.out.mono ?_
        rintro e w3 ⟨rfl, v3, d3, e3, t3⟩
        have st3 := ST.out.agd T t3 d3 (.inl e3)
        go_wp2_with fail
        refine (Rd.out w3 st3.pool).mono ?_
        rintro e w4 ⟨rfl, hb4⟩
        have st4 := st3.below T hb4
        clear st3 d3 t3 e3 hb4
        go_wp2_with fail
        refine (Dd.out w4 st4.pool).mono ?_
        rintro e w5 ⟨rfl, h5, d5, hh5, t5⟩
        have st5 := st4.pl T t5 d5 hh5
        have Tc := hid (T.call done o1 w5 y st5.told (by omega) by0)
        have hent := T.ent
        clear st4 d5 t5 hh5
        go_wp2_with fail
        refine Tc.out.mono ?_
        rintro e w6 ⟨rfl, o6, i6, f6, t6⟩
        have st6 := st5.tl T t6 i6 f6
        have P1 := hid (ag_put (2 * y) st6.agenda ⟨by omega, by omega⟩ (by omega))
        clear st5 t6 i6 f6 hent Tc
        go_wp2_with fail
        refine P1.out.mono ?_
        rintro e w7 ⟨rfl, v7, d7, f7, t7⟩
        have st7 := st6.agd T t7 d7 f7
        have P2 := hid (ag_put (2 * y + 1) st7.agenda ⟨by omega, by omega⟩ (by omega))
        clear st6 d7 f7 t7 P1
        go_wp2_with fail
        refine P2.out.mono ?_
        rintro e w8 ⟨rfl, v8, d8, f8, t8⟩
        have st8 := st7.agd T t8 d8 f8
        have P3 := hid (ag_put (y / 2) st8.agenda ⟨by omega, by omega⟩ (by omega))
        clear st7 d8 f8 t8 P2
        go_wp2_with fail
        refine P3.out.mono ?_
        rintro e w9 ⟨rfl, v9, d9, f9, t9⟩
        have st9 := st8.agd T t9 d9 f9
        have ST9 := hid st9
        clear st8 d9 f9 t9 P3 st9
        go_wp2_with fail
        go_roundg ((4 * phi zs2).toNat + (putL (putL (putL t (2 * y)) (2 * y + 1)) (y / 2)).length)
        case rel => exact ⟨by omega, zs2, _, done ++ [y], h5, v9, o6, HI2.out, nlr, by omega, by simp; omega, ST9.out⟩
        case measure => omega
end Go.Proofs.YtdnlejboijkcfaaGreatDoor
/- The walks of press.Run, Trace, Tight, Bound. -/
namespace Go.Proofs.YtdnlejboijkcfaaGreatDoor
set_option maxHeartbeats 8000000
set_option maxRecDepth 100000
open Go.RowKit Nl
namespace Nl
def isK (k : Int) : Bool := decide (1 ≤ k ∧ k ≤ 1048576)
end Nl
def RunI (c : Nat) (done : List Int) (o : Value) (w : World) : Prop := Blk w c #[.int .i64 done.length] 3 ∧ o = .int .i64 0
theorem told_run_call (c : Nat) (done : List Int) (o : Value) (w : World) (x : Int) (h : RunI c done o w) (hl : done.length < 10000000) (_hx : In64 x) : Calls Tryz.prog 160 #[.int .i64 x, .pointer (some ⟨c, 0, none⟩)] w (ToldPost (RunI c) c done o x w) := by
  obtain ⟨b, rfl⟩ := h
  have c0 : w.cell? ⟨c, 0, none⟩ = some (.int .i64 done.length) := b.cell 0
  have f0 := b.free 0
  have b2 := b.set 0 (.int .i64 ((done.length : Int) + 1))
  have P : Hid (ToldPost (RunI c) c done (.int .i64 0) x w (.returned (.tuple #[])) (w.setCell ⟨c, 0, none⟩ (.int .i64 ((done.length : Int) + 1)))) :=
    ⟨rfl, .int .i64 0, ⟨by simpa using b2, rfl⟩, Fr.refl _ _, Tch3.setCell w c 0 _ (.inl rfl)⟩
  clear b b2
  go_enter Tryz.func160, Tryz.ntmps160
  go_wp2
  go_end0
  exact P.out
theorem told_run (c : Nat) : Told 160 c (RunI c) where
  keep := fun {_ _ _ _} h hk => ⟨h.1.keep (hk c h.1.lt (.inl rfl)), h.2⟩
  lt := fun {_ _ _} h k hk => by
    rcases hk with e | e
    · rw [e]; exact h.1.lt
    · rw [h.2] at e; cases e
  ent := enters_of Tryz.func160 (by kernel_rfl) rfl
  call := told_run_call c
theorem p_wrong (q : Nat) (k : Int) (w : World) : Calls Tryz.prog 158 #[.pointer (some ⟨q, 0, none⟩), .int .i64 k] w fun e w' => e = .returned (.int .i64 (if isK k then 0 else 2)) ∧ w = w' := by
  by_cases h1 : k < 1
  · have e : isK k = false := by simp [isK]; omega
    rw [e]; clear e
    go_enter Tryz.func158, Tryz.ntmps158
    go_wp2_with (go_at_call 109; go_in)
    go_ret
    exact ⟨rfl, rfl⟩
  · by_cases h2 : 1048576 < k
    · have e : isK k = false := by simp [isK]; omega
      have hd : decide (k ≤ 1048576) = false := by simp; omega
      rw [e]; clear e
      go_enter Tryz.func158, Tryz.ntmps158
      go_wp2_with (go_at_call 109; go_in)
      go_ret
      exact ⟨rfl, rfl⟩
    · have e : isK k = true := by simp [isK]; omega
      have hd : decide (k ≤ 1048576) = true := by simp; omega
      rw [e]; clear e
      go_enter Tryz.func158, Tryz.ntmps158
      go_wp2_with (go_at_call 109; go_in)
      go_ret
      exact ⟨rfl, rfl⟩
def PRunPost (q g h0 m : Nat) (kind l : Int) (R : List Nd × List Int) (w : World) (e : Ending) (w' : World) : Prop :=
  e = .returned (.tuple #[.int .i64 R.2.length, .int .i64 0]) ∧ ∃ h, PoolV w' q g h kind l m R.1 ∧ (h = h0 ∨ w.heap.size ≤ h) ∧ ChB (PB q g h0) w w'
theorem p_Run {w : World} {q g h m : Nat} {kind l : Int} {zs : List Nd} (k : Int) (hk : isK k = true) (d : PoolV w q g h kind l m zs) (hm : m ≤ 100000) (hz : zs.length + 1 ≤ m) (hz2 : zs.length ≤ 20000) :
    Calls Tryz.prog 118 #[.pointer (some ⟨q, 0, none⟩), .int .i64 k] w (PRunPost q g h m kind l (runR l (capV (sumL zs) k) zs) w) := by
  have W := hid (p_wrong q k w)
  rw [hk] at W
  have bk : In64 k := by simp only [isK, decide_eq_true_eq] at hk; exact ⟨by omega, by omega⟩
  have hba : Below w.heap.size w (w.alloc (.cells #[.int .i64 0] 3)) := (Below.refl _ _).alloc nlr _
  have hI : RunI w.heap.size [] (.int .i64 0) (w.alloc (.cells #[.int .i64 0] 3)) := ⟨Blk.new _ _ _, rfl⟩
  have da := d.below hba nlr
  have hlt := d.ltB
  have R := hid (press_run k (told_run w.heap.size) da hm hz hz2 bk hI (fun j h1 h2 => by
    have := hlt j h1
    rcases h2 with e | e
    · omega
    · cases e))
  generalize runR l (capV (sumL zs) k) zs = RR at *
  clear hI da
  go_enter Tryz.func118, Tryz.ntmps118
  go_wp2_with fail
  refine W.out.mono ?_
  rintro e w' ⟨rfl, rfl⟩
  go_wp2_with fail
  refine R.out.mono ?_
  rintro e w2 ⟨rfl, h', o', dp, hh', ⟨bI, _⟩, _, _, ch⟩
  have c0 : w2.cell? ⟨w.heap.size, 0, none⟩ = some (.int .i64 RR.2.length) := bI.cell 0
  have CH : Hid (ChB (PB q g h) w w2) := (ChB.of_below hba).trans ch (fun j hj e => by
    rcases e with e | e | e
    · exact e
    · omega
    · cases e)
  have HH : Hid (h' = h ∨ w.heap.size ≤ h') := hh'.imp id (fun e => by simp only [World.size_alloc] at e; omega)
  clear hh' ch bI R
  go_wp2_with fail
  go_ret2
  exact ⟨rfl, h', dp, HH.out, CH.out⟩
end Go.Proofs.YtdnlejboijkcfaaGreatDoor
/- The walk of press.Light. -/
namespace Go.Proofs.YtdnlejboijkcfaaGreatDoor
set_option maxHeartbeats 8000000
set_option maxRecDepth 100000
open Go.RowKit Nl
attribute [local go_sem] Oper.semAt_some
namespace Nl
def heavyB (l most : Int) (x : Int × Int) : Bool := kidsB l x.1 && decide (most < x.2)
def lightB (l : Int) (zs : List (Int × Int)) (most : Int) : Bool := zs.all (fun x => !heavyB l most x)
end Nl
def BadLast (l most : Int) (pre : List N64) : Prop := ∃ ini x, pre = ini ++ [x] ∧ heavyB l most x.1 = true
theorem p_Light {w : World} {q g h m : Nat} {kind l : Int} {zs : List Nd} (k : Int) (hk : isK k = true) (d : PoolV w q g h kind l m zs) (hm : m ≤ 100000) :
    Calls Tryz.prog 210 #[.pointer (some ⟨q, 0, none⟩), .int .i64 k] w fun e w' => e = .returned (.bool (lightB l zs (capV (sumL zs) k))) ∧ Below w.heap.size w w' := by
  have hroll := d.roll
  have hs := hroll.sum
  have bl : In64 l := ⟨by have := hroll.l1; omega, by have := hroll.l2; omega⟩
  have bk : In64 k := by simp only [isK, decide_eq_true_eq] at hk; exact ⟨by omega, by omega⟩
  have Wg := hid (fun W : World => p_wrong q k W)
  simp only [hk, if_true] at Wg
  have C0 := fun W : World => f_cap (sumL zs) k W ⟨by omega, by omega⟩ bk
  obtain ⟨most, emost⟩ : ∃ x, capV (sumL zs) k = x := ⟨_, rfl⟩
  simp only [emost] at C0
  rw [emost]
  have C := hid C0
  have PX := Blk.new w #[.pointer (some ⟨q, 0, none⟩)] 95
  clear emost C0 hk hs
  refine (callsIn_wide (n := 5)).1 ?_
  refine callsIn_of_wp_marks Tryz.func210 rfl trivial ?_ rfl
  simp only [Tryz.ntmps210, List.size_toArray, List.length_cons, List.length_nil, Nat.reduceAdd, Nat.reduceSub, Array.replicate_succ, Array.replicate_zero, List.push_toArray, List.append_toArray, List.nil_append, List.cons_append]
  have hba : Below w.heap.size w ((w.alloc (.cells #[.pointer (some ⟨q, 0, none⟩)] 95)).alloc (.cells #[.bool false] 4)) := ((Below.refl _ _).alloc nlr _).alloc (by simp) _
  have d1 := d.below hba nlr
  gi_wp2_with (first
    | (refine ⟨trivial, ?_⟩; gi_at_call 158; refine (callsIn_wide.2 (Wg.out _)).mono ?_; rintro e W1 ⟨rfl, rfl⟩)
    | (refine ⟨trivial, ?_⟩; gi_at_call 46; refine (callsIn_wide.2 (pl_total d1)).mono ?_; rintro e W1 ⟨rfl, rfl⟩)
    | (refine ⟨trivial, ?_⟩; gi_at_call 188; refine (callsIn_wide.2 (C.out _)).mono ?_; rintro e W1 ⟨rfl, rfl⟩)
    | (refine ⟨trivial, ?_⟩; gi_at_call 215; refine (callsIn_wide.2 (pl_each _ _)).mono ?_; rintro e W2 ⟨rfl, rfl⟩))
  have hbw : Below w.heap.size w ((((w.alloc (.cells #[.pointer (some ⟨q, 0, none⟩)] 95)).alloc (.cells #[.bool false] 4)).alloc (.cells #[.int .i64 most] 3)).alloc (.cells #[.pointer (some ⟨q, 0, none⟩)] 95)) := (hba.alloc (by simp; omega) _).alloc (by simp; omega) _
  have hsz0 : ((((w.alloc (.cells #[.pointer (some ⟨q, 0, none⟩)] 95)).alloc (.cells #[.bool false] 4)).alloc (.cells #[.int .i64 most] 3)).alloc (.cells #[.pointer (some ⟨q, 0, none⟩)] 95)).heap.size = w.heap.size + 4 := by simp
  have B0 : Blk ((((w.alloc (.cells #[.pointer (some ⟨q, 0, none⟩)] 95)).alloc (.cells #[.bool false] 4)).alloc (.cells #[.int .i64 most] 3)).alloc (.cells #[.pointer (some ⟨q, 0, none⟩)] 95)) w.heap.size #[.pointer (some ⟨q, 0, none⟩)] 95 := ((PX.alloc _).alloc _).alloc _
  have B1 : Blk ((((w.alloc (.cells #[.pointer (some ⟨q, 0, none⟩)] 95)).alloc (.cells #[.bool false] 4)).alloc (.cells #[.int .i64 most] 3)).alloc (.cells #[.pointer (some ⟨q, 0, none⟩)] 95)) (w.heap.size + 1) #[.bool false] 4 := by
    have h := ((Blk.new (w.alloc (.cells #[.pointer (some ⟨q, 0, none⟩)] 95)) #[.bool false] 4).alloc (.cells #[.int .i64 most] 3)).alloc (.cells #[.pointer (some ⟨q, 0, none⟩)] 95)
    simpa using h
  have B2 : Blk ((((w.alloc (.cells #[.pointer (some ⟨q, 0, none⟩)] 95)).alloc (.cells #[.bool false] 4)).alloc (.cells #[.int .i64 most] 3)).alloc (.cells #[.pointer (some ⟨q, 0, none⟩)] 95)) (w.heap.size + 1 + 1) #[.int .i64 most] 3 := by
    have h := (Blk.new ((w.alloc (.cells #[.pointer (some ⟨q, 0, none⟩)] 95)).alloc (.cells #[.bool false] 4)) #[.int .i64 most] 3).alloc (.cells #[.pointer (some ⟨q, 0, none⟩)] 95)
    simpa using h
  have B3 : Blk ((((w.alloc (.cells #[.pointer (some ⟨q, 0, none⟩)] 95)).alloc (.cells #[.bool false] 4)).alloc (.cells #[.int .i64 most] 3)).alloc (.cells #[.pointer (some ⟨q, 0, none⟩)] 95)) (w.heap.size + 1 + 1 + 1) #[.pointer (some ⟨q, 0, none⟩)] 95 := by
    have h := Blk.new (((w.alloc (.cells #[.pointer (some ⟨q, 0, none⟩)] 95)).alloc (.cells #[.bool false] 4)).alloc (.cells #[.int .i64 most] 3)) #[.pointer (some ⟨q, 0, none⟩)] 95
    simpa using h
  have d2 := d.below hbw nlr
  clear d d1 PX hba Wg C
  generalize ((((w.alloc (.cells #[.pointer (some ⟨q, 0, none⟩)] 95)).alloc (.cells #[.bool false] 4)).alloc (.cells #[.int .i64 most] 3)).alloc (.cells #[.pointer (some ⟨q, 0, none⟩)] 95)) = w0 at *
  have p0 : w0.cell? ⟨w.heap.size + 1 + 1 + 1, 0, none⟩ = some (.pointer (some ⟨q, 0, none⟩)) := B3.cell 0
  have st : Steady (fun _ k => w0.heap.size ≤ k) := fun _ _ _ _ _ _ _ h => h
  refine wpIn_rangeFunc_ownG (F := Fence.wide) rfl (by decide) (gf := 231) (lb := #[.pointer (some ⟨w.heap.size + 1 + 1 + 1, 0, none⟩)]) rfl trivial (enters_of Tryz.func231 (by kernel_rfl) rfl)
    (each_stops (Safe := fun _ k => w0.heap.size ≤ k) 4 (by decide) (w.heap.size + 1 + 1 + 1) (by omega) p0 d2 hm st (fun W _ k hk _ => hk)) (fun h k => h.trans k) (fun W l o o' _ h hc _ => KpS.putObj st W l o o' h hc) (Below.refl _ _) (fun _ => rfl)
    (fun pre W => (PoolV W q g h kind l m zs ∧ Blk W w.heap.size #[.pointer (some ⟨q, 0, none⟩)] 95 ∧ Blk W (w.heap.size + 1) #[.bool false] 4 ∧ Blk W (w.heap.size + 1 + 1) #[.int .i64 most] 3 ∧ ∀ x ∈ pre, heavyB l most x.1 = false) ∧ Below w.heap.size w W)
    (fun c pre W => (c = .ret ∧ BadLast l most pre ∧ Blk W (w.heap.size + 1) #[.bool false] 4) ∧ Below w.heap.size w W)
    (OwnFrom.and (Own.from (fun s A B row hs hg hr => ⟨hs.1.grown hg hr, (grownBy_keeps_cells hg hr hs.2.1 rfl).trans hs.2.1, (grownBy_keeps_cells hg hr hs.2.2.1 rfl).trans hs.2.2.1, (grownBy_keeps_cells hg hr hs.2.2.2.1 rfl).trans hs.2.2.2.1, hs.2.2.2.2⟩) _) (ownFrom_below nlr (by omega)))
    (fun c => OwnFrom.and (Own.from (fun s A B row hs hg hr => ⟨hs.1, hs.2.1, (grownBy_keeps_cells hg hr hs.2.2 rfl).trans hs.2.2⟩) _) (ownFrom_below nlr (by omega)))
    ⟨⟨d2, B0, B1, B2, by simp⟩, hbw⟩
    (fun x : N64 => { tmps := #[.pointer (some ⟨q, 0, none⟩), .int .i64 k, .pointer (some ⟨w.heap.size, 0, none⟩), undef, .pointer (some ⟨w.heap.size + 1, 0, none⟩), .pointer (some ⟨w.heap.size + 1 + 1, 0, none⟩), .int .i64 x.1.1, .int .i64 x.1.2, undef, undef, undef, .pointer (some ⟨q, 0, none⟩), .int .i64 k, .int .i64 0, .bool false, .pointer (some ⟨q, 0, none⟩), .int .i64 (sumL zs), .int .i64 k, .int .i64 most, .pointer (some ⟨q, 0, none⟩), .func (.func 231) #[] #[.pointer (some ⟨w.heap.size + 1 + 1 + 1, 0, none⟩)], .int .i64 x.1.1, .int .i64 x.1.2, undef, undef, undef, undef, undef, undef, undef, undef, undef, undef, undef, undef, undef, undef], defers := [] }) ?assign ?body ?done ?stop
  case assign =>
    intro l x W K hK
    gi_wp2
    exact hK
  case body =>
    rintro l0 pre ⟨⟨a, c⟩, hx⟩ W ⟨⟨dW, b0, b1, b2, hgood⟩, hB⟩ hpl
    have x0 : W.cell? ⟨w.heap.size, 0, none⟩ = some (.pointer (some ⟨q, 0, none⟩)) := b0.cell 0
    have x1 : W.cell? ⟨w.heap.size + 1, 0, none⟩ = some (.bool false) := b1.cell 0
    have x2 : W.cell? ⟨w.heap.size + 1 + 1, 0, none⟩ = some (.int .i64 most) := b2.cell 0
    have f1 := b1.free 0
    have K := hid (fun W : World => t_kids l a W bl hx.1)
    obtain ⟨kk, ek⟩ : ∃ kk, kidsB l a = kk := ⟨_, rfl⟩
    rw [ek] at K
    have EK := hid ek
    have hgo : ∀ y : N64, y ∈ pre ++ [(⟨(a, c), hx⟩ : N64)] → heavyB l most (a, c) = false → heavyB l most y.1 = false := fun y hy hh => by
      rcases List.mem_append.1 hy with h | h
      · exact hgood y h
      · rw [List.mem_singleton] at h; rw [h]; exact hh
    have HG := hid hgo
    dsimp only
    clear ek hgo hgood
    cases kk
    · have hh : heavyB l most (a, c) = false := by unfold heavyB; rw [EK.out]; rfl
      gi_wp2_with (first
        | (refine ⟨trivial, ?_⟩; gi_at_call 59; refine (CallsIn.inRound l0 (callsIn_wide.2 (pl_l dW))).mono ?_; rintro e W3 ⟨rfl, rfl⟩)
        | (refine ⟨trivial, ?_⟩; gi_at_call 218; refine (CallsIn.inRound l0 (callsIn_wide.2 (K.out _))).mono ?_; rintro e W3 ⟨rfl, rfl⟩))
      exact ⟨KeepsFrom.refl _ _, ⟨nlr, fun _ _ ho _ hs => ⟨ho, hs⟩⟩, ⟨dW, b0, b1, b2, fun y hy => HG.out y hy hh⟩, hB⟩
    · by_cases hc : most < c
      · have hh : heavyB l most (a, c) = true := by unfold heavyB; rw [EK.out]; simpa using hc
        gi_wp2_with (first
          | (refine ⟨trivial, ?_⟩; gi_at_call 59; refine (CallsIn.inRound l0 (callsIn_wide.2 (pl_l dW))).mono ?_; rintro e W3 ⟨rfl, rfl⟩)
          | (refine ⟨trivial, ?_⟩; gi_at_call 218; refine (CallsIn.inRound l0 (callsIn_wide.2 (K.out _))).mono ?_; rintro e W3 ⟨rfl, rfl⟩))
        have b1' := b1.set 0 (.bool false)
        refine ⟨(KeepsOthers.setCell _ _ _).from _, ⟨rfl, ⟨pre, ⟨(a, c), hx⟩, rfl, hh⟩, by simpa using b1'⟩, hB.setCell (p := ⟨w.heap.size + 1, 0, none⟩) (by simp) _⟩
      · have hh : heavyB l most (a, c) = false := by unfold heavyB; rw [EK.out]; simp; omega
        gi_wp2_with (first
          | (refine ⟨trivial, ?_⟩; gi_at_call 59; refine (CallsIn.inRound l0 (callsIn_wide.2 (pl_l dW))).mono ?_; rintro e W3 ⟨rfl, rfl⟩)
          | (refine ⟨trivial, ?_⟩; gi_at_call 218; refine (CallsIn.inRound l0 (callsIn_wide.2 (K.out _))).mono ?_; rintro e W3 ⟨rfl, rfl⟩))
        exact ⟨KeepsFrom.refl _ _, ⟨nlr, fun _ _ ho _ hs => ⟨ho, hs⟩⟩, ⟨dW, b0, b1, b2, fun y hy => HG.out y hy hh⟩, hB⟩
  case done =>
    rintro D ys W hD hys ⟨⟨dW, b0, b1, b2, hgood⟩, hB⟩ hK
    have x1 : W.cell? ⟨w.heap.size + 1, 0, none⟩ = some (.bool false) := b1.cell 0
    have f1 := b1.free 0
    have hl : Hid (lightB l zs most = true) := by
      show _ = _
      have e : ys.map (·.1) = zs := hys
      rw [← e]
      unfold lightB
      rw [List.all_eq_true]
      intro x hx
      obtain ⟨y, hy, rfl⟩ := List.mem_map.1 hx
      rw [hgood y hy]; rfl
    gi_wp2
    have hK3 : (W.setCell ⟨w.heap.size + 1, 0, none⟩ (.bool true)).heap[D]? = some (.deferred (some [])) := (KeepsOthers.setCell W ⟨w.heap.size + 1, 0, none⟩ (.bool true)).same D _ hK rfl
    refine ⟨by simp, .inl ⟨_, _, rfl, run_takeDeferred hK3, ?_⟩⟩
    have c5 := cell_kept (World.cell?_setCell_same' W ⟨w.heap.size + 1, 0, none⟩ (.bool true) (by rw [x1]; rfl)) (grownBy_putObj' _ D (.deferred none)) (fun r e => by cases e; exact ⟨_, hK3, rfl⟩)
    refine ⟨.bool true, by simp [results, Tryz.f210, go_sem, c5], by rw [hl.out], ?_⟩
    exact (hB.setCell (p := ⟨w.heap.size + 1, 0, none⟩) (by simp) _).trans (belowK_b (w := w) nlr _ D _ _ (by omega) hK3 rfl rfl)
  case stop =>
    rintro D c pre W hD hpre ⟨⟨rfl, ⟨ini, x, rfl, hx⟩, b1⟩, hB⟩ hK
    have x1 : W.cell? ⟨w.heap.size + 1, 0, none⟩ = some (.bool false) := b1.cell 0
    have hl : Hid (lightB l zs most = false) := by
      show _ = _
      obtain ⟨r, er⟩ := hpre
      unfold lightB
      rw [List.all_eq_false]
      refine ⟨x.1, ?_, by rw [hx]; decide⟩
      rw [← er]; simp
    gi_wp2
    refine ⟨by simp, .inl ⟨_, _, rfl, run_takeDeferred hK, ?_⟩⟩
    have c5 := cell_kept x1 (grownBy_putObj' _ D (.deferred none)) (fun r e => by cases e; exact ⟨_, hK, rfl⟩)
    refine ⟨.bool false, by simp [results, Tryz.f210, go_sem, c5], by rw [hl.out], ?_⟩
    exact hB.trans (belowK_b (w := w) nlr W D _ _ (by omega) hK rfl rfl)
end Go.Proofs.YtdnlejboijkcfaaGreatDoor
/- The walks of the reference's layer 12: Is, Cap, Tight, Light, Bound. -/
namespace Go.Proofs.YtdnlejboijkcfaaGreatDoor
set_option maxHeartbeats 8000000
set_option maxRecDepth 100000
open Go.RowKit Nl
end Go.Proofs.YtdnlejboijkcfaaGreatDoor
/- The walks of the statements' own functions of layer 12: alive, few, made. -/
namespace Go.Proofs.YtdnlejboijkcfaaGreatDoor
set_option maxHeartbeats 8000000
set_option maxRecDepth 100000
open Go.RowKit Nl
namespace Nl
end Nl
end Go.Proofs.YtdnlejboijkcfaaGreatDoor
/- The walk of PressTells. -/
namespace Go.Proofs.YtdnlejboijkcfaaGreatDoor
set_option maxHeartbeats 8000000
set_option maxRecDepth 100000
open Go.RowKit Nl
end Go.Proofs.YtdnlejboijkcfaaGreatDoor
/- What a run keeps, and how few are left (no program in sight). -/
namespace Go.Proofs.YtdnlejboijkcfaaGreatDoor
set_option maxHeartbeats 8000000
set_option maxRecDepth 100000
open Go.RowKit
namespace Nl
def heavyF (l most i c : Int) : Int := if kidsB l i && decide (most < c) then 1 else 0
theorem heavyF_nn (l most i c : Int) : 0 ≤ heavyF l most i c := by unfold heavyF; split <;> omega
theorem light_sum {l most : Int} {zs : List (Int × Int)} : lightB l zs most = true ↔ gsum (heavyF l most) zs = 0 := by
  induction zs with
  | nil => simp [lightB, gsum]
  | cons x r ih =>
    have h0 := gsum_zero (f := heavyF l most) (zs := r) (fun x _ => heavyF_nn ..)
    unfold lightB at ih ⊢
    rw [List.all_cons, Bool.and_eq_true, ih]
    simp only [gsum, heavyB]
    unfold heavyF at *
    cases hx : (kidsB l x.1 && decide (most < x.2))
    · simp
    · simp only [Bool.not_true, Bool.false_eq_true, false_and, if_true, false_iff]; omega
theorem light_keep {l most : Int} {zs : List (Int × Int)} (h0 : 0 ≤ most) (r : Roll l zs) {p : Int} (hp : readyB l zs p most = true) (h : lightB l zs most = true) : lightB l (foldDo l zs p).1 most = true := by
  have hk := ready_kids hp
  obtain ⟨_, h2, _⟩ := ready_pair hp
  have e := gsum_fold (f := heavyF l most) (fun i => by unfold heavyF; rw [if_neg]; simp; intro _; omega) r hk
  rw [light_sum] at h ⊢
  have z : heavyF l most p (allV l zs p) = 0 := by unfold heavyF; rw [if_neg]; simp; intro _; omega
  have n1 := heavyF_nn l most (2 * p) (findL (2 * p) zs)
  have n2 := heavyF_nn l most (2 * p + 1) (findL (2 * p + 1) zs)
  have n3 := heavyF_nn l most p (findL p zs)
  have n4 := gsum_zero (f := heavyF l most) (zs := (foldDo l zs p).1) (fun x _ => heavyF_nn ..)
  omega
theorem cap_nn (n k : Int) : 0 ≤ capV n k := by
  unfold capV
  split
  · omega
  · exact Int.ediv_nonneg (by omega) (by omega)
theorem run_light {l most : Int} {zs : List (Int × Int)} (h0 : 0 ≤ most) (r : Roll l zs) (h : lightB l zs most = true) : lightB l (runR l most zs).1 most = true :=
  (run_keeps (most := most) (fun ys => lightB l ys most = true) (fun _ _ r' q hp => light_keep h0 r' hp q) _ zs r h nlr).2.1
theorem nodup_le {xs ys : List Int} (h : xs.Nodup) (hs : ∀ x ∈ xs, x ∈ ys) : xs.length ≤ ys.length := by
  induction xs generalizing ys with
  | nil => simp
  | cons x r ih =>
    obtain ⟨n1, n2⟩ := List.nodup_cons.1 h
    have hx := hs x (List.mem_cons_self ..)
    have := ih n2 (ys := ys.erase x) (fun y hy => (List.mem_erase_of_ne (fun e => n1 (by rw [← e]; exact hy))).2 (hs y (List.mem_cons_of_mem _ hy)))
    have hl := List.length_erase_of_mem hx
    have := List.length_pos_of_mem hx
    simp only [List.length_cons]; omega
theorem roots_len {l : Int} {zs : List (Int × Int)} (r : Roll l zs) : zs.length ≤ 1 + 2 * (parentsL zs).length := by
  have hn : (zs.map Prod.fst).Nodup := by
    rw [List.Nodup, List.pairwise_map]
    exact List.Pairwise.imp (fun h => by omega) r.strict.1
  have h := nodup_le hn (ys := 1 :: (parentsL zs).flatMap (fun p => [2 * p, 2 * p + 1])) (fun i hi => by
    obtain ⟨x, hx, rfl⟩ := List.mem_map.1 hi
    have := (r.strict.2 x hx).1
    by_cases h1 : x.1 = 1
    · rw [h1]; exact List.mem_cons_self ..
    · refine List.mem_cons_of_mem _ (List.mem_flatMap.2 ⟨x.1 / 2, parents_mem.2 ⟨x, hx, by omega, rfl⟩, ?_⟩)
      simp only [List.mem_cons, List.not_mem_nil, or_false]
      omega)
  have e : ∀ P : List Int, (P.flatMap (fun p => [2 * p, 2 * p + 1])).length = 2 * P.length := by
    intro P
    induction P with
    | nil => rfl
    | cons p P ih => rw [List.flatMap_cons, List.length_append, ih]; simp; omega
  rw [List.length_map, List.length_cons, e] at h
  omega
def psum (f : Int → Int) : List Int → Int
  | [] => 0
  | p :: r => f p + psum f r
theorem psum_add (f g : Int → Int) (P : List Int) : psum (fun p => f p + g p) P = psum f P + psum g P := by
  induction P with
  | nil => rfl
  | cons p P ih => simp only [psum, ih]; omega
theorem psum_le {f g : Int → Int} {P : List Int} (h : ∀ p ∈ P, f p ≤ g p) : psum f P ≤ psum g P := by
  induction P with
  | nil => simp [psum]
  | cons p P ih =>
    have := h p (List.mem_cons_self ..)
    have := ih (fun q hq => h q (List.mem_cons_of_mem _ hq))
    simp only [psum]; omega
theorem psum_const (k : Int) (P : List Int) : psum (fun _ => k) P = P.length * k := by
  induction P with
  | nil => simp [psum]
  | cons p P ih => simp only [psum, ih, List.length_cons]; rw [Int.natCast_add, Int.add_mul]; simp; omega
theorem psum_zero {f : Int → Int} {P : List Int} (h : ∀ p ∈ P, f p = 0) : psum f P = 0 := by
  induction P with
  | nil => rfl
  | cons p P ih =>
    simp only [psum, h p (List.mem_cons_self ..), ih (fun q hq => h q (List.mem_cons_of_mem _ hq))]; rfl
theorem psum_one {P : List Int} (hn : P.Nodup) (a v : Int) (hv : 0 ≤ v) : psum (fun p => if p = a then v else 0) P ≤ v := by
  induction P with
  | nil => simpa [psum] using hv
  | cons p P ih =>
    obtain ⟨n1, n2⟩ := List.nodup_cons.1 hn
    simp only [psum]
    by_cases e : p = a
    · rw [if_pos e, psum_zero (fun q hq => if_neg (fun h => n1 (by rw [e, ← h]; exact hq)))]; omega
    · rw [if_neg e]; have := ih n2; omega
theorem find_le {zs : List (Int × Int)} (hp : Pos zs) (id : Int) : 0 ≤ findL id zs := by
  induction zs with
  | nil => simp [findL]
  | cons x r ih =>
    have h1 := hp x (List.mem_cons_self ..)
    have h2 := ih (fun y hy => hp y (List.mem_cons_of_mem _ hy))
    simp only [findL]; split <;> omega
theorem psum_find {zs : List (Int × Int)} (hp : Pos zs) {P : List Int} (hn : P.Nodup) : psum (fun p => findL p zs) P ≤ sumL zs := by
  induction zs with
  | nil => exact Int.le_of_eq (psum_zero (f := fun p => findL p []) (fun p _ => rfl))
  | cons x r ih =>
    have h1 := hp x (List.mem_cons_self ..)
    have hr : Pos r := fun y hy => hp y (List.mem_cons_of_mem _ hy)
    have h2 := ih hr
    have h3 := psum_one hn x.1 x.2 h1
    have h4 : psum (fun p => findL p (x :: r)) P ≤ psum (fun p => (if p = x.1 then x.2 else 0) + findL p r) P := psum_le (fun p _ => by
      have := find_le hr p
      simp only [findL]
      by_cases e : x.1 = p
      · rw [if_pos e, if_pos e.symm]; omega
      · rw [if_neg e, if_neg (fun h => e h.symm)]; omega)
    rw [psum_add] at h4
    simp only [sumL]; omega
theorem psum_pair {zs : List (Int × Int)} (hp : Pos zs) (hs : zs.Pairwise (fun a b => a.1 < b.1)) {P : List Int} (hn : P.Nodup) : psum (fun p => findL (2 * p) zs + findL (2 * p + 1) zs) P ≤ sumL zs := by
  induction zs with
  | nil => exact Int.le_of_eq (psum_zero (f := fun p => findL (2 * p) [] + findL (2 * p + 1) []) (fun p _ => rfl))
  | cons x r ih =>
    have h1 := hp x (List.mem_cons_self ..)
    have hr : Pos r := fun y hy => hp y (List.mem_cons_of_mem _ hy)
    have h2 := ih hr (List.pairwise_cons.1 hs).2
    have h3 := psum_one hn (x.1 / 2) x.2 h1
    have h4 : psum (fun p => findL (2 * p) (x :: r) + findL (2 * p + 1) (x :: r)) P ≤ psum (fun p => (if p = x.1 / 2 then x.2 else 0) + (findL (2 * p) r + findL (2 * p + 1) r)) P := psum_le (fun p _ => by
      have a1 := find_le hr (2 * p)
      have a2 := find_le hr (2 * p + 1)
      simp only [findL]
      by_cases e1 : x.1 = 2 * p
      · rw [if_pos e1, if_neg (by omega), if_pos (by omega)]; omega
      · rw [if_neg e1]
        by_cases e2 : x.1 = 2 * p + 1
        · rw [if_pos e2, if_pos (by omega)]; omega
        · rw [if_neg e2, if_neg (by omega)]; omega)
    rw [psum_add (fun p => if p = x.1 / 2 then x.2 else 0)] at h4
    simp only [sumL]; omega
theorem tight_len {l k : Int} {zs : List (Int × Int)} (r : Roll l zs) (hk : 1 ≤ k) (h : firstR l zs (capV (sumL zs) k) = none) : (zs.length : Int) ≤ 4 * k - 1 := by
  have hL := roots_len r
  have hn := (parents_ord zs).nodup
  have hs0 := r.sum
  have h1 := psum_find r.strict.pos hn
  have h2 := psum_pair r.strict.pos r.strict.1 hn
  have ht := (first_none r).1 h
  have h3 : psum (fun _ => sumL zs + 1) (parentsL zs) ≤ psum (fun p => k * (findL p zs + (findL (2 * p) zs + findL (2 * p + 1) zs))) (parentsL zs) := psum_le (fun p hp => by
    obtain ⟨x, hx, e1, e2⟩ := parents_mem.1 hp
    have hid := r.ids x hx
    have hkid : kidsB l p = true := by
      have h1 := (r.strict.2 x hx).1
      simp only [rightB, decide_eq_true_eq] at hid
      simp only [kidsB, rightB, Bool.and_eq_true, decide_eq_true_eq]
      generalize (2 : Int) ^ l.toNat = M at *
      omega
    have f0 := r.find p
    have f1 := r.find (2 * p)
    have f2 := r.find (2 * p + 1)
    have hpos : 0 < findL (2 * p) zs + findL (2 * p + 1) zs := by
      have hw := (r.strict.2 x hx).2
      have hat := strict_at r.strict (show (x.1, x.2) ∈ zs from hx)
      rcases (show x.1 = 2 * p ∨ x.1 = 2 * p + 1 by omega) with e | e
      · rw [e] at hat; omega
      · rw [e] at hat; omega
    have hr := ht p
    unfold readyB pairV allV at hr
    rw [hkid] at hr
    simp only [if_true, decide_eq_false_iff_not, not_and] at hr
    have h5 := hr hpos
    generalize findL (2 * p) zs + findL (2 * p + 1) zs = c at *
    generalize findL p zs = d at *
    have h6 : capV (sumL zs) k = sumL zs / k := by unfold capV; rw [if_neg (by omega)]
    rw [h6] at h5
    have h7 : sumL zs < k * (d + c) := by
      have h8 : sumL zs / k < d + c := by omega
      have := Int.lt_mul_of_ediv_lt (by omega) h8
      rw [Int.mul_comm]; exact this
    omega)
  rw [psum_const] at h3
  have hmul : ∀ (f : Int → Int) (P : List Int), psum (fun p => k * f p) P = k * psum f P := by
    intro f P
    induction P with
    | nil => simp [psum]
    | cons p P ih => simp only [psum, ih]; rw [Int.mul_add]
  rw [hmul, psum_add] at h3
  have h4 : k * (psum (fun p => findL p zs) (parentsL zs) + psum (fun p => findL (2 * p) zs + findL (2 * p + 1) zs) (parentsL zs)) ≤ k * (2 * sumL zs) := Int.mul_le_mul_of_nonneg_left (by omega) (by omega)
  have h5 : ((parentsL zs).length : Int) * (sumL zs + 1) ≤ k * (2 * sumL zs) := Int.le_trans h3 h4
  have h6 : ((parentsL zs).length : Int) ≤ 2 * k - 1 := by
    by_cases hc : ((parentsL zs).length : Int) ≤ 2 * k - 1
    · exact hc
    · have h7 : 2 * k * (sumL zs + 1) ≤ ((parentsL zs).length : Int) * (sumL zs + 1) := Int.mul_le_mul_of_nonneg_right (by omega) (by omega)
      rw [Int.mul_add] at h7
      have h8 : k * (2 * sumL zs) = 2 * k * sumL zs := by rw [← Int.mul_assoc, Int.mul_comm k 2]
      omega
  omega
end Nl
end Go.Proofs.YtdnlejboijkcfaaGreatDoor
