/- Texts laid together. -/
import Derived.Test.YtdnlejboijkcfaaGreatDoorP46
namespace Go.Proofs.YtdnlejboijkcfaaGreatDoor
open Go.RowKit Nl Tb
namespace Tb
theorem sumT_le {f : Nat → List Nd → Int} : ∀ (l : List Lt) (_ : ∀ x ∈ l, 0 ≤ f x.cover x.its) (x : Lt), x ∈ l → f x.cover x.its ≤ sumT f l
  | [], _, x, h => by cases h
  | y :: r, hp, x, h => by
    have h0 := sumT_nn r (fun s hs => hp s (by simp [hs]))
    have h1 := hp y (by simp)
    simp only [sumT]
    rcases List.mem_cons.1 h with q | q
    · subst q; omega
    · have := sumT_le r (fun s hs => hp s (by simp [hs])) x q
      omega
theorem Pro.any12 {l k : Int} {X ps : List Int} {al : List Nd} {sns : List Sn} {fl : List Lt} (P : Pro l k X ps al sns fl) (hn : ps.length ≤ 12) {x : Lt} (hx : x ∈ fl) : x.cover < 281474976710656 := lt12 hn fun j hj => by
  rcases Nat.lt_or_ge j ps.length with q | q
  · exact q
  · exfalso
    obtain ⟨hf, -⟩ := P.fs x hx
    have hc := P.cov j
    rw [if_neg (by have := P.len; omega)] at hc
    have hb : ∀ (c : Nat) (its : List Nd), 0 ≤ bitF j c its := fun c its => by unfold bitF; split <;> decide
    have a1 := (sumS_le (f := bitF j) sns (fun s _ => hb _ _) x.frm hf).2
    have a2 := sumT_le (f := bitF j) fl (fun s _ => hb _ _) x hx
    have b2 : bitF j x.cover x.its = 1 := by unfold bitF; rw [if_pos hj]
    omega
end Tb
theorem RunP.small {c : Cx} {r : Nat} {X : List Int} {al : List Nd} {W : World} {lab : Nat → Nat} {R : Nat} {sns : List Sn} {fl : List Lt} (ok : CxOk c r) (P : RunP c r X al W lab R sns fl) (j : Nat) (hj : j < (itL c fl).length) : ((itL c fl)[j].2.size : Int) ≤ 58 + 72 * c.k := by
  have hj' : j < fl.length := by rwa [itL_len] at hj
  have e : (itL c fl)[j] = ((fl[j].dst : Int), txt c.ep c.l c.k fl[j].frm fl[j].cover fl[j].zs) := by simp [itL]
  rw [e]
  have hm : fl[j] ∈ fl := List.getElem_mem hj'
  have k2 := ok.k2
  have l4 := P.l4 _ hm
  obtain ⟨hf, -⟩ := P.p.fs _ hm
  have hn := P.p.len
  have n12 := ok.n12
  have := txt_len (ep := c.ep) (f := fl[j].frm) (c := fl[j].cover) (P.p.tif _ hm).dg (by omega) ok.ep (by omega) (P.p.any12 n12 hm)
  show ((txt c.ep c.l c.k fl[j].frm fl[j].cover fl[j].zs).size : Int) ≤ _
  omega
theorem chb_set (g : Nat) (w : World) (j : Nat) (v : Value) : ChB (fun b => b = g) w (w.setCell ⟨g, j, none⟩ v) := ⟨rfl, rfl, rfl, by simp, fun b _ q => Below.heap_setCell _ ⟨g, j, none⟩ _ b q⟩
structure StE where
  kind : Int
  i : Int
  x : Int
  wt : Int
  at' : Int
  by' : Int
def StE.ok (o : StE) : Prop := In64 o.x ∧ In64 o.wt
def stE0 : StE := ⟨0, 0, 0, 0, 0, 0⟩
def StE.cells (o : StE) : Array Value := #[.int .i64 o.kind, .int .i64 o.i, .int .i64 o.x, .int .i64 o.wt, .int .i64 o.at', .int .u8 o.by']
def RdStE (w : World) (v : Value) (os : List StE) : Prop :=
  ∃ p cap, v = .slice p os.length cap ∧ ∀ k, k < os.length → ∃ g off, p = some ⟨g, off, none⟩ ∧ g < w.heap.size ∧
    w.cell? ⟨g, off + k * 6, none⟩ = some (.int .i64 (os.getD k stE0).kind) ∧ w.cell? ⟨g, off + k * 6 + 1, none⟩ = some (.int .i64 (os.getD k stE0).i) ∧ w.cell? ⟨g, off + k * 6 + 2, none⟩ = some (.int .i64 (os.getD k stE0).x) ∧
    w.cell? ⟨g, off + k * 6 + 3, none⟩ = some (.int .i64 (os.getD k stE0).wt) ∧ w.cell? ⟨g, off + k * 6 + 4, none⟩ = some (.int .i64 (os.getD k stE0).at') ∧ w.cell? ⟨g, off + k * 6 + 5, none⟩ = some (.int .u8 (os.getD k stE0).by') ∧ (os.getD k stE0).ok
theorem RdStE.below {w w' : World} {v : Value} {os : List StE} {B : Nat} (h : RdStE w v os) (hb : Below B w w') (hB : w.heap.size ≤ B) : RdStE w' v os := by
  obtain ⟨p, cap, rfl, hr⟩ := h
  refine ⟨p, cap, rfl, fun k hk => ?_⟩
  obtain ⟨g, off, hp, hg, c1, c2, c3, c4, c5, c6, hbd⟩ := hr k hk
  have e := hb.block g (by omega)
  refine ⟨g, off, hp, Nat.lt_of_lt_of_le hg hb.size, ?_, ?_, ?_, ?_, ?_, ?_, hbd⟩
  · rw [World.cell?_of_block (w := w) (a := ⟨g, off + k * 6, none⟩) e]; exact c1
  · rw [World.cell?_of_block (w := w) (a := ⟨g, off + k * 6 + 1, none⟩) e]; exact c2
  · rw [World.cell?_of_block (w := w) (a := ⟨g, off + k * 6 + 2, none⟩) e]; exact c3
  · rw [World.cell?_of_block (w := w) (a := ⟨g, off + k * 6 + 3, none⟩) e]; exact c4
  · rw [World.cell?_of_block (w := w) (a := ⟨g, off + k * 6 + 4, none⟩) e]; exact c5
  · rw [World.cell?_of_block (w := w) (a := ⟨g, off + k * 6 + 5, none⟩) e]; exact c6
structure Lp (c : Cx) (W : World) (av bv : Array Value) (A Bg R j : Nat) (lab : Nat → Nat) (v : Value) (al : List Nd) (sns : List Sn) (X : List Int) (wr : World) : Prop where
  e : RunE c wr lab R false false sns []
  p : Pro c.l c.k X c.ps al sns []
  hu : ∀ i (h : i < sns.length), sns[i].sent = false
  xl : X.length ≤ j
  o : TbO W av bv c.l A Bg lab v al wr
  bag : Bag c.l al
  alen : al.length ≤ j
theorem Lp.below {c : Cx} {W : World} {av bv : Array Value} {A Bg R j : Nat} {lab : Nat → Nat} {v : Value} {al : List Nd} {sns : List Sn} {X : List Int} {wr wr' : World} (h : Lp c W av bv A Bg R j lab v al sns X wr) (q : Below wr.heap.size wr wr') : Lp c W av bv A Bg R j lab v al sns X wr' :=
  ⟨h.e.below q, h.p, h.hu, h.xl, h.o.below q, h.bag, h.alen⟩
theorem Lp.next {c : Cx} {W : World} {av bv : Array Value} {A Bg R j : Nat} {lab : Nat → Nat} {v : Value} {al : List Nd} {sns : List Sn} {X : List Int} {wr : World} (h : Lp c W av bv A Bg R j lab v al sns X wr) : Lp c W av bv A Bg R (j + 1) lab v al sns X wr :=
  ⟨h.e, h.p, h.hu, Nat.le_succ_of_le h.xl, h.o, h.bag, Nat.le_succ_of_le h.alen⟩
theorem put_hu {sns : List Sn} (hu : ∀ i (h : i < sns.length), sns[i].sent = false) (i : Nat) (hi : i < sns.length) (s' : Sn) (e : s'.sent = sns[i].sent) : ∀ j (h : j < (sns.set i s').length), (sns.set i s')[j].sent = false := by
  intro j h
  have hl : (sns.set i s').length = sns.length := List.length_set
  rw [List.getElem_set]
  split
  · rw [e]; exact hu i hi
  · exact hu j _
theorem Lp.no {c : Cx} {W : World} {av bv : Array Value} {A Bg R j : Nat} {lab lab' : Nat → Nat} {v : Value} {al : List Nd} {sns : List Sn} {X : List Int} {wr wr' : World} (h : Lp c W av bv A Bg R j lab v al sns X wr) (i : Nat) (hi : i < sns.length) (x wt : Int) (h' : Nat) (E : RunE c wr' lab' R false false (sns.set i (sns[i].put c.l c.k x wt h')) []) (F : RFr lab lab' wr wr') (c0 : (dgIns c.l c.k sns[i].zs x wt).2 ≠ 0) :
    Lp c W av bv A Bg R (j + 1) lab' v al (sns.set i (sns[i].put c.l c.k x wt h')) X wr' :=
  ⟨E, h.p.put_no i hi (h.hu i hi) x wt h' c0, put_hu h.hu i hi _ rfl, Nat.le_succ_of_le h.xl, h.o.step F, h.bag, Nat.le_succ_of_le h.alen⟩
theorem TbO.turn {W : World} {av bv : Array Value} {L : Int} {A Bg : Nat} {lab : Nat → Nat} {v v' : Value} {al al' : List Nd} {wr wr' : World} (h : TbO W av bv L A Bg lab v al wr) (hk : ∀ b, b < wr.heap.size → b ≠ Bg → wr'.heap[b]? = wr.heap[b]?) (hg : Blk wr' Bg #[.int .i64 L, v'] 40) (rd : RdN wr' v' al') (lv : al' ≠ [] → ∀ b, v'.ownBlock = some b → lab b = 0 ∧ b ≠ Bg) (hb : Below W.heap.size W wr') : TbO W av bv L A Bg lab v' al' wr' := by
  have := h.ne
  exact ⟨h.a.keep (hk A h.a.lt (by omega)), h.b.keep (hk _ h.b.lt (by omega)), hg, rd, h.la, lv, h.low, hb, h.ne⟩
theorem Lp.yes {c : Cx} {W : World} {av bv : Array Value} {A Bg R j : Nat} {lab lab' : Nat → Nat} {v v' : Value} {al : List Nd} {sns : List Sn} {X : List Int} {wr wr' w2 w3 : World} (h : Lp c W av bv A Bg R j lab v al sns X wr) (i : Nat) (hi : i < sns.length) (x wt : Int) (h' : Nat) (E : RunE c wr' lab' R false false (sns.set i (sns[i].put c.l c.k x wt h')) []) (F : RFr lab lab' wr wr') (c0 : (dgIns c.l c.k sns[i].zs x wt).2 = 0)
    (a0 : (badd c.l al x wt).2 = 0) (hb : Below wr'.heap.size wr' w2) (rd : RdN w2 v' (badd c.l al x wt).1) (hv : v' = v ∨ ∀ k, v'.ownBlock = some k → wr'.heap.size ≤ k) (ch : ChB (fun b => b = Bg) w2 w3) (hg : Blk w3 Bg #[.int .i64 c.l, v'] 40) :
    ∃ sns' X', Lp c W av bv A Bg R (j + 1) lab' v' (badd c.l al x wt).1 sns' X' w3 := by
  have o1 := h.o.step F
  have o2 := o1.below hb
  obtain ⟨Y, P, hY⟩ := h.p.put i hi (h.hu i hi) x wt h' c0 a0
  obtain ⟨bg, bl⟩ := h.bag.badd x wt
  have hw := o1.bel.size
  have hnew : ∀ b, wr'.heap.size ≤ b → lab' b = 0 := by
    obtain ⟨_, _, _, _, _, M⟩ := E
    exact M.new
  have hbg := o1.g.lt
  have hlv : (badd c.l al x wt).1 ≠ [] → ∀ b, v'.ownBlock = some b → lab' b = 0 ∧ b ≠ Bg := by
    intro hne b hb
    rcases hv with e | q
    · subst e
      by_cases he : al = []
      · exfalso
        obtain ⟨p1, q1, e1⟩ := o2.rd.val
        obtain ⟨p2, q2, e2⟩ := rd.val
        rw [e1] at e2
        simp only [Value.slice.injEq] at e2
        rw [he] at e2
        exact hne (List.length_eq_zero_iff.1 (by rw [he]; exact e2.2.1.symm))
      · exact o1.lv he b hb
    · have := q b hb
      exact ⟨hnew b this, by omega⟩
  have hkk : ∀ b, b < w2.heap.size → b ≠ Bg → w3.heap[b]? = w2.heap[b]? := fun b hb hn => ch.block b hb hn
  have rd3 : RdN w3 v' (badd c.l al x wt).1 := by
    by_cases he : (badd c.l al x wt).1 = []
    · rw [he] at rd ⊢
      exact rd_none rd
    · exact rd.keep (fun b hb hv => hkk b hb (hlv he b hv).2) ch.size
  exact ⟨_, Y, (E.below hb).out (ch.mono (fun b _ q => by rw [q]; exact o2.la.2.2)), P, put_hu h.hu i hi _ rfl, by have := h.xl; omega, o2.turn hkk hg rd3 hlv (o2.bel.trans (ch.below (fun k _ q => by rw [q]; have := o2.ne; omega) o2.bel.size)), bg, by have := h.alen; omega⟩
end Go.Proofs.YtdnlejboijkcfaaGreatDoor
