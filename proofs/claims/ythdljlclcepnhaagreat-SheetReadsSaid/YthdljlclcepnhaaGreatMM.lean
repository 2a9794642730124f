/- Texts laid together: BlMath2, BlMath4, Made2, BlMath3, Made4. -/
import Derived.Test.YthdljlclcepnhaaGreatBlMath
import Derived.Test.YthdljlclcepnhaaGreatDr5
import Derived.Test.YthdljlclcepnhaaGreatBG
import Derived.Test.YthdljlclcepnhaaGreatDR
import Derived.Test.YthdljlclcepnhaaGreatDGA
import Derived.Test.YthdljlclcepnhaaGreatGO
import Derived.Deep.LoopGhost
/- What is merged is a digest (no program in sight). -/
namespace Go.Proofs.YthdljlclcepnhaaGreat
open Go.RowKit
namespace Nl

def eqF (id i c : Int) : Int := if i = id then c else 0
theorem gsum_find {zs : List (Int × Int)} (h : Strict zs) (id : Int) : gsum (eqF id) zs = findL id zs := by
  induction zs with
  | nil => rfl
  | cons z r ih =>
    simp only [gsum, findL, ih h.tail, eqF]
    by_cases q : z.1 = id
    · rw [if_pos q, if_pos q]
      have : findL id r = 0 := by
        have hh := h.head
        clear ih h
        induction r with
        | nil => rfl
        | cons y r ih =>
          have := hh y (List.mem_cons_self ..)
          simp only [findL]
          rw [if_neg (by omega)]
          exact ih (fun a ha => hh a (List.mem_cons_of_mem _ ha))
      omega
    · rw [if_neg q, if_neg q]; omega
theorem find_in {zs : List (Int × Int)} {id : Int} (h : findL id zs ≠ 0) : (id, findL id zs) ∈ zs := by
  induction zs with
  | nil => exact absurd rfl h
  | cons z r ih =>
    simp only [findL] at h ⊢
    by_cases q : z.1 = id
    · rw [if_pos q]; rw [← q]; exact List.mem_cons_self ..
    · rw [if_neg q] at h ⊢; exact List.mem_cons_of_mem _ (ih h)
theorem join_find {l : Int} {xs ys : List (Int × Int)} (hx : Roll l xs) (hy : Roll l ys) (hs : sumL xs + sumL ys ≤ 72057594037927935) (id : Int) : findL id (joinL xs ys) = findL id xs + findL id ys := by
  obtain ⟨_, r1, _, _, g1⟩ := join_spec hx hy hs
  rw [← gsum_find r1.strict, ← gsum_find hx.strict, ← gsum_find hy.strict]
  exact g1 (eqF id) (fun i a b => by unfold eqF; split <;> omega)
theorem light_find {l most : Int} {zs : List (Int × Int)} (hl : lightB l zs most = true) (h0 : 0 ≤ most) {id : Int} (hk : kidsB l id = true) : findL id zs ≤ most := by
  by_cases h : findL id zs = 0
  · omega
  · have hm := find_in h
    simp only [lightB, List.all_eq_true, Bool.not_eq_true'] at hl
    have := hl _ hm
    simp only [heavyB, hk, Bool.true_and, decide_eq_false_iff_not] at this
    omega
theorem cap_add {a b k : Int} (ha : 0 ≤ a) (hb : 0 ≤ b) (hk : 1 ≤ k) : capV a k + capV b k ≤ capV (a + b) k := by
  unfold capV
  rw [if_neg (by omega), if_neg (by omega), if_neg (by omega)]
  refine (Int.le_ediv_iff_mul_le (by omega)).2 ?_
  have h1 := Int.ediv_mul_le a (show k ≠ 0 by omega)
  have h2 := Int.ediv_mul_le b (show k ≠ 0 by omega)
  rw [Int.add_mul]; omega
/-- What two digests are merged to. -/
def mergeL (l k : Int) (zs zs' : List (Int × Int)) : List (Int × Int) := joinL (lowL l k zs) (lowL l k zs')
theorem merge_spec {l k K K' : Int} {zs zs' : List (Int × Int)} (d : Dg l K zs) (d' : Dg l K' zs') (h1 : 1 ≤ k) (h2 : k ≤ K) (h3 : k ≤ K') (hs : sumL zs + sumL zs' ≤ 72057594037927935) :
    Dg l k (mergeL l k zs zs') ∧ sumL (mergeL l k zs zs') = sumL zs + sumL zs' ∧ ((mergeL l k zs zs').length : Int) ≤ 8 * k - 2 ∧ (mergeL l k zs zs').length ≤ zs.length + zs'.length ∧
      ∀ f : Int → Int → Int, (∀ i a b, f i (a + b) = f i a + f i b) → gsum f (mergeL l k zs zs') = gsum f (lowL l k zs) + gsum f (lowL l k zs') := by
  obtain ⟨a1, a2, a3, a4⟩ := low_spec d h1 h2
  obtain ⟨b1, b2, b3, b4⟩ := low_spec d' h1 h3
  have hs' : sumL (lowL l k zs) + sumL (lowL l k zs') ≤ 72057594037927935 := by omega
  obtain ⟨_, r1, r2, r3, r4⟩ := join_spec a1.roll b1.roll hs'
  have hf := join_find a1.roll b1.roll hs'
  have p1 := sumL_nonneg a1.roll.strict.pos
  have p2 := sumL_nonneg b1.roll.strict.pos
  unfold mergeL
  generalize lowL l k zs = A at *
  generalize lowL l k zs' = B at *
  have hl1 := a1.light
  have hl2 := b1.light
  have ca := cap_add p1 p2 h1
  have c1 := cap_nn (sumL A) k
  have c2 := cap_nn (sumL B) k
  refine ⟨⟨r1, h1, a1.k2, ?_, by omega⟩, by omega, by omega, by omega, r4⟩
  rw [r3]
  simp only [lightB, List.all_eq_true, Bool.not_eq_true']
  intro z hz
  cases hk : kidsB l z.1
  · simp [heavyB, hk]
  · have e := strict_at r1.strict (id := z.1) (c := z.2) hz
    rw [hf] at e
    have q1 := light_find hl1 c1 hk
    have q2 := light_find hl2 c2 hk
    simp only [heavyB, hk, Bool.true_and, decide_eq_false_iff_not]
    omega
theorem merge_load {l k kind : Int} {zs zs' : List (Int × Int)} (hp : poolIs kind l = true) (m : Dg l k (mergeL l k zs zs')) : loadE kind l k (mergeL l k zs zs') = 0 := by
  have hk : isK k = true := decide_eq_true ⟨m.k1, m.k2⟩
  have := m.room
  unfold loadE
  rw [if_neg (by rw [hp, hk]; decide), if_neg (by rw [rollB_iff.2 m.roll]; decide), if_neg (fun q => q.elim (fun q => by omega) (fun q => by rw [m.light] at q; cases q))]
end Nl
end Go.Proofs.YthdljlclcepnhaaGreat

/- What calls leave of a digest (no program in sight). -/
namespace Go.Proofs.YthdljlclcepnhaaGreat
namespace Nl
def dgAll (l k : Int) (os : List (Int × Int × Int)) : List (Int × Int) := os.foldl (fun zs o => (dgDo l k zs o.1 o.2.1 o.2.2).1) []
theorem dgAll_nil (l k : Int) : dgAll l k [] = [] := rfl
theorem dgAll_step {l k o x wt : Int} {os : List (Int × Int × Int)} {j : Nat} (h : j < os.length) (eo : os.getD j (0, 0, 0) = (o, x, wt)) :
    dgAll l k (os.take (j + 1)) = (dgDo l k (dgAll l k (os.take j)) o x wt).1 := by
  have e : os[j] = (o, x, wt) := by
    rw [← eo, List.getD_eq_getElem?_getD, List.getElem?_eq_getElem h]; rfl
  unfold dgAll
  rw [List.take_add_one, List.foldl_append, List.getElem?_eq_getElem h, e]
  rfl
theorem dgAll_all {l k : Int} {os : List (Int × Int × Int)} : dgAll l k (os.take os.length) = dgAll l k os := by rw [List.take_length]
end Nl
end Go.Proofs.YthdljlclcepnhaaGreat

/- The walk of the statements' own Made: a digest of calls, and the bag of all that was accepted. -/
namespace Go.Proofs.YthdljlclcepnhaaGreat
open Go.RowKit Nl

namespace Nl
/-- What becomes of the bag. -/
def bagDo (l k : Int) (zs its : List (Int × Int)) (o x wt : Int) : List (Int × Int) :=
  if o = 2 then [] else if o ≠ 1 ∧ (dgDo l k zs o x wt).2 = 0 then (badd l its x wt).1 else its
/-- Nodes and readings that belong together. -/
structure MadeI (l k : Int) (zs its : List (Int × Int)) : Prop where
  dg : Dg l k zs
  bag : Bag l its
  sum : sumL its = sumL zs
  st : Stands l zs its
theorem MadeI.nil {l k : Int} (d : Dg l k []) : MadeI l k [] [] := ⟨d, Bag.nil l, rfl, Stands.nil l⟩
theorem MadeI.com {l k : Int} {zs its : List (Int × Int)} (m : MadeI l k zs its) : MadeI l k (comL l k zs).1 its := by
  obtain ⟨c1, c2, _⟩ := m.dg.com
  exact ⟨c1, m.bag, by rw [c2]; exact m.sum, m.st.run m.dg.roll⟩
theorem MadeI.doo {l k : Int} {zs its : List (Int × Int)} (m : MadeI l k zs its) (o x wt : Int) : MadeI l k (dgDo l k zs o x wt).1 (bagDo l k zs its o x wt) ∧ (bagDo l k zs its o x wt).length ≤ its.length + 1 := by
  unfold bagDo
  by_cases h2 : o = 2
  · subst h2
    have e : dgDo l k zs 2 x wt = ([], 0) := rfl
    rw [e, if_pos rfl]
    exact ⟨MadeI.nil (Dg.nil m.dg.roll.l1 m.dg.roll.l2 m.dg.k1 m.dg.k2), by simp⟩
  rw [if_neg h2]
  by_cases h1 : o = 1
  · subst h1
    have e : dgDo l k zs 1 x wt = ((comL l k zs).1, ((comL l k zs).2.length : Int)) := rfl
    rw [e, if_neg (fun h => h.1 rfl)]
    exact ⟨m.com, by simp⟩
  have e : dgDo l k zs o x wt = dgIns l k zs x wt := by unfold dgDo; rw [if_neg h1, if_neg h2]
  rw [e]
  obtain ⟨i1, i2, i3, i4⟩ := m.dg.ins x wt
  by_cases h0 : (dgIns l k zs x wt).2 = 0
  · rw [if_pos ⟨h1, h0⟩]
    obtain ⟨a1, a2, a3, a4⟩ := i3 h0
    have hb := m.sum
    have eb : badd l its x wt = (putR x wt its, 0) := by
      unfold badd
      rw [if_neg (by rw [a1]; decide), if_neg (by omega), if_neg (by omega)]
    rw [eb]
    refine ⟨⟨i1, m.bag.put a1 a2 (by omega), by rw [putR_sum, a4]; omega, ?_⟩, putR_length _⟩
    have hi : ∀ id, heldV l id (putR x wt its) = heldV l id its + heldF l id x wt := fun id => putR_gsum (fun a => by unfold heldF; split <;> omega) its
    have ei : (dgIns l k zs x wt).1 = addS (if fullB k zs (leafV l x) then (comL l k zs).1 else zs) (leafV l x) wt := by
      unfold dgIns
      rw [if_neg (by rw [a1]; decide), if_neg (by omega), if_neg (by omega)]
    rw [ei]
    cases hf : fullB k zs (leafV l x)
    · simp only [Bool.false_eq_true, if_false]
      exact m.st.leaf m.dg.roll a1 (by omega) hi
    · simp only [if_true]
      exact m.com.st.leaf m.com.dg.roll a1 (by omega) hi
  · rw [if_neg (fun h => h0 h.2)]
    rw [i4 h0]
    exact ⟨m, by simp⟩
end Nl

def MdPost (l k kind : Int) (n : Nat) (w : World) (e : Ending) (w' : World) : Prop :=
  ∃ dg q g h v zs its, e = .returned (.tuple #[.pointer (some ⟨dg, 0, none⟩), .agg #[.int .i64 l, v]]) ∧ DgV w' dg q g h kind l k 2000 zs ∧ RdN w' v its ∧ NotD v its (DB dg q g h) ∧ MadeI l k zs its ∧ zs.length ≤ n ∧ its.length ≤ n ∧ (∀ j, DB dg q g h j → w.heap.size ≤ j) ∧ Below w.heap.size w w'
def MdRel (dg q g h0 B b8 : Nat) (kind l k : Int) (N : Nat) (w : World) (gn : Nat) (i : Value) (wr : World) : Prop :=
  ∃ (j : Nat) (zs its : List Nd) (h : Nat) (v : Value), i = .int .i64 j ∧ j ≤ N ∧ N - j ≤ gn ∧ zs.length ≤ j ∧ its.length ≤ j ∧ (h = h0 ∨ B ≤ h) ∧ B ≤ wr.heap.size ∧ DgV wr dg q g h kind l k 2000 zs ∧
    Blk wr (w.heap.size + 1) #[.int .i64 0, .slice none 0 0] 45 ∧ Blk wr b8 #[.int .i64 l, v] 45 ∧ RdN wr v its ∧ NotD v its (fun j => DB dg q g h j ∨ j = b8 ∨ j = w.heap.size + 1) ∧ Hid (MadeI l k zs its) ∧ Below w.heap.size w wr

set_option maxRecDepth 100000 in
set_option maxHeartbeats 4000000 in
theorem d_made_no (l k kind : Int) (v : Value) (os : List Op3) (w : World) (bk : In64 k) (ho : RdO w v os) (hP : (poolIs kind l && isK k) = false) :
    Calls Tryz.prog 10 #[.agg #[.int .i64 l, .int .i64 k, .int .i64 kind], v] w fun e w' => e = .returned (.tuple #[.pointer none, .agg #[.int .i64 0, .slice none 0 0]]) ∧ Below w.heap.size w w' := by
  obtain ⟨p, cap, rfl, hlen, -⟩ := id ho
  have N := hid (fun W : World => dg_new_no kind l k W bk hP)
  have hba : Below w.heap.size w ((w.alloc (.cells #[.int .i64 l, .int .i64 k, .int .i64 kind] 37)).alloc (.cells #[.int .i64 0, .slice none 0 0] 45)) := ((Below.refl _ _).alloc (Nat.le_refl _) _).alloc (by simp) _
  have Y : Blk ((w.alloc (.cells #[.int .i64 l, .int .i64 k, .int .i64 kind] 37)).alloc (.cells #[.int .i64 0, .slice none 0 0] 45)) (w.heap.size + 1) #[.int .i64 0, .slice none 0 0] 45 := by
    have h := Blk.new (w.alloc (.cells #[.int .i64 l, .int .i64 k, .int .i64 kind] 37)) #[.int .i64 0, .slice none 0 0] 45
    simpa using h
  have hsx : ((w.alloc (.cells #[.int .i64 l, .int .i64 k, .int .i64 kind] 37)).alloc (.cells #[.int .i64 0, .slice none 0 0] 45)).heap.size = w.heap.size + 2 := by simp
  clear ho hP
  go_enter Tryz.func10, Tryz.ntmps10
  go_wp2_with fail
  refine (N.out _).mono ?_
  rintro e w2 ⟨rfl, hb2⟩
  have hs2 := hb2.size
  have Y2 := Y.below hb2 (Nat.le_refl _)
  have y0 : w2.cell? ⟨w.heap.size + 1, 0, none⟩ = some (.int .i64 0) := Y2.cell 0
  have y1 : w2.cell? ⟨w.heap.size + 1, 1, none⟩ = some (.slice none 0 0) := Y2.cell 1
  have f0 := Y2.free 0
  have f1 := Y2.free 1
  have hl1 : w.heap.size + 1 < w2.heap.size := by omega
  have hbw := hba.trans (hb2.mono (by omega))
  go_wp2_with fail
  have Z := (Y2.set 0 (.int .i64 0)).set 1 (.slice none 0 0)
  have z0 : World.cell? _ ⟨w.heap.size + 1, 0, none⟩ = some (.int .i64 0) := Z.cell 0
  have z1 : World.cell? _ ⟨w.heap.size + 1, 1, none⟩ = some (.slice none 0 0) := Z.cell 1
  have hbz := (hbw.setCell (p := ⟨w.heap.size + 1, 0, none⟩) (Nat.le_succ _) (.int .i64 0)).setCell (p := ⟨w.heap.size + 1, 1, none⟩) (Nat.le_succ _) (.slice none 0 0)
  exact bodyPost_ret (v := .tuple #[.pointer none, .agg #[.int .i64 0, .slice none 0 0]]) (by simp [results, Tryz.results10, go_sem, z0, z1]) rfl ⟨rfl, hbz⟩

set_option maxRecDepth 100000 in
set_option maxHeartbeats 4000000 in
theorem d_made (l k kind : Int) (v : Value) (os : List Op3) (w : World) (ho : RdO w v os) (hN : os.length ≤ 1000) (hP1 : poolIs kind l = true) (hP2 : isK k = true) :
    Calls Tryz.prog 10 #[.agg #[.int .i64 l, .int .i64 k, .int .i64 kind], v] w (MdPost l k kind os.length w) := by
  obtain ⟨p, cap, rfl, hlen, -⟩ := id ho
  have N := hid (fun W : World => dg_new kind l k W hP1 hP2)
  have hba : Below w.heap.size w ((w.alloc (.cells #[.int .i64 l, .int .i64 k, .int .i64 kind] 37)).alloc (.cells #[.int .i64 0, .slice none 0 0] 45)) := ((Below.refl _ _).alloc (Nat.le_refl _) _).alloc (by simp) _
  have X := (Blk.new w #[.int .i64 l, .int .i64 k, .int .i64 kind] 37).alloc (.cells #[.int .i64 0, .slice none 0 0] 45)
  have Y : Blk ((w.alloc (.cells #[.int .i64 l, .int .i64 k, .int .i64 kind] 37)).alloc (.cells #[.int .i64 0, .slice none 0 0] 45)) (w.heap.size + 1) #[.int .i64 0, .slice none 0 0] 45 := by
    have h := Blk.new (w.alloc (.cells #[.int .i64 l, .int .i64 k, .int .i64 kind] 37)) #[.int .i64 0, .slice none 0 0] 45
    simpa using h
  have hsx : ((w.alloc (.cells #[.int .i64 l, .int .i64 k, .int .i64 kind] 37)).alloc (.cells #[.int .i64 0, .slice none 0 0] 45)).heap.size = w.heap.size + 2 := by simp
  clear hP1 hP2
  go_enter Tryz.func10, Tryz.ntmps10
  go_wp2_with fail
  refine (N.out _).mono ?_
  rintro e w2 ⟨dg, q, g, h0, rfl, d, hdg, hq, hg, hh, hb2⟩
  generalize ((w.alloc (.cells #[.int .i64 l, .int .i64 k, .int .i64 kind] 37)).alloc (.cells #[.int .i64 0, .slice none 0 0] 45)) = w1 at *
  have hs2 := hb2.size
  have X2 := X.below hb2 (Nat.le_refl _)
  have Y2 := Y.below hb2 (Nat.le_refl _)
  have x0 : w2.cell? ⟨w.heap.size, 0, none⟩ = some (.int .i64 l) := X2.cell 0
  have hbw := hba.trans (hb2.mono (by omega))
  have ltd := d.ltB
  have hl1 := d.inv.roll.l1
  have hl2 := d.inv.roll.l2
  clear N X Y hb2 hba
  go_wp2_with fail
  have W8 := Blk.new w2 #[.int .i64 l, .slice none 0 0] 45
  have hb3 : Below w2.heap.size w2 (w2.alloc (.cells #[.int .i64 l, .slice none 0 0] 45)) := (Below.refl _ _).alloc (Nat.le_refl _) _
  have d3 := d.below hb3 (Nat.le_refl _)
  have Y3 := Y2.below hb3 (Nat.le_refl _)
  have hbw3 := hbw.trans (hb3.mono hbw.size)
  have hs3 : (w2.alloc (.cells #[.int .i64 l, .slice none 0 0] 45)).heap.size = w2.heap.size + 1 := by simp
  generalize (w2.alloc (.cells #[.int .i64 l, .slice none 0 0] 45)) = w3 at *
  have R0 : Hid (MdRel dg q g h0 (w2.heap.size + 1) w2.heap.size kind l k os.length w os.length (.int .i64 (0 : Nat)) w3) :=
    ⟨0, [], [], h0, _, rfl, Nat.zero_le _, Nat.le_refl _, Nat.le_refl _, Nat.le_refl _, .inl rfl, by omega, d3, Y3, W8, RdN.nil _, .inl rfl, MadeI.nil d3.inv, hbw3⟩
  have hd8 : ∀ h, (h = h0 ∨ w2.heap.size + 1 ≤ h) → ¬ DB dg q g h w2.heap.size := fun h hh hp => by
    have e1 := ltd dg (.inl rfl)
    have e2 := ltd q (.inr (.inl rfl))
    have e3 := ltd g (.inr (.inr (.inl rfl)))
    have e4 := ltd h0 (.inr (.inr (.inr rfl)))
    rcases hp with e | e | e | e <;> omega
  clear d d3 Y2 Y3 W8 hb3 x0 X2 hbw hbw3
  go_loopg [29] os.length (fun gn i wr => MdRel dg q g h0 (w2.heap.size + 1) w2.heap.size kind l k os.length w gn i wr)
  case atStart => exact R0.out
  case round =>
    obtain ⟨j, zs, its, h, v0, rfl, hj, hgn, hzl, hil, hh1, hBr, d, Y, X8, hr, nd, mi, hbw⟩ := hrel
    obtain ⟨p0, cap0, rfl⟩ := hr.val
    by_cases hlt : j < os.length
    · obtain ⟨o, x, wt, eo⟩ : ∃ o x wt, os.getD j (0, 0, 0) = (o, x, wt) := ⟨_, _, _, rfl⟩
      obtain ⟨p', cap', hv, _, hat⟩ := ho.below hbw (Nat.le_refl _)
      obtain ⟨gs, off, hp, hg2, q0, q1, q2, bo, bx, bw⟩ := hat j hlt
      rw [eo] at q0 q1 q2 bo bx bw
      simp only [Value.slice.injEq, true_and] at hv
      obtain ⟨rfl, rfl⟩ := hv
      subst hp
      have hba3 : Below wr.heap.size wr (wr.alloc (.cells #[.int .i64 o, .int .i64 x, .int .i64 wt] 94)) := (Below.refl _ _).alloc (Nat.le_refl _) _
      have O := Blk.new wr #[.int .i64 o, .int .i64 x, .int .i64 wt] 94
      have da := d.below hba3 (Nat.le_refl _)
      have Ya := Y.below hba3 (Nat.le_refl _)
      have Xa := X8.below hba3 (Nat.le_refl _)
      have ra := hr.below hba3 (Nat.le_refl _)
      have hsa : (wr.alloc (.cells #[.int .i64 o, .int .i64 x, .int .i64 wt] 94)).heap.size = wr.heap.size + 1 := by simp
      have hbwa := hbw.trans (hba3.mono hbw.size)
      have L1 := hid (dg_do da o x wt (by decide) (by omega) (by omega) bx bw)
      obtain ⟨mi2, mil⟩ := mi.out.doo o x wt
      have dlen := (d.inv.doo o x wt).2
      have ltd' := d.ltB
      have hy1 : ¬ DB dg q g h (w.heap.size + 1) := fun hp => by rcases hp with e | e | e | e <;> omega
      have hy8 : ¬ DB dg q g h w2.heap.size := hd8 h hh1
      have hl8 : w2.heap.size < wr.heap.size := X8.lt
      clear eo hat hba3 d Y X8 hr hlen
      obtain ⟨R, eR⟩ : ∃ R, dgDo l k zs o x wt = R := ⟨_, rfl⟩
      rw [eR] at L1 mi2 dlen
      have ER := hid eR
      have MI2 := hid mi2
      clear eR mi2
      go_wp2_with fail
      generalize (wr.alloc (.cells #[.int .i64 o, .int .i64 x, .int .i64 wt] 94)) = wa at *
      refine L1.out.mono ?_
      rintro e w5 ⟨rfl, h5, d5, hh5, c5⟩
      have hs5 := c5.size
      have O5 := O.keep (c5.block _ O.lt (fun hp => by have := ltd' _ hp; omega))
      have Y5 := Ya.keep (c5.block _ Ya.lt hy1)
      have X5 := Xa.keep (c5.block _ Xa.lt hy8)
      have r5 := nd.keep ra c5 (fun j hj => .inl hj)
      have B5 : Below w.heap.size w w5 := ChB.of_new hbwa c5 (fun j hj => by rcases hj with e | e | e | e <;> omega)
      have hh5' : h5 = h0 ∨ w2.heap.size + 1 ≤ h5 := by rcases hh5 with e | e; · rw [e]; exact hh1
                                                        · right; omega
      have nd5 : NotD (.slice p0 its.length cap0) its (fun j => DB dg q g h5 j ∨ j = w2.heap.size ∨ j = w.heap.size + 1) := nd.more ra (fun j hj => by
        rcases hj with (e | e | e | e) | e
        · exact .inl (.inl (.inl e))
        · exact .inl (.inl (.inr (.inl e)))
        · exact .inl (.inl (.inr (.inr (.inl e))))
        · rcases hh5 with e2 | e2
          · exact .inl (.inl (.inr (.inr (.inr (e.trans e2)))))
          · exact .inr (by omega)
        · exact .inl (.inr e))
      have hy18 : ¬ DB dg q g h5 (w.heap.size + 1) := fun hp => by rcases hp with e | e | e | e <;> omega
      have hy88 := hd8 h5 hh5'
      have o0 : w5.cell? ⟨wr.heap.size, 0, none⟩ = some (.int .i64 o) := O5.cell 0
      have o1 : w5.cell? ⟨wr.heap.size, 1, none⟩ = some (.int .i64 x) := O5.cell 1
      have o2 : w5.cell? ⟨wr.heap.size, 2, none⟩ = some (.int .i64 wt) := O5.cell 2
      have x0 : w5.cell? ⟨w2.heap.size, 0, none⟩ = some (.int .i64 l) := X5.cell 0
      have x1 : w5.cell? ⟨w2.heap.size, 1, none⟩ = some (.slice p0 its.length cap0) := X5.cell 1
      have f0 := X5.free 0
      have f1 := X5.free 1
      have hl5 : w2.heap.size < w5.heap.size := by omega
      have hlo5 : wr.heap.size < w5.heap.size := by omega
      obtain ⟨Z, nn⟩ := R
      simp only at MI2 dlen ⊢
      clear L1 c5 hh5 nd Ya Xa ra da hbwa O
      by_cases h2 : o = 2
      · have eb : Hid (bagDo l k zs its o x wt = []) := by show _ = _; unfold bagDo; rw [if_pos h2]
        have hq2 : (o == 2) = true := by simpa using h2
        clear h2
        as_aux_lemma =>
          go_wp2_with fail
          go_roundg (os.length - (j + 1))
          case rel =>
            refine ⟨j + 1, Z, [], h5, .slice none 0 0, by go_num, by omega, by omega, by omega, by simp, hh5', by simp; omega, d5.keepB (fun j hj hd => Below.heap_setCell _ _ _ _ (by intro e; have e2 : j = w2.heap.size := e; subst e2; exact hy88 hd)), Y5.set_other _ _ (by omega), ?_, RdN.nil _, .inl rfl, by have := MI2.out; rw [eb.out] at this; exact this, B5.setCell (p := ⟨w2.heap.size, 1, none⟩) (by show w.heap.size ≤ w2.heap.size; omega) _⟩
            exact X5.set 1 (.slice none 0 0)
          case measure => omega
      · have hq2 : (o == 2) = false := by simpa using h2
        by_cases h1 : o = 1
        · have eb : Hid (bagDo l k zs its o x wt = its) := by show _ = _; unfold bagDo; rw [if_neg h2, if_neg (fun h => h.1 h1)]
          have hq1 : (o != 1) = false := by simp [h1]
          clear h2 h1
          as_aux_lemma =>
            go_wp2_with fail
            go_roundg (os.length - (j + 1))
            case rel => exact ⟨j + 1, Z, its, h5, _, by go_num, by omega, by omega, by omega, by omega, hh5', by omega, d5, Y5, X5, r5, nd5, by have := MI2.out; rw [eb.out] at this; exact this, B5⟩
            case measure => omega
        · have hq1 : (o != 1) = true := by simp [h1]
          by_cases h0' : nn = 0
          · have eb : Hid (bagDo l k zs its o x wt = (badd l its x wt).1) := by show _ = _; unfold bagDo; rw [if_neg h2, ER.out, if_pos ⟨h1, h0'⟩]
            have hq0 : (nn == 0) = true := by simpa using h0'
            have BA := hid (b_add l x wt r5 (by omega) mi.out.bag hl1 hl2 bx bw)
            obtain ⟨S, eS⟩ : ∃ S, badd l its x wt = S := ⟨_, rfl⟩
            rw [eS] at BA eb
            have MI3 : Hid (MadeI l k Z S.1) := by have := MI2.out; rw [eb.out] at this; exact this
            have mil3 : S.1.length ≤ its.length + 1 := by rw [eb.out] at mil; exact mil
            obtain ⟨its2, cc⟩ := S
            clear h2 h1 h0' eS eb MI2
            go_wp2_with fail
            refine BA.out.mono ?_
            rintro e w6 ⟨v6, rfl, r6, hv6, hb6⟩
            simp only at r6 MI3 mil3 ⊢
            have hs6 := hb6.size
            obtain ⟨p6, cap6, rfl⟩ := r6.val
            have X6 := X5.below hb6 (Nat.le_refl _)
            have Y6 := Y5.below hb6 (Nat.le_refl _)
            have d6 := d5.below hb6 (Nat.le_refl _)
            have nd6 := nd5.next r5 r6 hv6 (fun j hj => by
              rcases hj with e | e | e
              · exact d5.ltB j e
              · omega
              · omega)
            have B6 := B5.trans (hb6.mono B5.size)
            clear x0 x1 f0 f1 o0 o1 o2
            have x0 : w6.cell? ⟨w2.heap.size, 0, none⟩ = some (.int .i64 l) := X6.cell 0
            have x1 : w6.cell? ⟨w2.heap.size, 1, none⟩ = some (.slice p0 its.length cap0) := X6.cell 1
            have f0 := X6.free 0
            have f1 := X6.free 1
            have hl6 : w2.heap.size < w6.heap.size := by omega
            as_aux_lemma =>
              go_wp2_with fail
              go_roundg (os.length - (j + 1))
              case rel =>
                have hne : ∀ j, DB dg q g h5 j → j ≠ w2.heap.size := fun j hd e => hy88 (e ▸ hd)
                refine ⟨j + 1, Z, its2, h5, .slice p6 its2.length cap6, by go_num, by omega, by omega, by omega, by omega, hh5', by simp; omega, d6.keepB (fun j hj hd => (Below.heap_setCell _ _ _ _ (hne j hd)).trans (Below.heap_setCell _ _ _ _ (hne j hd))), (Y6.set_other _ _ (by omega)).set_other _ _ (by omega), (X6.set 0 (.int .i64 l)).set 1 (.slice p6 its2.length cap6), ?_, nd6, MI3, (B6.setCell (p := ⟨w2.heap.size, 0, none⟩) (by show w.heap.size ≤ w2.heap.size; omega) _).setCell (p := ⟨w2.heap.size, 1, none⟩) (by show w.heap.size ≤ w2.heap.size; omega) _⟩
                rcases nd6 with e | e
                · subst e; exact r6.any
                · refine r6.keep (fun j hj ho => ?_) (by simp)
                  have : j ≠ w2.heap.size := fun q => e j ho (.inr (.inl q))
                  exact (Below.heap_setCell _ _ _ _ this).trans (Below.heap_setCell _ _ _ _ this)
              case measure => omega
          · have eb : Hid (bagDo l k zs its o x wt = its) := by show _ = _; unfold bagDo; rw [if_neg h2, ER.out, if_neg (fun h => h0' h.2)]
            have hq0 : (nn == 0) = false := by simpa using h0'
            clear h2 h1 h0'
            as_aux_lemma =>
              go_wp2_with fail
              go_roundg (os.length - (j + 1))
              case rel => exact ⟨j + 1, Z, its, h5, _, by go_num, by omega, by omega, by omega, by omega, hh5', by omega, d5, Y5, X5, r5, nd5, by have := MI2.out; rw [eb.out] at this; exact this, B5⟩
              case measure => omega
    · have y0 : wr.cell? ⟨w.heap.size + 1, 0, none⟩ = some (.int .i64 0) := Y.cell 0
      have y1 : wr.cell? ⟨w.heap.size + 1, 1, none⟩ = some (.slice none 0 0) := Y.cell 1
      have f0 := Y.free 0
      have f1 := Y.free 1
      have x0 : wr.cell? ⟨w2.heap.size, 0, none⟩ = some (.int .i64 l) := X8.cell 0
      have x1 : wr.cell? ⟨w2.heap.size, 1, none⟩ = some (.slice p0 its.length cap0) := X8.cell 1
      have hl8 : w2.heap.size < wr.heap.size := X8.lt
      have hl1 : w.heap.size + 1 < wr.heap.size := by omega
      go_wp2_with fail
      go_region
      go_wp2_with fail
      have Z := ((Y.set 0 (.int .i64 l)).set 1 (.slice p0 its.length cap0)).drewN 1
      have z0 : World.cell? _ ⟨w.heap.size + 1, 0, none⟩ = some (.int .i64 l) := Z.cell 0
      have z1 : World.cell? _ ⟨w.heap.size + 1, 1, none⟩ = some (.slice p0 its.length cap0) := Z.cell 1
      have zz0 : (wr.setCell ⟨w.heap.size + 1, 0, none⟩ (.int .i64 l)).cell? ⟨w.heap.size + 1, 0, none⟩ = some (.int .i64 l) := (Y.set 0 (.int .i64 l)).cell 0
      have zz1 : ((wr.setCell ⟨w.heap.size + 1, 0, none⟩ (.int .i64 l)).setCell ⟨w.heap.size + 1, 1, none⟩ (.slice p0 its.length cap0)).cell? ⟨w.heap.size + 1, 1, none⟩ = some (.slice p0 its.length cap0) := Z.cell 1
      have hbz := below_drewN ((hbw.setCell (p := ⟨w.heap.size + 1, 0, none⟩) (Nat.le_succ _) (.int .i64 l)).setCell (p := ⟨w.heap.size + 1, 1, none⟩) (Nat.le_succ _) (.slice p0 its.length cap0)) 1
      have hy1 : ¬ DB dg q g h (w.heap.size + 1) := fun hp => by rcases hp with e | e | e | e <;> omega
      have hne : ∀ j, DB dg q g h j → j ≠ w.heap.size + 1 := fun j hd e => hy1 (e ▸ hd)
      refine bodyPost_ret (v := .tuple #[.pointer (some ⟨dg, 0, none⟩), .agg #[.int .i64 l, .slice p0 its.length cap0]]) (by simp [results, Tryz.results10, go_sem, zz0, zz1]) rfl ⟨dg, q, g, h, _, zs, its, rfl, ?_, ?_, ?_, mi.out, by omega, by omega, ?_, hbz⟩
      · exact d.keepB (fun j hj hd => (Below.heap_setCell _ _ _ _ (hne j hd)).trans (Below.heap_setCell _ _ _ _ (hne j hd)))
      · rcases nd with e | e
        · subst e; exact hr.any
        · refine hr.keep (fun j hj ho => ?_) (by simp)
          have : j ≠ w.heap.size + 1 := fun q => e j ho (.inr (.inr q))
          exact (Below.heap_setCell _ _ _ _ this).trans (Below.heap_setCell _ _ _ _ this)
      · exact nd.more hr (fun j hj => .inl (.inl hj))
      · intro j hj
        rcases hj with e | e | e | e <;> omega
end Go.Proofs.YthdljlclcepnhaaGreat

/- What is merged stands for what both were told (no program in sight). -/
namespace Go.Proofs.YthdljlclcepnhaaGreat
open Go.RowKit
namespace Nl

theorem merge_comm {l k K K' : Int} {zs zs' : List (Int × Int)} (d : Dg l K zs) (d' : Dg l K' zs') (h1 : 1 ≤ k) (h2 : k ≤ K) (h3 : k ≤ K') (hs : sumL zs + sumL zs' ≤ 72057594037927935) : mergeL l k zs' zs = mergeL l k zs zs' := by
  obtain ⟨a1, a2, _, _⟩ := low_spec d h1 h2
  obtain ⟨b1, b2, _, _⟩ := low_spec d' h1 h3
  exact join_comm b1.roll a1.roll (by omega)
theorem merge_stands {l k K K' : Int} {zs zs' its its' : List (Int × Int)} (d : Dg l K zs) (d' : Dg l K' zs') (s : Stands l zs its) (s' : Stands l zs' its') (h1 : 1 ≤ k) (h2 : k ≤ K) (h3 : k ≤ K') (hs : sumL zs + sumL zs' ≤ 72057594037927935)
    (id : Int) (hid : 1 ≤ id) : belowV id (mergeL l k zs zs') ≤ heldV l id its + heldV l id its' ∧ heldV l id its + heldV l id its' ≤ belowV id (mergeL l k zs zs') + aboveV id (mergeL l k zs zs') := by
  obtain ⟨_, _, _, _, hg⟩ := merge_spec d d' h1 h2 h3 hs
  have e1 : belowV id (mergeL l k zs zs') = belowV id (lowL l k zs) + belowV id (lowL l k zs') := hg (belowF id) (fun i a b => by unfold belowF; split <;> omega)
  have e2 : aboveV id (mergeL l k zs zs') = aboveV id (lowL l k zs) + aboveV id (lowL l k zs') := hg (aboveF id) (fun i a b => by unfold aboveF; split <;> omega)
  have t1 := Stands.run (most := capV (sumL zs) k) d.roll s id hid
  have t2 := Stands.run (most := capV (sumL zs') k) d'.roll s' id hid
  rw [e1, e2]
  unfold lowL
  omega
end Nl
end Go.Proofs.YthdljlclcepnhaaGreat

/- The walk of law 13's Made: which nodes. -/
namespace Go.Proofs.YthdljlclcepnhaaGreat
open Go.RowKit Nl

def MdPostF (l k kind : Int) (n : Nat) (F : List (Int × Int)) (w : World) (e : Ending) (w' : World) : Prop :=
  ∃ dg q g h v zs its, e = .returned (.tuple #[.pointer (some ⟨dg, 0, none⟩), .agg #[.int .i64 l, v]]) ∧ DgV w' dg q g h kind l k 2000 zs ∧ RdN w' v its ∧ NotD v its (DB dg q g h) ∧ (MadeI l k zs its ∧ zs = F) ∧ zs.length ≤ n ∧ its.length ≤ n ∧ (∀ j, DB dg q g h j → w.heap.size ≤ j) ∧ Below w.heap.size w w'
def MdRelF (os : List Op3) (dg q g h0 B b8 : Nat) (kind l k : Int) (N : Nat) (w : World) (gn : Nat) (i : Value) (wr : World) : Prop :=
  ∃ (j : Nat) (zs its : List Nd) (h : Nat) (v : Value), i = .int .i64 j ∧ j ≤ N ∧ N - j ≤ gn ∧ zs.length ≤ j ∧ its.length ≤ j ∧ (h = h0 ∨ B ≤ h) ∧ B ≤ wr.heap.size ∧ DgV wr dg q g h kind l k 2000 zs ∧
    Blk wr (w.heap.size + 1) #[.int .i64 0, .slice none 0 0] 45 ∧ Blk wr b8 #[.int .i64 l, v] 45 ∧ RdN wr v its ∧ NotD v its (fun j => DB dg q g h j ∨ j = b8 ∨ j = w.heap.size + 1) ∧ Hid (MadeI l k zs its ∧ dgAll l k (os.take j) = zs) ∧ Below w.heap.size w wr

set_option maxRecDepth 100000 in
set_option maxHeartbeats 4000000 in
theorem d_madeF (l k kind : Int) (v : Value) (os : List Op3) (w : World) (ho : RdO w v os) (hN : os.length ≤ 1000) (hP1 : poolIs kind l = true) (hP2 : isK k = true) :
    Calls Tryz.prog 10 #[.agg #[.int .i64 l, .int .i64 k, .int .i64 kind], v] w (MdPostF l k kind os.length (dgAll l k os) w) := by
  obtain ⟨p, cap, rfl, hlen, -⟩ := id ho
  have N := hid (fun W : World => dg_new kind l k W hP1 hP2)
  have hba : Below w.heap.size w ((w.alloc (.cells #[.int .i64 l, .int .i64 k, .int .i64 kind] 37)).alloc (.cells #[.int .i64 0, .slice none 0 0] 45)) := ((Below.refl _ _).alloc (Nat.le_refl _) _).alloc (by simp) _
  have X := (Blk.new w #[.int .i64 l, .int .i64 k, .int .i64 kind] 37).alloc (.cells #[.int .i64 0, .slice none 0 0] 45)
  have Y : Blk ((w.alloc (.cells #[.int .i64 l, .int .i64 k, .int .i64 kind] 37)).alloc (.cells #[.int .i64 0, .slice none 0 0] 45)) (w.heap.size + 1) #[.int .i64 0, .slice none 0 0] 45 := by
    have h := Blk.new (w.alloc (.cells #[.int .i64 l, .int .i64 k, .int .i64 kind] 37)) #[.int .i64 0, .slice none 0 0] 45
    simpa using h
  have hsx : ((w.alloc (.cells #[.int .i64 l, .int .i64 k, .int .i64 kind] 37)).alloc (.cells #[.int .i64 0, .slice none 0 0] 45)).heap.size = w.heap.size + 2 := by simp
  clear hP1 hP2
  go_enter Tryz.func10, Tryz.ntmps10
  go_wp2_with fail
  refine (N.out _).mono ?_
  rintro e w2 ⟨dg, q, g, h0, rfl, d, hdg, hq, hg, hh, hb2⟩
  generalize ((w.alloc (.cells #[.int .i64 l, .int .i64 k, .int .i64 kind] 37)).alloc (.cells #[.int .i64 0, .slice none 0 0] 45)) = w1 at *
  have hs2 := hb2.size
  have X2 := X.below hb2 (Nat.le_refl _)
  have Y2 := Y.below hb2 (Nat.le_refl _)
  have x0 : w2.cell? ⟨w.heap.size, 0, none⟩ = some (.int .i64 l) := X2.cell 0
  have hbw := hba.trans (hb2.mono (by omega))
  have ltd := d.ltB
  have hl1 := d.inv.roll.l1
  have hl2 := d.inv.roll.l2
  clear N X Y hb2 hba
  go_wp2_with fail
  have W8 := Blk.new w2 #[.int .i64 l, .slice none 0 0] 45
  have hb3 : Below w2.heap.size w2 (w2.alloc (.cells #[.int .i64 l, .slice none 0 0] 45)) := (Below.refl _ _).alloc (Nat.le_refl _) _
  have d3 := d.below hb3 (Nat.le_refl _)
  have Y3 := Y2.below hb3 (Nat.le_refl _)
  have hbw3 := hbw.trans (hb3.mono hbw.size)
  have hs3 : (w2.alloc (.cells #[.int .i64 l, .slice none 0 0] 45)).heap.size = w2.heap.size + 1 := by simp
  generalize (w2.alloc (.cells #[.int .i64 l, .slice none 0 0] 45)) = w3 at *
  have R0 : Hid (MdRelF os dg q g h0 (w2.heap.size + 1) w2.heap.size kind l k os.length w os.length (.int .i64 (0 : Nat)) w3) :=
    ⟨0, [], [], h0, _, rfl, Nat.zero_le _, Nat.le_refl _, Nat.le_refl _, Nat.le_refl _, .inl rfl, by omega, d3, Y3, W8, RdN.nil _, .inl rfl, ⟨MadeI.nil d3.inv, rfl⟩, hbw3⟩
  have hd8 : ∀ h, (h = h0 ∨ w2.heap.size + 1 ≤ h) → ¬ DB dg q g h w2.heap.size := fun h hh hp => by
    have e1 := ltd dg (.inl rfl)
    have e2 := ltd q (.inr (.inl rfl))
    have e3 := ltd g (.inr (.inr (.inl rfl)))
    have e4 := ltd h0 (.inr (.inr (.inr rfl)))
    rcases hp with e | e | e | e <;> omega
  clear d d3 Y2 Y3 W8 hb3 x0 X2 hbw hbw3
  go_loopg [29] os.length (fun gn i wr => MdRelF os dg q g h0 (w2.heap.size + 1) w2.heap.size kind l k os.length w gn i wr)
  case atStart => exact R0.out
  case round =>
    obtain ⟨j, zs, its, h, v0, rfl, hj, hgn, hzl, hil, hh1, hBr, d, Y, X8, hr, nd, mi, hbw⟩ := hrel
    obtain ⟨p0, cap0, rfl⟩ := hr.val
    by_cases hlt : j < os.length
    · obtain ⟨o, x, wt, eo⟩ : ∃ o x wt, os.getD j (0, 0, 0) = (o, x, wt) := ⟨_, _, _, rfl⟩
      obtain ⟨p', cap', hv, _, hat⟩ := ho.below hbw (Nat.le_refl _)
      obtain ⟨gs, off, hp, hg2, q0, q1, q2, bo, bx, bw⟩ := hat j hlt
      rw [eo] at q0 q1 q2 bo bx bw
      simp only [Value.slice.injEq, true_and] at hv
      obtain ⟨rfl, rfl⟩ := hv
      subst hp
      have hba3 : Below wr.heap.size wr (wr.alloc (.cells #[.int .i64 o, .int .i64 x, .int .i64 wt] 94)) := (Below.refl _ _).alloc (Nat.le_refl _) _
      have O := Blk.new wr #[.int .i64 o, .int .i64 x, .int .i64 wt] 94
      have da := d.below hba3 (Nat.le_refl _)
      have Ya := Y.below hba3 (Nat.le_refl _)
      have Xa := X8.below hba3 (Nat.le_refl _)
      have ra := hr.below hba3 (Nat.le_refl _)
      have hsa : (wr.alloc (.cells #[.int .i64 o, .int .i64 x, .int .i64 wt] 94)).heap.size = wr.heap.size + 1 := by simp
      have hbwa := hbw.trans (hba3.mono hbw.size)
      have L1 := hid (dg_do da o x wt (by decide) (by omega) (by omega) bx bw)
      obtain ⟨mi2, mil⟩ := mi.out.1.doo o x wt
      have dlen := (d.inv.doo o x wt).2
      have ltd' := d.ltB
      have hy1 : ¬ DB dg q g h (w.heap.size + 1) := fun hp => by rcases hp with e | e | e | e <;> omega
      have hy8 : ¬ DB dg q g h w2.heap.size := hd8 h hh1
      have hl8 : w2.heap.size < wr.heap.size := X8.lt
      have eo0 := eo
      clear eo hat hba3 d Y X8 hr hlen
      obtain ⟨R, eR⟩ : ∃ R, dgDo l k zs o x wt = R := ⟨_, rfl⟩
      have st : dgAll l k (os.take (j + 1)) = (dgDo l k zs o x wt).1 := by rw [dgAll_step hlt eo0, mi.out.2]
      rw [eR] at L1 mi2 dlen st
      have ST := hid st
      clear st
      have ER := hid eR
      have MI2 := hid mi2
      clear eR mi2
      go_wp2_with fail
      generalize (wr.alloc (.cells #[.int .i64 o, .int .i64 x, .int .i64 wt] 94)) = wa at *
      refine L1.out.mono ?_
      rintro e w5 ⟨rfl, h5, d5, hh5, c5⟩
      have hs5 := c5.size
      have O5 := O.keep (c5.block _ O.lt (fun hp => by have := ltd' _ hp; omega))
      have Y5 := Ya.keep (c5.block _ Ya.lt hy1)
      have X5 := Xa.keep (c5.block _ Xa.lt hy8)
      have r5 := nd.keep ra c5 (fun j hj => .inl hj)
      have B5 : Below w.heap.size w w5 := ChB.of_new hbwa c5 (fun j hj => by rcases hj with e | e | e | e <;> omega)
      have hh5' : h5 = h0 ∨ w2.heap.size + 1 ≤ h5 := by rcases hh5 with e | e; · rw [e]; exact hh1
                                                        · right; omega
      have nd5 : NotD (.slice p0 its.length cap0) its (fun j => DB dg q g h5 j ∨ j = w2.heap.size ∨ j = w.heap.size + 1) := nd.more ra (fun j hj => by
        rcases hj with (e | e | e | e) | e
        · exact .inl (.inl (.inl e))
        · exact .inl (.inl (.inr (.inl e)))
        · exact .inl (.inl (.inr (.inr (.inl e))))
        · rcases hh5 with e2 | e2
          · exact .inl (.inl (.inr (.inr (.inr (e.trans e2)))))
          · exact .inr (by omega)
        · exact .inl (.inr e))
      have hy18 : ¬ DB dg q g h5 (w.heap.size + 1) := fun hp => by rcases hp with e | e | e | e <;> omega
      have hy88 := hd8 h5 hh5'
      have o0 : w5.cell? ⟨wr.heap.size, 0, none⟩ = some (.int .i64 o) := O5.cell 0
      have o1 : w5.cell? ⟨wr.heap.size, 1, none⟩ = some (.int .i64 x) := O5.cell 1
      have o2 : w5.cell? ⟨wr.heap.size, 2, none⟩ = some (.int .i64 wt) := O5.cell 2
      have x0 : w5.cell? ⟨w2.heap.size, 0, none⟩ = some (.int .i64 l) := X5.cell 0
      have x1 : w5.cell? ⟨w2.heap.size, 1, none⟩ = some (.slice p0 its.length cap0) := X5.cell 1
      have f0 := X5.free 0
      have f1 := X5.free 1
      have hl5 : w2.heap.size < w5.heap.size := by omega
      have hlo5 : wr.heap.size < w5.heap.size := by omega
      obtain ⟨Z, nn⟩ := R
      simp only at MI2 dlen ⊢
      clear L1 c5 hh5 nd Ya Xa ra da hbwa O
      by_cases h2 : o = 2
      · have eb : Hid (bagDo l k zs its o x wt = []) := by show _ = _; unfold bagDo; rw [if_pos h2]
        have hq2 : (o == 2) = true := by simpa using h2
        clear h2
        as_aux_lemma =>
          go_wp2_with fail
          go_roundg (os.length - (j + 1))
          case rel =>
            refine ⟨j + 1, Z, [], h5, .slice none 0 0, by go_num, by omega, by omega, by omega, by simp, hh5', by simp; omega, d5.keepB (fun j hj hd => Below.heap_setCell _ _ _ _ (by intro e; have e2 : j = w2.heap.size := e; subst e2; exact hy88 hd)), Y5.set_other _ _ (by omega), ?_, RdN.nil _, .inl rfl, ⟨by have := MI2.out; rw [eb.out] at this; exact this, ST.out⟩, B5.setCell (p := ⟨w2.heap.size, 1, none⟩) (by show w.heap.size ≤ w2.heap.size; omega) _⟩
            exact X5.set 1 (.slice none 0 0)
          case measure => omega
      · have hq2 : (o == 2) = false := by simpa using h2
        by_cases h1 : o = 1
        · have eb : Hid (bagDo l k zs its o x wt = its) := by show _ = _; unfold bagDo; rw [if_neg h2, if_neg (fun h => h.1 h1)]
          have hq1 : (o != 1) = false := by simp [h1]
          clear h2 h1
          as_aux_lemma =>
            go_wp2_with fail
            go_roundg (os.length - (j + 1))
            case rel => exact ⟨j + 1, Z, its, h5, _, by go_num, by omega, by omega, by omega, by omega, hh5', by omega, d5, Y5, X5, r5, nd5, ⟨by have := MI2.out; rw [eb.out] at this; exact this, ST.out⟩, B5⟩
            case measure => omega
        · have hq1 : (o != 1) = true := by simp [h1]
          by_cases h0' : nn = 0
          · have eb : Hid (bagDo l k zs its o x wt = (badd l its x wt).1) := by show _ = _; unfold bagDo; rw [if_neg h2, ER.out, if_pos ⟨h1, h0'⟩]
            have hq0 : (nn == 0) = true := by simpa using h0'
            have BA := hid (b_add l x wt r5 (by omega) mi.out.1.bag hl1 hl2 bx bw)
            obtain ⟨S, eS⟩ : ∃ S, badd l its x wt = S := ⟨_, rfl⟩
            rw [eS] at BA eb
            have MI3 : Hid (MadeI l k Z S.1) := by have := MI2.out; rw [eb.out] at this; exact this
            have mil3 : S.1.length ≤ its.length + 1 := by rw [eb.out] at mil; exact mil
            obtain ⟨its2, cc⟩ := S
            clear h2 h1 h0' eS eb MI2
            go_wp2_with fail
            refine BA.out.mono ?_
            rintro e w6 ⟨v6, rfl, r6, hv6, hb6⟩
            simp only at r6 MI3 mil3 ⊢
            have hs6 := hb6.size
            obtain ⟨p6, cap6, rfl⟩ := r6.val
            have X6 := X5.below hb6 (Nat.le_refl _)
            have Y6 := Y5.below hb6 (Nat.le_refl _)
            have d6 := d5.below hb6 (Nat.le_refl _)
            have nd6 := nd5.next r5 r6 hv6 (fun j hj => by
              rcases hj with e | e | e
              · exact d5.ltB j e
              · omega
              · omega)
            have B6 := B5.trans (hb6.mono B5.size)
            clear x0 x1 f0 f1 o0 o1 o2
            have x0 : w6.cell? ⟨w2.heap.size, 0, none⟩ = some (.int .i64 l) := X6.cell 0
            have x1 : w6.cell? ⟨w2.heap.size, 1, none⟩ = some (.slice p0 its.length cap0) := X6.cell 1
            have f0 := X6.free 0
            have f1 := X6.free 1
            have hl6 : w2.heap.size < w6.heap.size := by omega
            as_aux_lemma =>
              go_wp2_with fail
              go_roundg (os.length - (j + 1))
              case rel =>
                have hne : ∀ j, DB dg q g h5 j → j ≠ w2.heap.size := fun j hd e => hy88 (e ▸ hd)
                refine ⟨j + 1, Z, its2, h5, .slice p6 its2.length cap6, by go_num, by omega, by omega, by omega, by omega, hh5', by simp; omega, d6.keepB (fun j hj hd => (Below.heap_setCell _ _ _ _ (hne j hd)).trans (Below.heap_setCell _ _ _ _ (hne j hd))), (Y6.set_other _ _ (by omega)).set_other _ _ (by omega), (X6.set 0 (.int .i64 l)).set 1 (.slice p6 its2.length cap6), ?_, nd6, ⟨MI3.out, ST.out⟩, (B6.setCell (p := ⟨w2.heap.size, 0, none⟩) (by show w.heap.size ≤ w2.heap.size; omega) _).setCell (p := ⟨w2.heap.size, 1, none⟩) (by show w.heap.size ≤ w2.heap.size; omega) _⟩
                rcases nd6 with e | e
                · subst e; exact r6.any
                · refine r6.keep (fun j hj ho => ?_) (by simp)
                  have : j ≠ w2.heap.size := fun q => e j ho (.inr (.inl q))
                  exact (Below.heap_setCell _ _ _ _ this).trans (Below.heap_setCell _ _ _ _ this)
              case measure => omega
          · have eb : Hid (bagDo l k zs its o x wt = its) := by show _ = _; unfold bagDo; rw [if_neg h2, ER.out, if_neg (fun h => h0' h.2)]
            have hq0 : (nn == 0) = false := by simpa using h0'
            clear h2 h1 h0'
            as_aux_lemma =>
              go_wp2_with fail
              go_roundg (os.length - (j + 1))
              case rel => exact ⟨j + 1, Z, its, h5, _, by go_num, by omega, by omega, by omega, by omega, hh5', by omega, d5, Y5, X5, r5, nd5, ⟨by have := MI2.out; rw [eb.out] at this; exact this, ST.out⟩, B5⟩
              case measure => omega
    · have y0 : wr.cell? ⟨w.heap.size + 1, 0, none⟩ = some (.int .i64 0) := Y.cell 0
      have y1 : wr.cell? ⟨w.heap.size + 1, 1, none⟩ = some (.slice none 0 0) := Y.cell 1
      have f0 := Y.free 0
      have f1 := Y.free 1
      have x0 : wr.cell? ⟨w2.heap.size, 0, none⟩ = some (.int .i64 l) := X8.cell 0
      have x1 : wr.cell? ⟨w2.heap.size, 1, none⟩ = some (.slice p0 its.length cap0) := X8.cell 1
      have hl8 : w2.heap.size < wr.heap.size := X8.lt
      have hl1 : w.heap.size + 1 < wr.heap.size := by omega
      go_wp2_with fail
      go_region
      go_wp2_with fail
      have Z := ((Y.set 0 (.int .i64 l)).set 1 (.slice p0 its.length cap0)).drewN 1
      have z0 : World.cell? _ ⟨w.heap.size + 1, 0, none⟩ = some (.int .i64 l) := Z.cell 0
      have z1 : World.cell? _ ⟨w.heap.size + 1, 1, none⟩ = some (.slice p0 its.length cap0) := Z.cell 1
      have zz0 : (wr.setCell ⟨w.heap.size + 1, 0, none⟩ (.int .i64 l)).cell? ⟨w.heap.size + 1, 0, none⟩ = some (.int .i64 l) := (Y.set 0 (.int .i64 l)).cell 0
      have zz1 : ((wr.setCell ⟨w.heap.size + 1, 0, none⟩ (.int .i64 l)).setCell ⟨w.heap.size + 1, 1, none⟩ (.slice p0 its.length cap0)).cell? ⟨w.heap.size + 1, 1, none⟩ = some (.slice p0 its.length cap0) := Z.cell 1
      have hbz := below_drewN ((hbw.setCell (p := ⟨w.heap.size + 1, 0, none⟩) (Nat.le_succ _) (.int .i64 l)).setCell (p := ⟨w.heap.size + 1, 1, none⟩) (Nat.le_succ _) (.slice p0 its.length cap0)) 1
      have hy1 : ¬ DB dg q g h (w.heap.size + 1) := fun hp => by rcases hp with e | e | e | e <;> omega
      have hne : ∀ j, DB dg q g h j → j ≠ w.heap.size + 1 := fun j hd e => hy1 (e ▸ hd)
      refine bodyPost_ret (v := .tuple #[.pointer (some ⟨dg, 0, none⟩), .agg #[.int .i64 l, .slice p0 its.length cap0]]) (by simp [results, Tryz.results10, go_sem, zz0, zz1]) rfl ⟨dg, q, g, h, _, zs, its, rfl, ?_, ?_, ?_, ⟨mi.out.1, by rw [← mi.out.2, show j = os.length by omega, dgAll_all]⟩, by omega, by omega, ?_, hbz⟩
      · exact d.keepB (fun j hj hd => (Below.heap_setCell _ _ _ _ (hne j hd)).trans (Below.heap_setCell _ _ _ _ (hne j hd)))
      · rcases nd with e | e
        · subst e; exact hr.any
        · refine hr.keep (fun j hj ho => ?_) (by simp)
          have : j ≠ w.heap.size + 1 := fun q => e j ho (.inr (.inr q))
          exact (Below.heap_setCell _ _ _ _ this).trans (Below.heap_setCell _ _ _ _ this)
      · exact nd.more hr (fun j hj => .inl (.inl hj))
      · intro j hj
        rcases hj with e | e | e | e <;> omega
end Go.Proofs.YthdljlclcepnhaaGreat
