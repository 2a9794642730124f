/- Texts laid together: BlMath2, BlMath4, Made2, BlMath3, Made4. -/
import Derived.Test.YthdljlclcepnhaaBlMath
import Derived.Test.YthdljlclcepnhaaDr5
import Derived.Test.YthdljlclcepnhaaBG
import Derived.Test.YthdljlclcepnhaaDR
import Derived.Test.YthdljlclcepnhaaDg4
import Derived.Test.YthdljlclcepnhaaGO
import Derived.Deep.LoopGhost
/- What is merged is a digest (no program in sight). -/
namespace Go.Proofs.Ythdljlclcepnhaa
open Go.RowKit
namespace Nl

def eqF (id i c : Int) : Int := if i = id then c else 0
theorem gsum_find {zs : List (Int × Int)} (h : Strict zs) (id : Int) : gsum (eqF id) zs = findL id zs := by
  induction zs with
  | nil => rfl
  | cons z r ih =>
    simp only [gsum, findL, ih h.tail, eqF]
    by_cases q : z.1 = id
    · rw [if_pos q, if_pos q]
      have : findL id r = 0 := by
        have hh := h.head
        clear ih h
        induction r with
        | nil => rfl
        | cons y r ih =>
          have := hh y (List.mem_cons_self ..)
          simp only [findL]
          rw [if_neg (by omega)]
          exact ih (fun a ha => hh a (List.mem_cons_of_mem _ ha))
      omega
    · rw [if_neg q, if_neg q]; omega
theorem find_in {zs : List (Int × Int)} {id : Int} (h : findL id zs ≠ 0) : (id, findL id zs) ∈ zs := by
  induction zs with
  | nil => exact absurd rfl h
  | cons z r ih =>
    simp only [findL] at h ⊢
    by_cases q : z.1 = id
    · rw [if_pos q]; rw [← q]; exact List.mem_cons_self ..
    · rw [if_neg q] at h ⊢; exact List.mem_cons_of_mem _ (ih h)
theorem join_find {l : Int} {xs ys : List (Int × Int)} (hx : Roll l xs) (hy : Roll l ys) (hs : sumL xs + sumL ys ≤ 72057594037927935) (id : Int) : findL id (joinL xs ys) = findL id xs + findL id ys := by
  obtain ⟨_, r1, _, _, g1⟩ := join_spec hx hy hs
  rw [← gsum_find r1.strict, ← gsum_find hx.strict, ← gsum_find hy.strict]
  exact g1 (eqF id) (fun i a b => by unfold eqF; split <;> omega)
theorem light_find {l most : Int} {zs : List (Int × Int)} (hl : lightB l zs most = true) (h0 : 0 ≤ most) {id : Int} (hk : kidsB l id = true) : findL id zs ≤ most := by
  by_cases h : findL id zs = 0
  · omega
  · have hm := find_in h
    simp only [lightB, List.all_eq_true, Bool.not_eq_true'] at hl
    have := hl _ hm
    simp only [heavyB, hk, Bool.true_and, decide_eq_false_iff_not] at this
    omega
theorem cap_add {a b k : Int} (ha : 0 ≤ a) (hb : 0 ≤ b) (hk : 1 ≤ k) : capV a k + capV b k ≤ capV (a + b) k := by
  unfold capV
  rw [if_neg (by omega), if_neg (by omega), if_neg (by omega)]
  refine (Int.le_ediv_iff_mul_le (by omega)).2 ?_
  have h1 := Int.ediv_mul_le a (show k ≠ 0 by omega)
  have h2 := Int.ediv_mul_le b (show k ≠ 0 by omega)
  rw [Int.add_mul]; omega
/-- What two digests are merged to. -/
def mergeL (l k : Int) (zs zs' : List (Int × Int)) : List (Int × Int) := joinL (lowL l k zs) (lowL l k zs')
theorem merge_spec {l k K K' : Int} {zs zs' : List (Int × Int)} (d : Dg l K zs) (d' : Dg l K' zs') (h1 : 1 ≤ k) (h2 : k ≤ K) (h3 : k ≤ K') (hs : sumL zs + sumL zs' ≤ 72057594037927935) :
    Dg l k (mergeL l k zs zs') ∧ sumL (mergeL l k zs zs') = sumL zs + sumL zs' ∧ ((mergeL l k zs zs').length : Int) ≤ 8 * k - 2 ∧ (mergeL l k zs zs').length ≤ zs.length + zs'.length ∧
      ∀ f : Int → Int → Int, (∀ i a b, f i (a + b) = f i a + f i b) → gsum f (mergeL l k zs zs') = gsum f (lowL l k zs) + gsum f (lowL l k zs') := by
  obtain ⟨a1, a2, a3, a4⟩ := low_spec d h1 h2
  obtain ⟨b1, b2, b3, b4⟩ := low_spec d' h1 h3
  have hs' : sumL (lowL l k zs) + sumL (lowL l k zs') ≤ 72057594037927935 := by omega
  obtain ⟨_, r1, r2, r3, r4⟩ := join_spec a1.roll b1.roll hs'
  have hf := join_find a1.roll b1.roll hs'
  have p1 := sumL_nonneg a1.roll.strict.pos
  have p2 := sumL_nonneg b1.roll.strict.pos
  unfold mergeL
  generalize lowL l k zs = A at *
  generalize lowL l k zs' = B at *
  have hl1 := a1.light
  have hl2 := b1.light
  have ca := cap_add p1 p2 h1
  have c1 := cap_nn (sumL A) k
  have c2 := cap_nn (sumL B) k
  refine ⟨⟨r1, h1, a1.k2, ?_, by omega⟩, by omega, by omega, by omega, r4⟩
  rw [r3]
  simp only [lightB, List.all_eq_true, Bool.not_eq_true']
  intro z hz
  cases hk : kidsB l z.1
  · simp [heavyB, hk]
  · have e := strict_at r1.strict (id := z.1) (c := z.2) hz
    rw [hf] at e
    have q1 := light_find hl1 c1 hk
    have q2 := light_find hl2 c2 hk
    simp only [heavyB, hk, Bool.true_and, decide_eq_false_iff_not]
    omega
theorem merge_load {l k kind : Int} {zs zs' : List (Int × Int)} (hp : poolIs kind l = true) (m : Dg l k (mergeL l k zs zs')) : loadE kind l k (mergeL l k zs zs') = 0 := by
  have hk : isK k = true := decide_eq_true ⟨m.k1, m.k2⟩
  have := m.room
  unfold loadE
  rw [if_neg (by rw [hp, hk]; decide), if_neg (by rw [rollB_iff.2 m.roll]; decide), if_neg (fun q => q.elim (fun q => by omega) (fun q => by rw [m.light] at q; cases q))]
end Nl
end Go.Proofs.Ythdljlclcepnhaa

/- What calls leave of a digest (no program in sight). -/
namespace Go.Proofs.Ythdljlclcepnhaa
namespace Nl
def dgAll (l k : Int) (os : List (Int × Int × Int)) : List (Int × Int) := os.foldl (fun zs o => (dgDo l k zs o.1 o.2.1 o.2.2).1) []
theorem dgAll_nil (l k : Int) : dgAll l k [] = [] := rfl
theorem dgAll_step {l k o x wt : Int} {os : List (Int × Int × Int)} {j : Nat} (h : j < os.length) (eo : os.getD j (0, 0, 0) = (o, x, wt)) :
    dgAll l k (os.take (j + 1)) = (dgDo l k (dgAll l k (os.take j)) o x wt).1 := by
  have e : os[j] = (o, x, wt) := by
    rw [← eo, List.getD_eq_getElem?_getD, List.getElem?_eq_getElem h]; rfl
  unfold dgAll
  rw [List.take_add_one, List.foldl_append, List.getElem?_eq_getElem h, e]
  rfl
theorem dgAll_all {l k : Int} {os : List (Int × Int × Int)} : dgAll l k (os.take os.length) = dgAll l k os := by rw [List.take_length]
end Nl
end Go.Proofs.Ythdljlclcepnhaa

/- The walk of the statements' own Made: a digest of calls, and the bag of all that was accepted. -/
namespace Go.Proofs.Ythdljlclcepnhaa
open Go.RowKit Nl

namespace Nl
/-- What becomes of the bag. -/
def bagDo (l k : Int) (zs its : List (Int × Int)) (o x wt : Int) : List (Int × Int) :=
  if o = 2 then [] else if o ≠ 1 ∧ (dgDo l k zs o x wt).2 = 0 then (badd l its x wt).1 else its
/-- Nodes and readings that belong together. -/
structure MadeI (l k : Int) (zs its : List (Int × Int)) : Prop where
  dg : Dg l k zs
  bag : Bag l its
  sum : sumL its = sumL zs
  st : Stands l zs its
theorem MadeI.nil {l k : Int} (d : Dg l k []) : MadeI l k [] [] := ⟨d, Bag.nil l, rfl, Stands.nil l⟩
theorem MadeI.com {l k : Int} {zs its : List (Int × Int)} (m : MadeI l k zs its) : MadeI l k (comL l k zs).1 its := by
  obtain ⟨c1, c2, _⟩ := m.dg.com
  exact ⟨c1, m.bag, by rw [c2]; exact m.sum, m.st.run m.dg.roll⟩
theorem MadeI.doo {l k : Int} {zs its : List (Int × Int)} (m : MadeI l k zs its) (o x wt : Int) : MadeI l k (dgDo l k zs o x wt).1 (bagDo l k zs its o x wt) ∧ (bagDo l k zs its o x wt).length ≤ its.length + 1 := by
  unfold bagDo
  by_cases h2 : o = 2
  · subst h2
    have e : dgDo l k zs 2 x wt = ([], 0) := rfl
    rw [e, if_pos rfl]
    exact ⟨MadeI.nil (Dg.nil m.dg.roll.l1 m.dg.roll.l2 m.dg.k1 m.dg.k2), by simp⟩
  rw [if_neg h2]
  by_cases h1 : o = 1
  · subst h1
    have e : dgDo l k zs 1 x wt = ((comL l k zs).1, ((comL l k zs).2.length : Int)) := rfl
    rw [e, if_neg (fun h => h.1 rfl)]
    exact ⟨m.com, by simp⟩
  have e : dgDo l k zs o x wt = dgIns l k zs x wt := by unfold dgDo; rw [if_neg h1, if_neg h2]
  rw [e]
  obtain ⟨i1, i2, i3, i4⟩ := m.dg.ins x wt
  by_cases h0 : (dgIns l k zs x wt).2 = 0
  · rw [if_pos ⟨h1, h0⟩]
    obtain ⟨a1, a2, a3, a4⟩ := i3 h0
    have hb := m.sum
    have eb : badd l its x wt = (putR x wt its, 0) := by
      unfold badd
      rw [if_neg (by rw [a1]; decide), if_neg (by omega), if_neg (by omega)]
    rw [eb]
    refine ⟨⟨i1, m.bag.put a1 a2 (by omega), by rw [putR_sum, a4]; omega, ?_⟩, putR_length _⟩
    have hi : ∀ id, heldV l id (putR x wt its) = heldV l id its + heldF l id x wt := fun id => putR_gsum (fun a => by unfold heldF; split <;> omega) its
    have ei : (dgIns l k zs x wt).1 = addS (if fullB k zs (leafV l x) then (comL l k zs).1 else zs) (leafV l x) wt := by
      unfold dgIns
      rw [if_neg (by rw [a1]; decide), if_neg (by omega), if_neg (by omega)]
    rw [ei]
    cases hf : fullB k zs (leafV l x)
    · simp only [Bool.false_eq_true, if_false]
      exact m.st.leaf m.dg.roll a1 (by omega) hi
    · simp only [if_true]
      exact m.com.st.leaf m.com.dg.roll a1 (by omega) hi
  · rw [if_neg (fun h => h0 h.2)]
    rw [i4 h0]
    exact ⟨m, by simp⟩
end Nl

def MdPost (l k kind : Int) (n : Nat) (w : World) (e : Ending) (w' : World) : Prop :=
  ∃ dg q g h v zs its, e = .returned (.tuple #[.pointer (some ⟨dg, 0, none⟩), .agg #[.int .i64 l, v]]) ∧ DgV w' dg q g h kind l k 2000 zs ∧ RdN w' v its ∧ NotD v its (DB dg q g h) ∧ MadeI l k zs its ∧ zs.length ≤ n ∧ its.length ≤ n ∧ (∀ j, DB dg q g h j → w.heap.size ≤ j) ∧ Below w.heap.size w w'
end Go.Proofs.Ythdljlclcepnhaa

/- What is merged stands for what both were told (no program in sight). -/
namespace Go.Proofs.Ythdljlclcepnhaa
open Go.RowKit
namespace Nl

theorem merge_comm {l k K K' : Int} {zs zs' : List (Int × Int)} (d : Dg l K zs) (d' : Dg l K' zs') (h1 : 1 ≤ k) (h2 : k ≤ K) (h3 : k ≤ K') (hs : sumL zs + sumL zs' ≤ 72057594037927935) : mergeL l k zs' zs = mergeL l k zs zs' := by
  obtain ⟨a1, a2, _, _⟩ := low_spec d h1 h2
  obtain ⟨b1, b2, _, _⟩ := low_spec d' h1 h3
  exact join_comm b1.roll a1.roll (by omega)
theorem merge_stands {l k K K' : Int} {zs zs' its its' : List (Int × Int)} (d : Dg l K zs) (d' : Dg l K' zs') (s : Stands l zs its) (s' : Stands l zs' its') (h1 : 1 ≤ k) (h2 : k ≤ K) (h3 : k ≤ K') (hs : sumL zs + sumL zs' ≤ 72057594037927935)
    (id : Int) (hid : 1 ≤ id) : belowV id (mergeL l k zs zs') ≤ heldV l id its + heldV l id its' ∧ heldV l id its + heldV l id its' ≤ belowV id (mergeL l k zs zs') + aboveV id (mergeL l k zs zs') := by
  obtain ⟨_, _, _, _, hg⟩ := merge_spec d d' h1 h2 h3 hs
  have e1 : belowV id (mergeL l k zs zs') = belowV id (lowL l k zs) + belowV id (lowL l k zs') := hg (belowF id) (fun i a b => by unfold belowF; split <;> omega)
  have e2 : aboveV id (mergeL l k zs zs') = aboveV id (lowL l k zs) + aboveV id (lowL l k zs') := hg (aboveF id) (fun i a b => by unfold aboveF; split <;> omega)
  have t1 := Stands.run (most := capV (sumL zs) k) d.roll s id hid
  have t2 := Stands.run (most := capV (sumL zs') k) d'.roll s' id hid
  rw [e1, e2]
  unfold lowL
  omega
end Nl
end Go.Proofs.Ythdljlclcepnhaa

/- The walk of law 13's Made: which nodes. -/
namespace Go.Proofs.Ythdljlclcepnhaa
open Go.RowKit Nl

def MdPostF (l k kind : Int) (n : Nat) (F : List (Int × Int)) (w : World) (e : Ending) (w' : World) : Prop :=
  ∃ dg q g h v zs its, e = .returned (.tuple #[.pointer (some ⟨dg, 0, none⟩), .agg #[.int .i64 l, v]]) ∧ DgV w' dg q g h kind l k 2000 zs ∧ RdN w' v its ∧ NotD v its (DB dg q g h) ∧ (MadeI l k zs its ∧ zs = F) ∧ zs.length ≤ n ∧ its.length ≤ n ∧ (∀ j, DB dg q g h j → w.heap.size ≤ j) ∧ Below w.heap.size w w'
end Go.Proofs.Ythdljlclcepnhaa
