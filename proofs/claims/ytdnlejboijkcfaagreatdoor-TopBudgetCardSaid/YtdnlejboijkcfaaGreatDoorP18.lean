/- Texts laid together. -/
import Derived.Test.YtdnlejboijkcfaaGreatDoorP16
import Derived.Test.YtdnlejboijkcfaaGreatDoorP17
/- TopBudget's protocol: each sensor's readings are told once (no program in sight). -/
namespace Go.Proofs.YtdnlejboijkcfaaGreatDoor
open Go.RowKit Nl
namespace Nl
theorem TI.pour {l K K' : Int} {zs zs' its its' : List (Int × Int)} {X : List Int} (t : TI l K zs its X) (t' : TI l K' zs' its' X) (hs : sumL its + sumL its' ≤ 72057594037927935) :
    sumL (pourR its its') = sumL its + sumL its' ∧ ∀ y, gsum (rankF y) (pourR its its') = gsum (rankF y) its + gsum (rankF y) its' := by
  obtain ⟨-, p2, p3, -⟩ := pour_spec (l := l) its' its t.bag (fun y hy => ⟨t'.bag.val y hy, t'.bag.pos y hy⟩) hs
  exact ⟨p2, p3⟩
theorem TI.nn {l k : Int} {zs its : List (Int × Int)} {X : List Int} (t : TI l k zs its X) : 0 ≤ sumL its := sumL_nonneg (fun y hy => by have := t.bag.pos y hy; omega)
end Nl
namespace Tb
structure Sn where
  b : Nat
  dg : Nat
  q : Nat
  g : Nat
  h : Nat
  par : Int
  kids : Nat
  heard : Nat
  cover : Nat
  sent : Bool
  zs : List Nd
  its : List Nd
structure Lt where
  frm : Nat
  dst : Nat
  cover : Nat
  zs : List Nd
  its : List Nd
def Sn.live (s : Sn) : Prop := s.sent = false ∨ s.par < 0
instance (s : Sn) : Decidable s.live := inferInstanceAs (Decidable (_ ∨ _))
def Sn.val (f : Nat → List Nd → Int) (s : Sn) : Int := if s.live then f s.cover s.its else 0
def sumS (f : Nat → List Nd → Int) : List Sn → Int
  | [] => 0
  | s :: r => s.val f + sumS f r
def sumT (f : Nat → List Nd → Int) : List Lt → Int
  | [] => 0
  | x :: r => f x.cover x.its + sumT f r
theorem sumS_set (f : Nat → List Nd → Int) : ∀ (l : List Sn) (i : Nat) (h : i < l.length) (s : Sn), sumS f (l.set i s) = sumS f l - l[i].val f + s.val f
  | [], i, h, _ => absurd h (Nat.not_lt_zero _)
  | x :: r, 0, _, s => by simp only [List.set_cons_zero, sumS, List.getElem_cons_zero]; omega
  | x :: r, i + 1, h, s => by
    have := sumS_set f r i (by simpa using h) s
    simp only [List.set_cons_succ, sumS, List.getElem_cons_succ]; omega
theorem sumT_app (f : Nat → List Nd → Int) : ∀ (l m : List Lt), sumT f (l ++ m) = sumT f l + sumT f m
  | [], m => by simp [sumT]
  | x :: r, m => by simp only [List.cons_append, sumT, sumT_app f r m]; omega
theorem sumS_le {f : Nat → List Nd → Int} : ∀ (l : List Sn) (_ : ∀ s ∈ l, 0 ≤ f s.cover s.its) (i : Nat) (h : i < l.length), l[i].val f ≤ sumS f l ∧ 0 ≤ sumS f l
  | [], _, i, h => absurd h (Nat.not_lt_zero _)
  | x :: r, hp, 0, _ => by
    have h0 : 0 ≤ sumS f r := by
      cases r with
      | nil => simp [sumS]
      | cons y r' => exact (sumS_le (y :: r') (fun s hs => hp s (by simp [hs])) 0 (by simp)).2
    have h1 := hp x (by simp)
    simp only [sumS, List.getElem_cons_zero, Sn.val] at *
    split <;> omega
  | x :: r, hp, i + 1, h => by
    have h0 := sumS_le r (fun s hs => hp s (by simp [hs])) i (by simpa using h)
    have h1 := hp x (by simp)
    simp only [sumS, List.getElem_cons_succ]
    have h2 : 0 ≤ x.val f := by unfold Sn.val; split <;> omega
    omega
theorem sumT_nn {f : Nat → List Nd → Int} : ∀ (l : List Lt) (_ : ∀ x ∈ l, 0 ≤ f x.cover x.its), 0 ≤ sumT f l
  | [], _ => Int.le_refl _
  | x :: r, hp => by
    have h0 := sumT_nn r (fun s hs => hp s (by simp [hs]))
    have h1 := hp x (by simp)
    simp only [sumT]; omega
def bitF (j : Nat) (c : Nat) (_ : List Nd) : Int := if c.testBit j then 1 else 0
def wtF (_ : Nat) (its : List Nd) : Int := sumL its
def rkF (y : Int) (_ : Nat) (its : List Nd) : Int := gsum (rankF y) its
structure Pro (l k : Int) (X : List Int) (ps : List Int) (al : List Nd) (sns : List Sn) (fl : List Lt) : Prop where
  len : sns.length = ps.length
  par : ∀ i (h : i < sns.length), sns[i].par = ps.getD i 0
  kids : ∀ i (h : i < sns.length) j, sns[i].kids.testBit j = true ↔ j < ps.length ∧ ps.getD j 0 = i
  ti : ∀ i (h : i < sns.length), TI l k sns[i].zs sns[i].its X
  tif : ∀ x ∈ fl, TI l k x.zs x.its X
  hk : ∀ i (h : i < sns.length), sns[i].sent = true → sns[i].heard = sns[i].kids
  hs : ∀ i (h : i < sns.length) j, sns[i].heard.testBit j = true → sns[i].kids.testBit j = true ∧ (∃ h' : j < sns.length, sns[j].sent = true) ∧ ∀ x ∈ fl, x.frm ≠ j
  sk : ∀ j (h : j < sns.length), sns[j].sent = true → (∃ x ∈ fl, x.frm = j) ∨ ∀ i (h : i < sns.length), ps.getD j 0 = i → sns[i].heard.testBit j = true
  fs : ∀ x ∈ fl, ∃ h : x.frm < sns.length, sns[x.frm].sent = true ∧ ps.getD x.frm 0 = x.dst ∧ x.dst < sns.length
  nd : (fl.map Lt.frm).Nodup
  own : ∀ i (h : i < sns.length), sns[i].cover.testBit i = true
  fown : ∀ x ∈ fl, x.cover.testBit x.frm = true
  cb : ∀ i (h : i < sns.length), sns[i].cover < 2 ^ 60
  fcb : ∀ x ∈ fl, x.cover < 2 ^ 60
  cov : ∀ j, sumS (bitF j) sns + sumT (bitF j) fl = if j < sns.length then 1 else 0
  sum : sumS wtF sns + sumT wtF fl = sumL al
  rk : ∀ y, sumS (rkF y) sns + sumT (rkF y) fl = gsum (rankF y) al
  most : sumL al ≤ 72057594037927935
def Sn.ready (s : Sn) : Prop := s.sent = false ∧ s.heard = s.kids
theorem Pro.send {l k : Int} {X ps : List Int} {al : List Nd} {sns : List Sn} {fl : List Lt} (P : Pro l k X ps al sns fl) (i : Nat) (hi : i < sns.length) (hr : sns[i].ready) (hp : 0 ≤ ps.getD i 0) (hp2 : ps.getD i 0 < sns.length) (s' : Sn)
    (e1 : s'.par = sns[i].par) (e2 : s'.kids = sns[i].kids) (e3 : s'.heard = sns[i].heard) (e4 : s'.cover = sns[i].cover) (e5 : s'.sent = true) (e6 : s'.zs = (comL l k sns[i].zs).1) (e7 : s'.its = sns[i].its) :
    Pro l k X ps al (sns.set i s') (fl ++ [⟨i, (ps.getD i 0).toNat, sns[i].cover, s'.zs, s'.its⟩]) := by
  have hl : (sns.set i s').length = sns.length := List.length_set
  have hns : ∀ x ∈ fl, x.frm ≠ i := fun x hx e => by
    obtain ⟨h1, h2, -⟩ := P.fs x hx
    have h3 := hr.1
    subst e
    rw [h2] at h3; cases h3
  have hti := (P.ti i hi).com
  have hv0 : ∀ f, sns[i].val f = f sns[i].cover sns[i].its := fun f => by unfold Sn.val; rw [if_pos (.inl hr.1)]
  have hv1 : ∀ f, s'.val f = 0 := fun f => by
    unfold Sn.val
    rw [if_neg]
    rintro (h | h)
    · rw [e5] at h; cases h
    · rw [e1, P.par i hi] at h; omega
  have hmv : ∀ f, sumS f (sns.set i s') + sumT f (fl ++ [⟨i, (ps.getD i 0).toNat, sns[i].cover, s'.zs, s'.its⟩]) = sumS f sns + sumT f fl := fun f => by
    rw [sumS_set f sns i hi, sumT_app, hv0, hv1]
    simp only [sumT, e7]; omega
  have hg : ∀ j (h : j < (sns.set i s').length), (sns.set i s')[j] = if i = j then s' else sns[j]'(by rwa [hl] at h) := fun j h => List.getElem_set _
  have hpar : ∀ j (h : j < (sns.set i s').length), (sns.set i s')[j].par = (sns[j]'(by rwa [hl] at h)).par := fun j h => by
    rw [hg]; split
    · rename_i e; subst e; exact e1
    · rfl
  have hkid : ∀ j (h : j < (sns.set i s').length), (sns.set i s')[j].kids = (sns[j]'(by rwa [hl] at h)).kids := fun j h => by
    rw [hg]; split
    · rename_i e; subst e; exact e2
    · rfl
  have hhrd : ∀ j (h : j < (sns.set i s').length), (sns.set i s')[j].heard = (sns[j]'(by rwa [hl] at h)).heard := fun j h => by
    rw [hg]; split
    · rename_i e; subst e; exact e3
    · rfl
  have hcov : ∀ j (h : j < (sns.set i s').length), (sns.set i s')[j].cover = (sns[j]'(by rwa [hl] at h)).cover := fun j h => by
    rw [hg]; split
    · rename_i e; subst e; exact e4
    · rfl
  have hsent : ∀ j (h : j < (sns.set i s').length), (sns[j]'(by rwa [hl] at h)).sent = true → (sns.set i s')[j].sent = true := fun j h q => by
    rw [hg]; split
    · exact e5
    · exact q
  have hsent2 : ∀ j (h : j < (sns.set i s').length), (sns.set i s')[j].sent = true → i = j ∨ (sns[j]'(by rwa [hl] at h)).sent = true := fun j h q => by
    rw [hg] at q
    by_cases e : i = j
    · exact .inl e
    · rw [if_neg e] at q; exact .inr q
  refine ⟨by rw [hl]; exact P.len, fun j h => by rw [hpar]; exact P.par j _, fun j h m => by rw [hkid]; exact P.kids j _ m, ?_, ?_, ?_, ?_, ?_, ?_, ?_, ?_, ?_, ?_, ?_, ?_, ?_, ?_, P.most⟩
  · intro j h
    rw [hg]
    split
    · rw [e6, e7]; exact hti
    · exact P.ti j _
  · intro x hx
    rcases List.mem_append.1 hx with hx | hx
    · exact P.tif x hx
    · rw [List.mem_singleton.1 hx]
      simp only
      rw [e6, e7]; exact hti
  · intro j h q
    rw [hhrd, hkid]
    rcases hsent2 j h q with e | q
    · subst e; exact hr.2
    · exact P.hk j _ q
  · intro j h m q
    rw [hhrd] at q
    obtain ⟨q1, ⟨q2, q3⟩, q4⟩ := P.hs j (by rwa [hl] at h) m q
    refine ⟨by rw [hkid]; exact q1, ⟨by rwa [hl], hsent m (by rwa [hl]) q3⟩, fun x hx => ?_⟩
    rcases List.mem_append.1 hx with hx | hx
    · exact q4 x hx
    · rw [List.mem_singleton.1 hx]
      rintro rfl
      rw [hr.1] at q3; cases q3
  · intro j h q
    rcases hsent2 j h q with e | q
    · subst e
      exact .inl ⟨_, List.mem_append_right _ (List.mem_singleton.2 rfl), rfl⟩
    · rcases P.sk j (by rwa [hl] at h) q with ⟨x, hx, ex⟩ | q2
      · exact .inl ⟨x, List.mem_append_left _ hx, ex⟩
      · exact .inr fun m hm e => by rw [hhrd]; exact q2 m _ e
  · intro x hx
    rcases List.mem_append.1 hx with hx | hx
    · obtain ⟨q1, q2, q3, q4⟩ := P.fs x hx
      exact ⟨by rwa [hl], hsent _ (by rwa [hl]) q2, q3, by rwa [hl]⟩
    · rw [List.mem_singleton.1 hx]
      exact ⟨by rwa [hl], by simp only; rw [hg, if_pos rfl]; exact e5, by simp only; omega, by simp only; rw [hl]; omega⟩
  · rw [List.map_append, List.nodup_append]
    refine ⟨P.nd, by simp, fun a ha b hb => ?_⟩
    obtain ⟨x, hx, rfl⟩ := List.mem_map.1 ha
    simp only [List.map_cons, List.map_nil, List.mem_singleton] at hb
    subst hb
    exact hns x hx
  · intro j h; rw [hcov]; exact P.own j _
  · intro x hx
    rcases List.mem_append.1 hx with hx | hx
    · exact P.fown x hx
    · rw [List.mem_singleton.1 hx]; exact P.own i hi
  · intro j h; rw [hcov]; exact P.cb j _
  · intro x hx
    rcases List.mem_append.1 hx with hx | hx
    · exact P.fcb x hx
    · rw [List.mem_singleton.1 hx]; exact P.cb i hi
  · intro j; rw [hmv, hl]; exact P.cov j
  · rw [hmv]; exact P.sum
  · intro y; rw [hmv]; exact P.rk y
theorem Pro.done {l k : Int} {X ps : List Int} {al : List Nd} {sns : List Sn} {fl : List Lt} (P : Pro l k X ps al sns fl) (i : Nat) (hi : i < sns.length) (hr : sns[i].ready) (hp : ps.getD i 0 < 0) (s' : Sn)
    (e1 : s'.par = sns[i].par) (e2 : s'.kids = sns[i].kids) (e3 : s'.heard = sns[i].heard) (e4 : s'.cover = sns[i].cover) (e5 : s'.sent = true) (e6 : s'.zs = (comL l k sns[i].zs).1) (e7 : s'.its = sns[i].its) :
    Pro l k X ps al (sns.set i s') fl := by
  have hl : (sns.set i s').length = sns.length := List.length_set
  have hti := (P.ti i hi).com
  have hv0 : ∀ f, sns[i].val f = f sns[i].cover sns[i].its := fun f => by unfold Sn.val; rw [if_pos (.inl hr.1)]
  have hv1 : ∀ f, s'.val f = f sns[i].cover sns[i].its := fun f => by
    unfold Sn.val
    rw [if_pos (.inr (by rw [e1, P.par i hi]; exact hp)), e4, e7]
  have hmv : ∀ f, sumS f (sns.set i s') + sumT f fl = sumS f sns + sumT f fl := fun f => by
    rw [sumS_set f sns i hi, hv0, hv1]; omega
  have hg : ∀ j (h : j < (sns.set i s').length), (sns.set i s')[j] = if i = j then s' else sns[j]'(by rwa [hl] at h) := fun j h => List.getElem_set _
  have hpar : ∀ j (h : j < (sns.set i s').length), (sns.set i s')[j].par = (sns[j]'(by rwa [hl] at h)).par := fun j h => by
    rw [hg]; split
    · rename_i e; subst e; exact e1
    · rfl
  have hkid : ∀ j (h : j < (sns.set i s').length), (sns.set i s')[j].kids = (sns[j]'(by rwa [hl] at h)).kids := fun j h => by
    rw [hg]; split
    · rename_i e; subst e; exact e2
    · rfl
  have hhrd : ∀ j (h : j < (sns.set i s').length), (sns.set i s')[j].heard = (sns[j]'(by rwa [hl] at h)).heard := fun j h => by
    rw [hg]; split
    · rename_i e; subst e; exact e3
    · rfl
  have hcov : ∀ j (h : j < (sns.set i s').length), (sns.set i s')[j].cover = (sns[j]'(by rwa [hl] at h)).cover := fun j h => by
    rw [hg]; split
    · rename_i e; subst e; exact e4
    · rfl
  have hsent : ∀ j (h : j < (sns.set i s').length), (sns[j]'(by rwa [hl] at h)).sent = true → (sns.set i s')[j].sent = true := fun j h q => by
    rw [hg]; split
    · exact e5
    · exact q
  have hsent2 : ∀ j (h : j < (sns.set i s').length), (sns.set i s')[j].sent = true → i = j ∨ (sns[j]'(by rwa [hl] at h)).sent = true := fun j h q => by
    rw [hg] at q
    by_cases e : i = j
    · exact .inl e
    · rw [if_neg e] at q; exact .inr q
  refine ⟨by rw [hl]; exact P.len, fun j h => by rw [hpar]; exact P.par j _, fun j h m => by rw [hkid]; exact P.kids j _ m, ?_, P.tif, ?_, ?_, ?_, ?_, P.nd, ?_, P.fown, ?_, P.fcb, ?_, ?_, ?_, P.most⟩
  · intro j h
    rw [hg]
    split
    · rw [e6, e7]; exact hti
    · exact P.ti j _
  · intro j h q
    rw [hhrd, hkid]
    rcases hsent2 j h q with e | q
    · subst e; exact hr.2
    · exact P.hk j _ q
  · intro j h m q
    rw [hhrd] at q
    obtain ⟨q1, ⟨q2, q3⟩, q4⟩ := P.hs j (by rwa [hl] at h) m q
    exact ⟨by rw [hkid]; exact q1, ⟨by rwa [hl], hsent m (by rwa [hl]) q3⟩, q4⟩
  · intro j h q
    rcases hsent2 j h q with e | q
    · subst e
      exact .inr fun m hm e => by omega
    · rcases P.sk j (by rwa [hl] at h) q with ⟨x, hx, ex⟩ | q2
      · exact .inl ⟨x, hx, ex⟩
      · exact .inr fun m hm e => by rw [hhrd]; exact q2 m _ e
  · intro x hx
    obtain ⟨q1, q2, q3, q4⟩ := P.fs x hx
    exact ⟨by rwa [hl], hsent _ (by rwa [hl]) q2, q3, by rwa [hl]⟩
  · intro j h; rw [hcov]; exact P.own j _
  · intro j h; rw [hcov]; exact P.cb j _
  · intro j; rw [hmv, hl]; exact P.cov j
  · rw [hmv]; exact P.sum
  · intro y; rw [hmv]; exact P.rk y
theorem bit_or (j a b : Nat) (its its' its'' : List Nd) (h : a.testBit j = true → b.testBit j = true → False) : bitF j (a ||| b) its = bitF j a its' + bitF j b its'' := by
  unfold bitF
  rw [Nat.testBit_or]
  cases ha : a.testBit j <;> cases hb : b.testBit j <;> simp
  exact h ha hb
theorem apart_and {a b : Nat} (h : ∀ j, a.testBit j = true → b.testBit j = true → False) : a &&& b = 0 := by
  apply Nat.eq_of_testBit_eq
  intro j
  rw [Nat.testBit_and, Nat.zero_testBit]
  cases ha : a.testBit j <;> cases hb : b.testBit j <;> simp
  exact h j ha hb
theorem Pro.come {l k : Int} {X ps : List Int} {al : List Nd} {sns : List Sn} {fl : List Lt} {x : Lt} (P : Pro l k X ps al sns (fl ++ [x])) :
    ∃ h : x.dst < sns.length, x.frm < sns.length ∧ sns[x.dst].sent = false ∧ sns[x.dst].kids.testBit x.frm = true ∧ sns[x.dst].heard.testBit x.frm = false ∧ (∀ j, sns[x.dst].cover.testBit j = true → x.cover.testBit j = true → False) ∧ sumL sns[x.dst].its + sumL x.its ≤ 72057594037927935 := by
  have hm : x ∈ fl ++ [x] := List.mem_append_right _ (List.mem_singleton.2 rfl)
  obtain ⟨h1, h2, h3, h4⟩ := P.fs x hm
  have hkid : sns[x.dst].kids.testBit x.frm = true := (P.kids x.dst h4 x.frm).2 ⟨by rw [← P.len]; exact h1, h3⟩
  have hnh : sns[x.dst].heard.testBit x.frm = false := by
    cases e : sns[x.dst].heard.testBit x.frm
    · rfl
    · exact absurd rfl ((P.hs x.dst h4 x.frm e).2.2 x hm)
  have hns : sns[x.dst].sent = false := by
    cases e : sns[x.dst].sent
    · rfl
    · rw [P.hk x.dst h4 e, hkid] at hnh; cases hnh
  have hv : ∀ f, sns[x.dst].val f = f sns[x.dst].cover sns[x.dst].its := fun f => by unfold Sn.val; rw [if_pos (.inl hns)]
  refine ⟨h4, h1, hns, hkid, hnh, fun j c1 c2 => ?_, ?_⟩
  · have hc := P.cov j
    have hb : ∀ (c : Nat) (its : List Nd), 0 ≤ bitF j c its := fun c its => by unfold bitF; split <;> decide
    have a1 := (sumS_le (f := bitF j) sns (fun s _ => hb _ _) x.dst h4).1
    have a2 := sumT_nn (f := bitF j) fl (fun s _ => hb _ _)
    rw [hv] at a1
    rw [sumT_app] at hc
    simp only [sumT] at hc
    have b1 : bitF j sns[x.dst].cover sns[x.dst].its = 1 := by unfold bitF; rw [if_pos c1]
    have b2 : bitF j x.cover x.its = 1 := by unfold bitF; rw [if_pos c2]
    split at hc <;> omega
  · have hc := P.sum
    have hb : ∀ s ∈ sns, 0 ≤ wtF s.cover s.its := fun s hs => by
      obtain ⟨i, hi, rfl⟩ := List.mem_iff_getElem.1 hs
      exact (P.ti i hi).nn
    have a1 := (sumS_le (f := wtF) sns hb x.dst h4).1
    have a2 := sumT_nn (f := wtF) fl (fun s hs => (P.tif s (List.mem_append_left _ hs)).nn)
    rw [hv] at a1
    rw [sumT_app] at hc
    simp only [sumT] at hc
    have := P.most
    unfold wtF at a1 a2 hc
    omega
theorem Pro.hear {l k : Int} {X ps : List Int} {al : List Nd} {sns : List Sn} {fl : List Lt} {x : Lt} (P : Pro l k X ps al sns (fl ++ [x])) (k1 : 1 ≤ k) (hi : x.dst < sns.length) (s' : Sn)
    (e1 : s'.par = sns[x.dst].par) (e2 : s'.kids = sns[x.dst].kids) (e3 : s'.heard = sns[x.dst].heard ||| 1 <<< x.frm) (e4 : s'.cover = sns[x.dst].cover ||| x.cover) (e5 : s'.sent = sns[x.dst].sent) (e6 : s'.zs = mergeL l k sns[x.dst].zs x.zs) (e7 : s'.its = pourR sns[x.dst].its x.its) :
    Pro l k X ps al (sns.set x.dst s') fl := by
  obtain ⟨_, hf, hns, hkid, hnh, hap, hsum⟩ := P.come
  have hl : (sns.set x.dst s').length = sns.length := List.length_set
  have hm : x ∈ fl ++ [x] := List.mem_append_right _ (List.mem_singleton.2 rfl)
  obtain ⟨_, hfs, hft, _⟩ := P.fs x hm
  have t1 := P.ti x.dst hi
  have t2 := P.tif x hm
  have hti : TI l k (mergeL l k sns[x.dst].zs x.zs) (pourR sns[x.dst].its x.its) X := t1.merge t2 k1 (Int.le_refl _) (Int.le_refl _) (by rw [← t1.sum, ← t2.sum]; exact hsum)
  obtain ⟨p1, p2⟩ := t1.pour t2 hsum
  have hv0 : ∀ f, sns[x.dst].val f = f sns[x.dst].cover sns[x.dst].its := fun f => by unfold Sn.val; rw [if_pos (.inl hns)]
  have hv1 : ∀ f, s'.val f = f s'.cover s'.its := fun f => by unfold Sn.val; rw [if_pos (.inl (by rw [e5]; exact hns))]
  have hmv : ∀ f : Nat → List Nd → Int, f s'.cover s'.its = f sns[x.dst].cover sns[x.dst].its + f x.cover x.its → sumS f (sns.set x.dst s') + sumT f fl = sumS f sns + sumT f (fl ++ [x]) := fun f h => by
    rw [sumS_set f sns x.dst hi, sumT_app, hv0, hv1, h]
    simp only [sumT]; omega
  have hg : ∀ j (h : j < (sns.set x.dst s').length), (sns.set x.dst s')[j] = if x.dst = j then s' else sns[j]'(by rwa [hl] at h) := fun j h => List.getElem_set _
  have hpar : ∀ j (h : j < (sns.set x.dst s').length), (sns.set x.dst s')[j].par = (sns[j]'(by rwa [hl] at h)).par := fun j h => by
    rw [hg]; split
    · rename_i e; subst e; exact e1
    · rfl
  have hkids : ∀ j (h : j < (sns.set x.dst s').length), (sns.set x.dst s')[j].kids = (sns[j]'(by rwa [hl] at h)).kids := fun j h => by
    rw [hg]; split
    · rename_i e; subst e; exact e2
    · rfl
  have hsent : ∀ j (h : j < (sns.set x.dst s').length), (sns.set x.dst s')[j].sent = (sns[j]'(by rwa [hl] at h)).sent := fun j h => by
    rw [hg]; split
    · rename_i e; subst e; exact e5
    · rfl
  have hb1 : ∀ m, s'.heard.testBit m = true ↔ sns[x.dst].heard.testBit m = true ∨ m = x.frm := fun m => by
    rw [e3, Nat.testBit_or, Nat.one_shiftLeft, Nat.testBit_two_pow]
    by_cases e : x.frm = m
    · simp [e]
    · simp [e]; intro h; exact absurd h.symm e
  have hnd := P.nd
  rw [List.map_append, List.nodup_append] at hnd
  have hfn : ∀ y ∈ fl, y.frm ≠ x.frm := fun y hy => hnd.2.2 y.frm (List.mem_map.2 ⟨y, hy, rfl⟩) x.frm (by simp)
  refine ⟨by rw [hl]; exact P.len, fun j h => by rw [hpar]; exact P.par j _, fun j h m => by rw [hkids]; exact P.kids j _ m, ?_, fun y hy => P.tif y (List.mem_append_left _ hy), ?_, ?_, ?_, ?_, hnd.1, ?_, fun y hy => P.fown y (List.mem_append_left _ hy), ?_, fun y hy => P.fcb y (List.mem_append_left _ hy), ?_, ?_, ?_, P.most⟩
  · intro j h
    rw [hg]
    split
    · rw [e6, e7]; exact hti
    · exact P.ti j _
  · intro j h q
    rw [hsent] at q
    by_cases e : x.dst = j
    · subst e; rw [hns] at q; cases q
    · rw [hg, if_neg e]; exact P.hk j _ q
  · intro j h m q
    rw [hkids]
    by_cases e : x.dst = j
    · subst e
      rw [hg, if_pos rfl] at q
      rcases (hb1 m).1 q with q | q
      · obtain ⟨q1, ⟨q2, q3⟩, q4⟩ := P.hs x.dst hi m q
        exact ⟨q1, ⟨by rwa [hl], by rw [hsent]; exact q3⟩, fun y hy => q4 y (List.mem_append_left _ hy)⟩
      · subst q
        exact ⟨hkid, ⟨by rwa [hl], by rw [hsent]; exact hfs⟩, hfn⟩
    · rw [hg, if_neg e] at q
      obtain ⟨q1, ⟨q2, q3⟩, q4⟩ := P.hs j (by rwa [hl] at h) m q
      exact ⟨q1, ⟨by rwa [hl], by rw [hsent]; exact q3⟩, fun y hy => q4 y (List.mem_append_left _ hy)⟩
  · intro j h q
    rw [hsent] at q
    have old : ∀ m (hm : m < (sns.set x.dst s').length), (sns[m]'(by rwa [hl] at hm)).heard.testBit j = true → (sns.set x.dst s')[m].heard.testBit j = true := fun m hm b => by
      rw [hg]; split
      · rename_i e; subst e; exact (hb1 j).2 (.inl b)
      · exact b
    rcases P.sk j (by rwa [hl] at h) q with ⟨y, hy, ey⟩ | q2
    · rcases List.mem_append.1 hy with hy | hy
      · exact .inl ⟨y, hy, ey⟩
      · right
        rw [List.mem_singleton.1 hy] at ey
        subst ey
        intro m hm e
        have e2 : x.dst = m := by rw [hft] at e; omega
        rw [hg, if_pos e2]
        exact (hb1 _).2 (.inr rfl)
    · exact .inr fun m hm e => old m hm (q2 m (by rwa [hl] at hm) e)
  · intro y hy
    obtain ⟨q1, q2, q3, q4⟩ := P.fs y (List.mem_append_left _ hy)
    exact ⟨by rwa [hl], by rw [hsent]; exact q2, q3, by rwa [hl]⟩
  · intro j h
    rw [hg]; split
    · rename_i e; subst e; rw [e4, Nat.testBit_or, P.own x.dst hi]; rfl
    · exact P.own j _
  · intro j h
    rw [hg]; split
    · rename_i e; subst e; rw [e4]; exact Nat.or_lt_two_pow (P.cb x.dst hi) (P.fcb x hm)
    · exact P.cb j _
  · intro j
    rw [hmv (bitF j) (by rw [e4]; exact bit_or j _ _ _ _ _ (hap j)), hl]; exact P.cov j
  · rw [hmv wtF (by unfold wtF; rw [e7]; exact p1)]; exact P.sum
  · intro y
    rw [hmv (rkF y) (by unfold rkF; rw [e7]; exact p2 y)]; exact P.rk y
theorem Pro.quiet {l k : Int} {X ps : List Int} {al : List Nd} {sns : List Sn} (P : Pro l k X ps al sns []) (ht : Tree ps) (hn : ∀ i (h : i < sns.length), ¬ sns[i].ready) : ∀ i (h : i < sns.length), sns[i].sent = true := by
  have key : ∀ f i d (h : i < sns.length), Dep ps d i → ps.length - d ≤ f → d < ps.length → sns[i].sent = true := by
    intro f
    induction f with
    | zero => intro i d h hd hf hl; omega
    | succ f ih =>
      intro i d h hd hf hl
      cases e : sns[i].sent
      · exfalso
        refine hn i h ⟨e, Nat.eq_of_testBit_eq fun j => ?_⟩
        cases hk : sns[i].kids.testBit j
        · cases hh : sns[i].heard.testBit j
          · rfl
          · have := (P.hs i h j hh).1; rw [hk] at this; cases this
        · obtain ⟨k1, k2⟩ := (P.kids i h j).1 hk
          have hdj : Dep ps (d + 1) j := ⟨i, by rw [← P.len]; exact h, k2, hd⟩
          have k3 : j < sns.length := by rw [P.len]; exact k1
          obtain ⟨d', hd', hdd⟩ := ht j k1
          have := hdd.uniq hdj
          subst this
          have hs := ih j (d + 1) k3 hdj (by omega) hd'
          rcases P.sk j k3 hs with ⟨x, hx, -⟩ | q
          · cases hx
          · exact q i h k2
      · rfl
  intro i h
  obtain ⟨d, hd, hdd⟩ := ht i (by rw [← P.len]; exact h)
  exact key _ i d h hdd nlr hd
theorem sumS_one {f : Nat → List Nd → Int} : ∀ (l : List Sn) (i : Nat) (h : i < l.length), (∀ j (h : j < l.length), j ≠ i → ¬ l[j].live) → sumS f l = l[i].val f
  | [], i, h, _ => absurd h (Nat.not_lt_zero _)
  | x :: r, 0, _, hn => by
    have h0 : ∀ r : List Sn, (∀ s ∈ r, ¬ s.live) → sumS f r = 0 := by
      intro r
      induction r with
      | nil => intro _; rfl
      | cons y r ih =>
        intro h
        simp only [sumS]
        rw [ih (fun s hs => h s (by simp [hs]))]
        have : y.val f = 0 := by unfold Sn.val; rw [if_neg (h y (by simp))]
        omega
    simp only [sumS, List.getElem_cons_zero]
    rw [h0 r (fun s hs => by
      obtain ⟨j, hj, rfl⟩ := List.mem_iff_getElem.1 hs
      have := hn (j + 1) (by simpa using hj) (by omega)
      simpa using this)]
    omega
  | x :: r, i + 1, h, hn => by
    have ih := sumS_one (f := f) r i (by simpa using h) (fun j hj hne => by
      have := hn (j + 1) (by simpa using hj) (by omega)
      simpa using this)
    have hx : ¬ x.live := by have := hn 0 (by simp) (by omega); simpa using this
    have : x.val f = 0 := by unfold Sn.val; rw [if_neg hx]
    simp only [sumS, List.getElem_cons_succ, ih]; omega
theorem Pro.end {l k : Int} {X ps : List Int} {al : List Nd} {sns : List Sn} (P : Pro l k X ps al sns []) (hs : ∀ i (h : i < sns.length), sns[i].sent = true) (r : Nat) (hr : r < sns.length) (hroot : ∀ i, i < ps.length → (ps.getD i 0 < 0 ↔ i = r)) :
    sns[r].cover = 2 ^ sns.length - 1 ∧ sumL sns[r].its = sumL al ∧ ∀ y, gsum (rankF y) sns[r].its = gsum (rankF y) al := by
  have hl : ∀ j (h : j < sns.length), j ≠ r → ¬ sns[j].live := fun j h hne q => by
    rcases q with q | q
    · rw [hs j h] at q; cases q
    · rw [P.par j h] at q
      exact hne ((hroot j (by rw [← P.len]; exact h)).1 q)
  have hv : ∀ f, sns[r].val f = f sns[r].cover sns[r].its := fun f => by
    unfold Sn.val
    rw [if_pos (.inr (by rw [P.par r hr]; exact (hroot r (by rw [← P.len]; exact hr)).2 rfl))]
  have e : ∀ f, sumS f sns + sumT f [] = f sns[r].cover sns[r].its := fun f => by
    rw [sumS_one sns r hr hl, hv]; simp [sumT]
  refine ⟨Nat.eq_of_testBit_eq fun j => ?_, ?_, fun y => ?_⟩
  · have := P.cov j
    rw [e] at this
    unfold bitF at this
    rw [Nat.testBit_two_pow_sub_one]
    by_cases hj : j < sns.length
    · rw [if_pos hj] at this
      cases hb : sns[r].cover.testBit j
      · rw [hb] at this; simp at this
      · simp [hj]
    · rw [if_neg hj] at this
      cases hb : sns[r].cover.testBit j
      · simp [hj]
      · rw [hb] at this; simp at this
  · have := P.sum; rw [e] at this; exact this
  · have := P.rk y; rw [e] at this; exact this
def uns : List Sn → Nat
  | [] => 0
  | s :: r => (if s.sent then 0 else 1) + uns r
theorem uns_set : ∀ (l : List Sn) (i : Nat) (h : i < l.length) (s : Sn), uns (l.set i s) + (if l[i].sent then 0 else 1) = uns l + (if s.sent then 0 else 1)
  | [], i, h, _ => absurd h (Nat.not_lt_zero _)
  | x :: r, 0, _, s => by simp only [List.set_cons_zero, uns, List.getElem_cons_zero]; omega
  | x :: r, i + 1, h, s => by
    have := uns_set r i (by simpa using h) s
    simp only [List.set_cons_succ, uns, List.getElem_cons_succ]; omega
theorem uns_le : ∀ l : List Sn, uns l ≤ l.length
  | [] => nlr
  | s :: r => by
    have := uns_le r
    simp only [uns, List.length_cons]
    split <;> omega
def left (sns : List Sn) (fl : List Lt) : Nat := 2 * uns sns + fl.length
end Tb
end Go.Proofs.YtdnlejboijkcfaaGreatDoor
