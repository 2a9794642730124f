/- The walks of the dense store: Add, Take, New. -/
import Derived.Test.YtejoecoenehooaaDense1
namespace Go.Proofs.Ytejoecoenehooaa
open Go.RowKit Nl

namespace Nl
theorem isum_set (cs : List Int) (k : Nat) (x : Int) (hk : k < cs.length) : isum (cs.set k x) = isum cs - cs.getD k 0 + x := by
  induction cs generalizing k with
  | nil => simp at hk
  | cons n r ih =>
    cases k with
    | zero => simp [isum]; omega
    | succ k => have := ih k (by simpa using hk); simp only [List.set_cons_succ, isum, List.getD_cons_succ, this]; omega
theorem nnz_set (cs : List Int) (k : Nat) (x : Int) (hk : k < cs.length) : nnz (cs.set k x) = nnz cs - (if 0 < cs.getD k 0 then 1 else 0) + (if 0 < x then 1 else 0) := by
  induction cs generalizing k with
  | nil => simp at hk
  | cons n r ih =>
    cases k with
    | zero => simp [nnz]; omega
    | succ k => have := ih k (by simpa using hk); simp only [List.set_cons_succ, nnz, List.getD_cons_succ, this]; omega
theorem nnz_le (cs : List Int) : 0 ≤ nnz cs ∧ nnz cs ≤ cs.length := by
  induction cs with
  | nil => simp [nnz]
  | cons n r ih => simp only [nnz, List.length_cons]; split <;> omega
theorem isum_nonneg {cs : List Int} (h : ∀ x ∈ cs, 0 ≤ x) : 0 ≤ isum cs := by
  induction cs with
  | nil => simp [isum]
  | cons n r ih =>
    have h1 := h n (by simp)
    have h2 := ih (fun y hy => h y (by simp [hy]))
    simp only [isum]; omega
theorem le_isum {cs : List Int} (h : ∀ x ∈ cs, 0 ≤ x) : ∀ x ∈ cs, x ≤ isum cs := by
  induction cs with
  | nil => intro x hx; cases hx
  | cons n r ih =>
    intro x hx
    have h1 := h n (by simp)
    have h2 := isum_nonneg (fun y hy => h y (List.mem_cons_of_mem _ hy) : ∀ y ∈ r, 0 ≤ y)
    simp only [isum]
    cases hx with
    | head => omega
    | tail _ hx => have := ih (fun y hy => h y (List.mem_cons_of_mem _ hy)) x hx; omega
theorem getD_mem' (cs : List Int) (k : Nat) (hk : k < cs.length) : cs.getD k 0 ∈ cs := by
  rw [show cs.getD k 0 = cs[k] by simp [List.getD, List.getElem?_eq_getElem hk]]
  exact List.getElem_mem hk
theorem Dv.bound {l u t : Int} {cs : List Int} (v : Dv l u t cs) : 0 ≤ t ∧ 0 ≤ u ∧ u ≤ 131072 ∧ cs.length ≤ 131072 := by
  have h1 := isum_nonneg v.pos
  have h2 := nnz_le cs
  have h3 := v.tot
  have h4 := v.used
  have h5 : (2 : Nat) ^ l.toNat ≤ 2 ^ 16 := Nat.pow_le_pow_right (by omega) (by have := v.l2; omega)
  have h6 : (2 : Nat) ^ 16 = 65536 := rfl
  have h7 := v.len
  omega
theorem Dv.at {l u t : Int} {cs : List Int} (v : Dv l u t cs) (n : Nat) (hn : n < cs.length) : 0 ≤ cs.getD n 0 ∧ cs.getD n 0 ≤ t := by
  refine ⟨v.pos _ (getD_mem' cs n hn), ?_⟩
  rw [v.tot]; exact le_isum v.pos _ (getD_mem' cs n hn)
theorem Dv.set {l u t : Int} {cs : List Int} (v : Dv l u t cs) (n : Nat) (x : Int) (hn : n < cs.length) (h1 : 1 ≤ n) (hx : 0 ≤ x) (hm : t - cs.getD n 0 + x ≤ 72057594037927935) :
    Dv l (u - (if 0 < cs.getD n 0 then 1 else 0) + (if 0 < x then 1 else 0)) (t - cs.getD n 0 + x) (cs.set n x) where
  l1 := v.l1
  l2 := v.l2
  len := by simpa using v.len
  pos := fun y hy => by
    rcases List.mem_or_eq_of_mem_set hy with h | h
    · exact v.pos y h
    · rw [h]; exact hx
  first := by
    have := v.first
    cases cs with
    | nil => simp at hn
    | cons a r => obtain ⟨m, rfl⟩ : ∃ m, n = m + 1 := ⟨n - 1, by omega⟩; simpa using this
  tot := by rw [isum_set cs n x hn, v.tot]
  most := hm
  used := by rw [nnz_set cs n x hn, v.used]
def dAddCode (l : Int) (cs : List Int) (id c : Int) : Int := if rightB l id = false ∨ c < 0 then 2 else if 72057594037927935 < isum cs + c then 5 else 0
def dAdd (l : Int) (cs : List Int) (id c : Int) : List Int := if dAddCode l cs id c = 0 then cs.set id.toNat (cs.getD id.toNat 0 + c) else cs
def dTake (l : Int) (cs : List Int) (id : Int) : List Int := if rightB l id then cs.set id.toNat 0 else cs
end Nl
/-- A dense store that is as it should be. -/
def DnV (w : World) (g h : Nat) (l : Int) (cs : List Int) : Prop := ∃ u t, Dn w g h l u t cs ∧ Dv l u t cs

set_option maxRecDepth 100000 in
set_option maxHeartbeats 1000000 in
theorem d_add {w : World} {g h : Nat} {l u t : Int} {cs : List Int} (id c : Int) (d : Dn w g h l u t cs) (v : Dv l u t cs) (bi : -9223372036854775808 ≤ id ∧ id ≤ 9223372036854775807) (bc : -9223372036854775808 ≤ c ∧ c ≤ 9223372036854775807) :
    Calls Try.prog 128 #[.pointer (some ⟨g, 0, none⟩), .int .i64 id, .int .i64 c] w fun e w' => e = .returned (.int .i64 (dAddCode l cs id c)) ∧ DnV w' g h l (dAdd l cs id c) ∧ Tch g h w w' := by
  have c0 : w.cell? ⟨g, 0, none⟩ = some (.int .i64 l) := d.1.cell 0
  have c1 : w.cell? ⟨g, 1, none⟩ = some (.int .i64 u) := d.1.cell 1
  have c2 : w.cell? ⟨g, 2, none⟩ = some (.int .i64 t) := d.1.cell 2
  have c3 : w.cell? ⟨g, 3, none⟩ = some (.slice (some ⟨h, 0, none⟩) cs.length cs.length) := d.1.cell 3
  have hl1 := v.l1
  have hl2 := v.l2
  have hbd := v.bound
  have hm := v.most
  have ht := hid v.tot
  obtain ⟨r, er⟩ : ∃ r, rightB l id = r := ⟨_, rfl⟩
  have Er := hid er
  cases r
  · have e : dAddCode l cs id c = 2 := by unfold dAddCode; rw [if_pos (.inl er)]
    have e2 : dAdd l cs id c = cs := by unfold dAdd; rw [e, if_neg (by decide)]
    rw [e, e2]
    clear er e e2
    go_enter Try.func128, Try.ntmps128
    go_wp2_with fail
    refine (twig_right l id w (by omega) (by omega) bi.1 bi.2).mono ?_
    rintro e w' ⟨rfl, rfl⟩
    rw [Er.out]
    go_wp2_with fail
    go_ret
    exact ⟨rfl, ⟨u, t, d, v⟩, Tch.refl _ _ _⟩
  · by_cases h1 : c < 0
    · have e : dAddCode l cs id c = 2 := by unfold dAddCode; rw [if_pos (.inr h1)]
      have e2 : dAdd l cs id c = cs := by unfold dAdd; rw [e, if_neg (by decide)]
      rw [e, e2]
      clear er e e2
      go_enter Try.func128, Try.ntmps128
      go_wp2_with fail
      refine (twig_right l id w (by omega) (by omega) bi.1 bi.2).mono ?_
      rintro e w' ⟨rfl, rfl⟩
      rw [Er.out]
      go_wp2_with fail
      go_ret
      exact ⟨rfl, ⟨u, t, d, v⟩, Tch.refl _ _ _⟩
    · obtain ⟨o, eo⟩ : ∃ o, addOk t c = o := ⟨_, rfl⟩
      have Eo := hid eo
      cases o
      · have hx : 72057594037927935 < isum cs + c := by
          have := ht.out
          simp only [addOk, decide_eq_false_iff_not] at eo
          omega
        have e : dAddCode l cs id c = 5 := by unfold dAddCode; rw [if_neg (by rw [er]; simp; omega), if_pos hx]
        have e2 : dAdd l cs id c = cs := by unfold dAdd; rw [e, if_neg (by decide)]
        rw [e, e2]
        clear er e e2 hx eo
        go_enter Try.func128, Try.ntmps128
        go_wp2_with fail
        refine (twig_right l id w (by omega) (by omega) bi.1 bi.2).mono ?_
        rintro e w' ⟨rfl, rfl⟩
        rw [Er.out]
        go_wp2_with fail
        refine (add_any t c w (by omega) (by omega) bc.1 bc.2).mono ?_
        rintro e w' ⟨rfl, rfl⟩
        rw [Eo.out]
        go_wp2_with fail
        go_ret
        exact ⟨rfl, ⟨u, t, d, v⟩, Tch.refl _ _ _⟩
      · have ev : addV t c = t + c := by unfold addV; rw [eo]; rfl
        have Ev := hid ev
        by_cases h2 : 72057594037927935 < t + c
        · have hx : 72057594037927935 < isum cs + c := by rw [← ht.out]; exact h2
          have e : dAddCode l cs id c = 5 := by unfold dAddCode; rw [if_neg (by rw [er]; simp; omega), if_pos hx]
          have e2 : dAdd l cs id c = cs := by unfold dAdd; rw [e, if_neg (by decide)]
          rw [e, e2]
          clear er e e2 hx eo ev
          go_enter Try.func128, Try.ntmps128
          go_wp2_with fail
          refine (twig_right l id w (by omega) (by omega) bi.1 bi.2).mono ?_
          rintro e w' ⟨rfl, rfl⟩
          rw [Er.out]
          go_wp2_with fail
          refine (add_any t c w (by omega) (by omega) bc.1 bc.2).mono ?_
          rintro e w' ⟨rfl, rfl⟩
          rw [Eo.out, Ev.out]
          go_wp2_with fail
          go_ret
          exact ⟨rfl, ⟨u, t, d, v⟩, Tch.refl _ _ _⟩
        · obtain ⟨n, rfl, hn1, hn2⟩ := right_nat er
          have hn3 : n < cs.length := by rw [v.len]; exact hn2
          have c4 : w.cell? ⟨h, n, none⟩ = some (.int .i64 (cs.getD n 0)) := (d.2.1.cell n).trans (icells_get cs n hn3)
          have f1 := d.1.free 1
          have f2 := d.1.free 2
          have f3 := d.2.1.free n
          have e : dAddCode l cs n c = 0 := by unfold dAddCode; rw [if_neg (by rw [er]; simp; omega), if_neg (by rw [← ht.out]; exact h2)]
          have e2 : dAdd l cs n c = cs.set n (cs.getD n 0 + c) := by unfold dAdd; rw [if_pos e]; rfl
          rw [e, e2]
          have hx := v.at n hn3
          have V := fun q => v.set n (cs.getD n 0 + c) hn3 hn1 q (by omega)
          have V2 := V (by omega)
          have V3 := hid V2
          have e5 := hid (icells_set cs n (cs.getD n 0 + c))
          have e6 : Hid ((cs.set n (cs.getD n 0 + c)).length = cs.length) := by show _ = _; simp
          have hgh := d.2.2
          have hlg := d.1.lt
          have hlh := d.2.1.lt
          have D1 := d.1
          have D2 := d.2.1
          clear V V2 v er e e2 ev eo hn2
          obtain ⟨cs', ecs⟩ : ∃ cs', cs.set n (cs.getD n 0 + c) = cs' := ⟨_, rfl⟩
          rw [ecs] at V3 e5 e6 ⊢
          clear ecs
          generalize hxx : cs.getD n 0 = x at *
          clear hxx
          by_cases h3 : x = 0
          · have h5 : (x == 0) = true := by simpa using h3
            have H3 := hid h3
            clear h3
            by_cases h4 : 0 < c
            · go_enter Try.func128, Try.ntmps128
              go_wp2_with fail
              refine (twig_right l n w (by omega) (by omega) bi.1 bi.2).mono ?_
              rintro e w' ⟨rfl, rfl⟩
              rw [Er.out]
              go_wp2_with fail
              refine (add_any t c w (by omega) (by omega) bc.1 bc.2).mono ?_
              rintro e w' ⟨rfl, rfl⟩
              rw [Eo.out, Ev.out]
              go_wp2_with fail
              go_ret
              have B1 := ((D1.set 1 (.int .i64 (u + 1))).set_other (g' := h) n (.int .i64 (x + c)) hgh).set 2 (.int .i64 (t + c))
              have B2 := ((D2.set_other (g' := g) 1 (.int .i64 (u + 1)) (Ne.symm hgh)).set n (.int .i64 (x + c))).set_other (g' := g) 2 (.int .i64 (t + c)) (Ne.symm hgh)
              rw [e5.out] at B2
              have T1 := ((Tch.set1 (g := g) (h := h) w 1 (.int .i64 (u + 1))).trans (Tch.set2 _ n (.int .i64 (x + c)))).trans (Tch.set1 _ 2 (.int .i64 (t + c)))
              refine ⟨rfl, ⟨u + 1, t + c, ⟨?_, B2, hgh⟩, ?_⟩, T1⟩
              · rw [e6.out]; exact B1
              · have q := V3.out
                rw [if_neg (by rw [H3.out]; decide), if_pos (by omega)] at q
                rw [show u + 1 = u - 0 + 1 by omega, show t + c = t - x + (x + c) by omega]
                exact q
            · go_enter Try.func128, Try.ntmps128
              go_wp2_with fail
              refine (twig_right l n w (by omega) (by omega) bi.1 bi.2).mono ?_
              rintro e w' ⟨rfl, rfl⟩
              rw [Er.out]
              go_wp2_with fail
              refine (add_any t c w (by omega) (by omega) bc.1 bc.2).mono ?_
              rintro e w' ⟨rfl, rfl⟩
              rw [Eo.out, Ev.out]
              go_wp2_with fail
              go_ret
              have B1 := (D1.set_other (g' := h) n (.int .i64 (x + c)) hgh).set 2 (.int .i64 (t + c))
              have B2 := (D2.set n (.int .i64 (x + c))).set_other (g' := g) 2 (.int .i64 (t + c)) (Ne.symm hgh)
              rw [e5.out] at B2
              have T1 := (Tch.set2 (g := g) (h := h) w n (.int .i64 (x + c))).trans (Tch.set1 _ 2 (.int .i64 (t + c)))
              refine ⟨rfl, ⟨u, t + c, ⟨?_, B2, hgh⟩, ?_⟩, T1⟩
              · rw [e6.out]; exact B1
              · have q := V3.out
                have hu : u - (if 0 < x then 1 else 0) + (if 0 < x + c then 1 else 0) = u := by
                  have := H3.out
                  split <;> split <;> omega
                rw [hu] at q
                rw [show t + c = t - x + (x + c) by omega]
                exact q
          · have h5 : (x == 0) = false := by simpa using h3
            have H3 := hid h3
            clear h3
            go_enter Try.func128, Try.ntmps128
            go_wp2_with fail
            refine (twig_right l n w (by omega) (by omega) bi.1 bi.2).mono ?_
            rintro e w' ⟨rfl, rfl⟩
            rw [Er.out]
            go_wp2_with fail
            refine (add_any t c w (by omega) (by omega) bc.1 bc.2).mono ?_
            rintro e w' ⟨rfl, rfl⟩
            rw [Eo.out, Ev.out]
            go_wp2_with fail
            go_ret
            have B1 := (D1.set_other (g' := h) n (.int .i64 (x + c)) hgh).set 2 (.int .i64 (t + c))
            have B2 := (D2.set n (.int .i64 (x + c))).set_other (g' := g) 2 (.int .i64 (t + c)) (Ne.symm hgh)
            rw [e5.out] at B2
            have T1 := (Tch.set2 (g := g) (h := h) w n (.int .i64 (x + c))).trans (Tch.set1 _ 2 (.int .i64 (t + c)))
            refine ⟨rfl, ⟨u, t + c, ⟨?_, B2, hgh⟩, ?_⟩, T1⟩
            · rw [e6.out]; exact B1
            · have q := V3.out
              have hu : u - (if 0 < x then 1 else 0) + (if 0 < x + c then 1 else 0) = u := by
                have := H3.out
                split <;> split <;> omega
              rw [hu] at q
              rw [show t + c = t - x + (x + c) by omega]
              exact q

set_option maxRecDepth 100000 in
set_option maxHeartbeats 1000000 in
theorem d_take {w : World} {g h : Nat} {l u t : Int} {cs : List Int} (id : Int) (d : Dn w g h l u t cs) (v : Dv l u t cs) (bi : -9223372036854775808 ≤ id ∧ id ≤ 9223372036854775807) :
    Calls Try.prog 126 #[.pointer (some ⟨g, 0, none⟩), .int .i64 id] w fun e w' => e = .returned (.int .i64 (dGet l cs id)) ∧ DnV w' g h l (dTake l cs id) ∧ Tch g h w w' := by
  have c1 : w.cell? ⟨g, 1, none⟩ = some (.int .i64 u) := d.1.cell 1
  have c2 : w.cell? ⟨g, 2, none⟩ = some (.int .i64 t) := d.1.cell 2
  have c3 : w.cell? ⟨g, 3, none⟩ = some (.slice (some ⟨h, 0, none⟩) cs.length cs.length) := d.1.cell 3
  have hbd := v.bound
  have hm := v.most
  obtain ⟨q, eq⟩ : ∃ q, dGet l cs id = q := ⟨_, rfl⟩
  have Eq := hid eq
  by_cases hq : 0 < q
  · have er : rightB l id = true := by
      cases hr : rightB l id
      · rw [← eq] at hq; unfold dGet at hq; rw [hr] at hq; simp at hq
      · rfl
    obtain ⟨n, rfl, hn1, hn2⟩ := right_nat er
    have hn3 : n < cs.length := by rw [v.len]; exact hn2
    have eg : dGet l cs n = cs.getD n 0 := by unfold dGet; rw [er]; rfl
    have c4 : w.cell? ⟨h, n, none⟩ = some (.int .i64 q) := ((d.2.1.cell n).trans (icells_get cs n hn3)).trans (by rw [← eg, eq])
    have f1 := d.1.free 1
    have f2 := d.1.free 2
    have f3 := d.2.1.free n
    have e2 : dTake l cs n = cs.set n 0 := by unfold dTake; rw [er]; rfl
    rw [e2]
    have hx := v.at n hn3
    have V2 := v.set n 0 hn3 hn1 (Int.le_refl _) (by omega)
    rw [← eg, eq] at V2 hx
    have V3 := hid V2
    have e5 := hid (icells_set cs n 0)
    have e6 : Hid ((cs.set n 0).length = cs.length) := by show _ = _; simp
    have hgh := d.2.2
    have D1 := d.1
    have D2 := d.2.1
    have hu : 1 ≤ u := by
      have h1 := V2.used
      have h2 := (nnz_le (cs.set n 0)).1
      rw [if_pos hq] at h1
      simp at h1
      omega
    have G := hid (d_get (n : Int) d v bi)
    clear V2 v er e2 eq eg hn2 d
    obtain ⟨cs', ecs⟩ : ∃ cs', cs.set n 0 = cs' := ⟨_, rfl⟩
    rw [ecs] at V3 e5 e6 ⊢
    clear ecs
    rw [Eq.out] at G ⊢
    go_enter Try.func126, Try.ntmps126
    go_wp2_with fail
    refine G.out.mono ?_
    rintro e w' ⟨rfl, rfl⟩
    go_wp2_with fail
    go_ret
    have B1 := ((D1.set_other (g' := h) n (.int .i64 0) hgh).set 1 (.int .i64 (u - 1))).set 2 (.int .i64 (t - q))
    have B2 := ((D2.set n (.int .i64 0)).set_other (g' := g) 1 (.int .i64 (u - 1)) (Ne.symm hgh)).set_other (g' := g) 2 (.int .i64 (t - q)) (Ne.symm hgh)
    rw [e5.out] at B2
    have T1 := ((Tch.set2 (g := g) (h := h) w n (.int .i64 0)).trans (Tch.set1 _ 1 (.int .i64 (u - 1)))).trans (Tch.set1 _ 2 (.int .i64 (t - q)))
    refine ⟨rfl, ⟨u - 1, t - q, ⟨?_, B2, hgh⟩, ?_⟩, T1⟩
    · rw [e6.out]; exact B1
    · have p := V3.out
      rw [if_pos hq, if_neg (by decide)] at p
      rw [show u - 1 = u - 1 + 0 by omega, show t - q = t - q + 0 by omega]
      exact p
  · have e2 : dTake l cs id = cs := by
      unfold dTake
      cases er : rightB l id
      · rfl
      · obtain ⟨n, rfl, hn1, hn2⟩ := right_nat er
        have hn3 : n < cs.length := by rw [v.len]; exact hn2
        have eg : dGet l cs n = cs.getD n 0 := by unfold dGet; rw [er]; rfl
        have hx := v.at n hn3
        have hz : cs.getD n 0 = 0 := by rw [← eg, eq] at hx ⊢; omega
        have hz2 : cs[n] = 0 := by simpa [List.getD, List.getElem?_eq_getElem hn3] using hz
        simp only [if_true, Int.toNat_natCast]
        apply List.ext_getElem
        · simp
        · intro i h1 h2
          rw [List.getElem_set]
          split
          · rename_i hi; subst hi; exact hz2.symm
          · rfl
    rw [e2]
    have G := hid (d_get id d v bi)
    rw [Eq.out] at G ⊢
    clear eq e2
    go_enter Try.func126, Try.ntmps126
    go_wp2_with fail
    refine G.out.mono ?_
    rintro e w' ⟨rfl, rfl⟩
    go_wp2_with fail
    go_ret
    exact ⟨rfl, ⟨u, t, d, v⟩, Tch.refl _ _ _⟩

theorem isum_zeros (n : Nat) : isum (List.replicate n 0) = 0 := by induction n with | zero => rfl | succ n ih => simp [List.replicate_succ, isum, ih]
theorem nnz_zeros (n : Nat) : nnz (List.replicate n 0) = 0 := by induction n with | zero => rfl | succ n ih => simp [List.replicate_succ, nnz, ih]
theorem Dv.new {l : Int} (h1 : 1 ≤ l) (h2 : l ≤ 16) : Dv l 0 0 (List.replicate (2 * 2 ^ l.toNat) 0) where
  l1 := h1
  l2 := h2
  len := by simp
  pos := fun x hx => by rw [List.eq_of_mem_replicate hx]; decide
  first := by
    have : (1 : Nat) ≤ 2 ^ l.toNat := Nat.one_le_two_pow
    obtain ⟨m, hm⟩ : ∃ m, 2 * 2 ^ l.toNat = m + 1 := ⟨2 * 2 ^ l.toNat - 1, by omega⟩
    rw [hm]; rfl
  tot := (isum_zeros _).symm
  most := by decide
  used := (nnz_zeros _).symm

set_option maxHeartbeats 1000000 in
theorem d_new_no (l : Int) (w : World) (h : l < 1 ∨ 16 < l) :
    Calls Try.prog 117 #[.int .i64 l] w fun e w' => e = .returned (.tuple #[.pointer none, .int .i64 2]) ∧ w = w' := by
  by_cases h1 : l < 1
  · go_enter Try.func117, Try.ntmps117
    go_wp2
    go_ret2
    exact ⟨rfl, rfl⟩
  · have h2 : 16 < l := by omega
    go_enter Try.func117, Try.ntmps117
    go_wp2
    go_ret2
    exact ⟨rfl, rfl⟩

def DNewPost (l : Int) (cs : List Int) (w : World) (e : Ending) (w' : World) : Prop :=
  ∃ g h, e = .returned (.tuple #[.pointer (some ⟨g, 0, none⟩), .int .i64 0]) ∧ DnV w' g h l cs ∧ w.heap.size ≤ g ∧ w.heap.size ≤ h ∧ Below w.heap.size w w'
set_option maxHeartbeats 1000000 in
theorem d_new (l : Int) (w : World) (h1 : 1 ≤ l) (h2 : l ≤ 16) :
    Calls Try.prog 117 #[.int .i64 l] w (DNewPost l (List.replicate (2 * 2 ^ l.toNat) 0) w) := by
  have V := hid (Dv.new h1 h2)
  obtain ⟨n, rfl⟩ := Int.eq_ofNat_of_zero_le (show 0 ≤ l by omega)
  have hp : (2 : Nat) ^ n ≤ 2 ^ 16 := Nat.pow_le_pow_right (by omega) (by omega)
  have hp2 : (2 : Nat) ^ 16 = 65536 := rfl
  have hwr : wrap64 (2 * 2 ^ n) = ((2 * 2 ^ n : Nat) : Int) := by
    rw [show (2 : Int) * 2 ^ n = ((2 * 2 ^ n : Nat) : Int) by simp]
    exact IntWalk.wrap64_in _ ⟨by omega, by omega⟩
  have hmk := make_ints (2 * 2 ^ n) (by omega)
  rw [← hwr] at hmk
  have hN : 2 * 2 ^ n ≤ 131072 := by omega
  simp only [Int.toNat_natCast] at V ⊢
  generalize 2 * 2 ^ n = N at *
  clear hwr hp
  go_enter Try.func117, Try.ntmps117
  go_wp2
  have hlen : (List.replicate N (0 : Int)).length = N := by simp
  refine bodyPost_ret (v := .tuple #[.pointer (some ⟨w.heap.size + 1, 0, none⟩), .int .i64 0]) (by simp [results, Try.results117, go_sem]) rfl ⟨w.heap.size + 1, w.heap.size, rfl, ⟨0, 0, ⟨?_, (Blk.new _ _ _).alloc _, by omega⟩, V.out⟩, by omega, Nat.le_refl _, ((Below.refl _ _).alloc (Nat.le_refl _) _).alloc (by simp) _⟩
  rw [hlen]
  have h := Blk.new (w.alloc (Obj.cells (icells (List.replicate N 0)) 3)) #[.int .i64 n, .int .i64 0, .int .i64 0, .slice (some ⟨w.heap.size, 0, none⟩) N N] 149
  simpa using h
end Go.Proofs.Ytejoecoenehooaa
