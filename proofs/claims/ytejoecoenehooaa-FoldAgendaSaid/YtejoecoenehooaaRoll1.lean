/- The walks of package roll: the order by numbers, Clone, Sorted. -/
import Derived.Test.YtejoecoenehooaaRoMath
import Derived.Test.YtejoecoenehooaaNdRef2
import Derived.Deep.AppendLies
import Derived.Deep.RegionHeld3
namespace Go.Proofs.Ytejoecoenehooaa
open Go.RowKit Nl

set_option maxRecDepth 100000 in
set_option maxHeartbeats 400000 in
theorem o_ahead (a b c d : Int) (w : World) :
    Calls Try.prog 151 #[.agg #[.int .i64 a, .int .i64 b], .agg #[.int .i64 c, .int .i64 d]] w fun e w' => e = .returned (.bool (decide (a < c))) ∧ Below w.heap.size w w' := by
  by_cases h : a < c
  · go_enter Try.func151, Try.ntmps151
    go_wp2_with fail
    go_ret
    exact ⟨by simp [h], ((Below.refl _ _).alloc (Nat.le_refl _) _).alloc (by simp) _⟩
  · go_enter Try.func151, Try.ntmps151
    go_wp2_with fail
    go_ret
    exact ⟨by simp [h], ((Below.refl _ _).alloc (Nat.le_refl _) _).alloc (by simp) _⟩

set_option maxRecDepth 100000 in
set_option maxHeartbeats 1000000 in
theorem o_clone {v : Value} {xs : List Nd} (w : World) (hr : RdN w v xs) (hn : xs.length < 1048576) :
    Calls Try.prog 152 #[v] w (IsNodes xs w) := by
  rcases hr with ⟨rfl, rfl⟩ | ⟨a, cap, rfl, rfl⟩ | ⟨g, off, cap, rfl, hg, hc, hcells⟩
  · have e1 := fun w0 : World => Lib.run_eql_slice_nil (P := Try.prog) w0 33 100 none 0 0 0 0 Try.underlying33
    go_enter Try.func152, Try.ntmps152
    go_wp2_with fail
    go_ret
    exact ⟨_, rfl, OwnN.nil _ _, Below.refl _ _⟩
  · have e1 := fun w0 : World => Lib.run_eql_slice_nil (P := Try.prog) w0 33 100 (some a) 0 cap 0 0 Try.underlying33
    go_enter Try.func152, Try.ntmps152
    have hb0 : Below w.heap.size w (w.alloc (.cells #[] 100)) := (Below.refl _ _).alloc (Nat.le_refl _) _
    have ho : OwnN (w.alloc (.cells #[] 100)) w.heap.size (.slice (some ⟨w.heap.size, 0, none⟩) 0 0) [] := World.ownsRow_made w #[] 0 (Nat.le_refl _) (by decide) rfl
    go_wp2_with fail
    go_ret
    exact ⟨_, rfl, ho, hb0⟩
  · have hA : RdN w (.slice (some ⟨g, off, none⟩) xs.length cap) xs := .inr (.inr ⟨g, off, cap, rfl, hg, hc, hcells⟩)
    clear hcells
    have e1 := fun w0 : World => Lib.run_eql_slice_nil (P := Try.prog) w0 33 100 (some ⟨g, off, none⟩) xs.length cap 0 0 Try.underlying33
    go_enter Try.func152, Try.ntmps152
    have hb0 : Below w.heap.size w (w.alloc (.cells #[] 100)) := (Below.refl _ _).alloc (Nat.le_refl _) _
    have ho : OwnN (w.alloc (.cells #[] 100)) w.heap.size (.slice (some ⟨w.heap.size, 0, none⟩) 0 0) [] := World.ownsRow_made w #[] 0 (Nat.le_refl _) (by decide) rfl
    go_wp2_with (at_builtin; refine appendsN _ _ ho (hA.alloc _) (by simp; omega) (by simp) rfl rfl rfl rfl ?_; intro v1 w1 ho1 hg1)
    go_ret
    rw [List.nil_append] at ho1
    exact ⟨_, rfl, ho1, hb0.trans (below_grown hg1 (by simp) ho.lt)⟩

section
variable {ops : Array Oper} {o : Oper} {a : Act} {K : Act → World → Prop} {Q : Exit → Act → World → Prop} {E : Prop} {w : World} {v : Value} {xs : List Nd} {B T H : Nat}
/-- append(s, x) at a step of a region that draws its order: one node. -/
theorem step_appendN {b c : Int} (s x : Operand)
    (hown : OwnN w B v xs) (hlen : xs.length < 2097152) (hBr : B ≤ w.heap.size) (hbk : Blk w H #[.int .i64 b, .int .i64 c] T)
    (hgd : o.guard = none) (ho : o.op = .call { callee := .builtin .append, args := #[s, x], argTypes := #[33, 33] })
    (hv : a.eval s = v) (hx : a.eval x = .slice (some ⟨H, 0, none⟩) 1 1)
    (h : ∀ v' w', OwnN w' B v' (xs ++ [(b, c)]) → w.grownBy w' v.ownBlock → K (a.put o.dst v') w') :
    if Region.wanted o (yielded ops a.tmps) = true then Oper.wp Try.prog o a w K Q else E := by
  obtain ⟨i0, hi, hz0, hz1, hz2⟩ := info_parts Try.infoNode
  refine step_append_lies w hgd s x 33 ho B 100 i0 (.agg #[.int .i64 0, .int .i64 0]) 2 16 Try.underlying33 hi hz0 hz1 hz2 rfl (by decide) v xs.length (ncells xs) hv hown ⟨H, 0, none⟩ 1 1 (ncells [(b, c)]) hx rfl (World.news_of_block hbk) (ncells_one _) (by decide) ?_ ?_ hBr _ rfl ?_
  · unfold maxLen; omega
  · omega
  · intro g cap w' h1 h2 _ _
    refine h _ w' ?_ h2
    unfold OwnN
    rw [ncells_append]
    simpa using h1
end

/-- What Sorted's inner function makes of a slice. -/
def SortsPost (xs : List Nd) (w : World) (e : Ending) (w' : World) : Prop := ∃ v zs, e = .returned v ∧ SS xs zs ∧ zs.length = xs.length ∧ OwnN w' w.heap.size v zs ∧ Below w.heap.size w w'
theorem cell_below {w w' : World} {B g o : Nat} {v : Value} (hb : Below B w w') (h : w.cell? ⟨g, o, none⟩ = some v) (hg : g < B) : w'.cell? ⟨g, o, none⟩ = some v := (hb.cell (p := ⟨g, o, none⟩) hg).trans h
/-- s[1:] -/
theorem tailN {w : World} {g o n c : Nat} {x : Nd} {r : List Nd} (h : RdN w (.slice (some ⟨g, o, none⟩) n c) (x :: r)) :
    ∃ o', (∀ W : World, (Instr.sliceAt 33 (.slice (some ⟨g, o, none⟩) n c) (some (.int .i64 1)) none none).run Try.prog W = .ok (.slice (some ⟨g, o', none⟩) (n - 1) (c - 1)) W) ∧ RdN w (.slice (some ⟨g, o', none⟩) (n - 1) (c - 1)) r := by
  obtain ⟨h1, h2⟩ := h.len
  simp only [List.length_cons] at h1
  have h3 : (1 : Int) ≤ (n : Int) := by omega
  by_cases hc : c = 1
  · refine ⟨o, fun W => ?_, ?_⟩
    · subst hc
      have : n = 1 := by omega
      subst this
      simp [go_sem]
    · have hr : r = [] := List.eq_nil_of_length_eq_zero (by omega)
      subst hr
      have hn : n - 1 = 0 := by omega
      rw [hn]
      rcases h with ⟨h, _⟩ | ⟨_, _, _, h⟩ | ⟨g', o', c', hv, hg, _⟩
      · simp at h
      · cases h
      · simp only [Value.slice.injEq, Option.some.injEq, Addr.mk.injEq] at hv
        exact RdN.none (by omega)
  · refine ⟨o + 2, fun W => ?_, ?_⟩
    · simp [go_sem, h3, hc]
    · have := h.drop 1 (by omega)
      simpa using this
theorem RdN.belowU {w w' : World} {v : Value} {xs : List Nd} {B : Nat} (h : RdN w v xs) (hb : Below B w w') (hu : ∀ g, v.ownBlock = some g → g < B) : RdN w' v xs := h.keep (fun g _ hg => hb.block g (hu g hg)) hb.size
def lenOf : Value → Nat
  | .slice _ n _ => n
  | _ => 0
def MrgRel (w : World) (z5 z6 : List Nd) (va vb vo : Value) (wr : World) : Prop :=
  ∃ ta tb zo, Mrg z5 z6 zo ta tb ∧ RdN wr va ta ∧ RdN wr vb tb ∧ OwnN wr w.heap.size vo zo ∧ (∀ g, va.ownBlock = some g → g < w.heap.size) ∧ (∀ g, vb.ownBlock = some g → g < w.heap.size) ∧ Below w.heap.size w wr
def SortCut (w : World) (xs ys : List Nd) (va vb : Value) (wr : World) : Prop :=
  ∃ xs' ys', SS xs xs' ∧ SS ys ys' ∧ xs'.length = xs.length ∧ ys'.length = ys.length ∧ OwnN wr w.heap.size va xs' ∧ OwnN wr w.heap.size vb ys' ∧ Below w.heap.size w wr

set_option maxRecDepth 100000 in
set_option maxHeartbeats 2000000 in
theorem o_sorts (n : Nat) : ∀ (xs : List Nd) (v : Value) (w : World), xs.length ≤ n → xs.length < 1048576 → RdN w v xs →
    Calls Try.prog 150 #[v, .func (.func 151) #[] #[]] w (SortsPost xs w) := by
  induction n with
  | zero =>
    intro xs v w hn hl hr
    have hC := hid (o_clone w hr hl)
    obtain ⟨p, cap, rfl⟩ := hr.val
    have hlt : xs.length < 2 := by omega
    have hS := hid (SS_self hlt)
    go_enter Try.func150, Try.ntmps150
    go_wp2_with fail
    refine hC.out.mono ?_
    rintro e w1 ⟨v1, rfl, ho1, hb1⟩
    go_wp2_with fail
    go_ret
    exact ⟨_, xs, rfl, hS.out, rfl, ho1, hb1⟩
  | succ n ih =>
    intro xs v w hn hl hr
    by_cases hlt : xs.length < 2
    · have hC := hid (o_clone w hr hl)
      obtain ⟨p, cap, rfl⟩ := hr.val
      have hS := hid (SS_self hlt)
      go_enter Try.func150, Try.ntmps150
      go_wp2_with fail
      refine hC.out.mono ?_
      rintro e w1 ⟨v1, rfl, ho1, hb1⟩
      go_wp2_with fail
      go_ret
      exact ⟨_, xs, rfl, hS.out, rfl, ho1, hb1⟩
    · have hge : 2 ≤ xs.length := by omega
      rcases hr with ⟨rfl, rfl⟩ | ⟨_, _, _, rfl⟩ | ⟨g, off, cap, rfl, hg, hc, hcells⟩
      · simp at hge
      · simp at hge
      have hr : RdN w (.slice (some ⟨g, off, none⟩) xs.length cap) xs := .inr (.inr ⟨g, off, cap, rfl, hg, hc, hcells⟩)
      obtain ⟨m, hm⟩ : ∃ m, xs.length / 2 = m := ⟨_, rfl⟩
      have hm1 : 1 ≤ m := by omega
      have hm2 : m < xs.length := by omega
      have em : ((xs.length : Int) / 2) = (m : Int) := by omega
      have Em := hid em
      have hA := hr.take m (by omega)
      have hB := hr.drop m (by omega)
      have lA : (xs.take m).length = m := by simp; omega
      have lB : (xs.drop m).length = xs.length - m := by simp
      have IA := hid (fun W q => ih (xs.take m) (.slice (some ⟨g, off, none⟩) m cap) W (by omega) (by omega) q)
      have IB := hid (fun W q => ih (xs.drop m) (.slice (some ⟨g, off + m * 2, none⟩) (xs.length - m) (cap - m)) W (by omega) (by omega) q)
      have hcat : Hid (xs.take m ++ xs.drop m = xs) := List.take_append_drop m xs
      have LA := hid lA
      have LB := hid lB
      have i1 : (0 : Int) ≤ (m : Int) := by omega
      have i2 : (m : Int) ≤ (xs.length : Int) := by omega
      have i3 : (xs.length : Int) ≤ (cap : Int) := by omega
      have i4 : (m : Int) ≤ (cap : Int) := by omega
      have i5 : m < cap := by omega
      have hx1 : Hid (xs.length < 1048576) := hl
      clear ih hcells em hm lA lB hr
      go_enter Try.func150, Try.ntmps150
      go_upto_region 4 with fail
      rw [Em.out]
      go_cut [6, 7] (fun va vb wr => SortCut w (xs.take m) (xs.drop m) va vb wr)
      case first =>
        have hB0 := Below.refl w.heap.size w
        go_region_held3 (fun w' => Below w.heap.size w w')
          (first | exact hB0 | exact below_drewN hB0 1 | exact hB5 | exact hB6)
          (first
            | (go_at_call_of 150 (Value.slice (some ⟨g, off, none⟩) m cap); have hB4 := ‹Below w.heap.size w _›; refine (IA.out _ (hA.below hB4 (Nat.le_refl _))).mono ?_; rintro e w5 ⟨v5, z5, rfl, hs5, hl5, ho5, hb5⟩
               have hB5 := hB4.trans (hb5.mono hB4.size))
            | (go_at_call_of 150 (Value.slice (some ⟨g, off + m * 2, none⟩) (xs.length - m) (cap - m)); have hB4 := ‹Below w.heap.size w _›; refine (IB.out _ (hB.below hB4 (Nat.le_refl _))).mono ?_; rintro e w6 ⟨v6, z6, rfl, hs6, hl6, ho6, hb6⟩
               have hB6 := hB4.trans (hb6.mono hB4.size)))
        go_wp2_with fail
        go_meet
        exact ⟨z5, z6, hs5, hs6, hl5, hl6, ho5.below hb6 (Nat.le_refl _), ho6.mono hB5.size, hB6⟩
      case rest =>
        obtain ⟨z5, z6, hs5, hs6, hl5, hl6, ho5, ho6, hb6⟩ := hcut
        have hz5 := hid hs5
        have hz6 := hid hs6
        have hLen : z5.length + z6.length = xs.length := by have := LA.out; have := LB.out; omega
        have HLen := hid hLen
        have lS : z5.length + z6.length < 1048576 := by omega
        have l5 : z5.length < 1048576 := by omega
        have l6 : z6.length < 1048576 := by omega
        have M0 := Mrg.start hs5.1 hs6.1
        have hr5 := ho5.rd
        have hr6 := ho6.rd
        have hwc := hb6.size
        clear hs5 hs6 hl5 hl6 hLen hg hc hm1 hm2 hlt hge hl hn i1 i2 i3 i4 i5 hA hB
        go_wp2_with fail
        go_loopw [6, 7, 8] (fun va vb vo wr => MrgRel wc z5 z6 va vb vo wr) (fun va vb _ _ => lenOf va + lenOf vb)
        case atStart => exact ⟨z5, z6, [], M0, hr5, hr6, OwnN.nil _ _, (fun g hg => ho5.lt' g hg), (fun g hg => ho6.lt' g hg), Below.refl _ _⟩
        case round =>
          obtain ⟨ta, tb, zo, M, ra, rb, oo, ua, ub, hbl⟩ := hrel
          have hlo := M.len
          have hwr := hbl.size
          cases ta with
          | nil =>
            obtain ⟨pa, ca, rfl⟩ := ra.val
            obtain ⟨pb, cb, rfl⟩ := rb.val
            have D := hid (M.done (.inl rfl) hz5.out hz6.out)
            have Lo := hid hlo
            have hlz : zo.length < 2097152 := by simp at hlo ⊢; omega
            have hlb : tb.length < 1048576 := by simp at hlo ⊢; omega
            have hlzb : zo.length + tb.length < 2097152 := by simp at hlo ⊢; omega
            clear M hlo
            simp only [List.length_nil] at ra ua ⊢
            go_wp2_with (first
              | (at_builtin; refine appendsN (xs := zo) _ _ oo ra (by simp; omega) (by omega) (by rfl) (by rfl) (by rfl) (by rfl) ?_; intro v1 w1 ho1 hg1
                 have hb1 : Below wc.heap.size wr w1 := below_grown hg1 (by omega) oo.lt
                 have hs1 := hb1.size
                 have rb1 := rb.belowU hb1 ub)
              | (at_builtin; refine appendsN _ _ ho1 rb1 (by simp; omega) (by omega) (by rfl) (by rfl) (by rfl) (by rfl) ?_; intro v2 w2 ho2 hg2))
            go_ret
            have hfin := D.out
            rw [hcat.out] at hfin
            refine ⟨_, _, rfl, hfin, ?_, ho2.mono hwc, hb6.trans (((hbl.trans hb1).trans (below_grown hg2 (by omega) ho1.lt)).mono hwc)⟩
            have := Lo.out
            have := HLen.out
            simp at *
            omega
          | cons x ta =>
            cases tb with
            | nil =>
              obtain ⟨pa, ca, rfl⟩ := ra.val
              obtain ⟨pb, cb, rfl⟩ := rb.val
              have D := hid (M.done (.inr rfl) hz5.out hz6.out)
              have Lo := hid hlo
              have hlz : zo.length < 2097152 := by simp at hlo ⊢; omega
              have hlb : (x :: ta).length < 1048576 := by simp at hlo ⊢; omega
              have hlzb : zo.length + (x :: ta).length < 2097152 := by simp at hlo ⊢; omega
              clear M hlo
              simp only [List.length_nil] at rb ub ⊢
              go_wp2_with (first
                | (at_builtin; refine appendsN (xs := zo) _ _ oo ra (by simp; omega) (by omega) (by rfl) (by rfl) (by rfl) (by rfl) ?_; intro v1 w1 ho1 hg1
                   have hb1 : Below wc.heap.size wr w1 := below_grown hg1 (by omega) oo.lt
                   have hs1 := hb1.size
                   have rb1 := rb.belowU hb1 ub)
                | (at_builtin; refine appendsN _ _ ho1 rb1 (by simp; omega) (by omega) (by rfl) (by rfl) (by rfl) (by rfl) ?_; intro v2 w2 ho2 hg2))
              go_ret
              have hfin := D.out
              rw [hcat.out] at hfin
              refine ⟨_, _, rfl, hfin, ?_, ho2.mono hwc, hb6.trans (((hbl.trans hb1).trans (below_grown hg2 (by omega) ho1.lt)).mono hwc)⟩
              have := Lo.out
              have := HLen.out
              simp at *
              omega
            | cons y tb =>
              rcases ra with ⟨_, h⟩ | ⟨_, _, _, h⟩ | ⟨ga, oa, ca, rfl, hga, hca, hra⟩
              · cases h
              · cases h
              rcases rb with ⟨_, h⟩ | ⟨_, _, _, h⟩ | ⟨gb, ob, cb, rfl, hgb, hcb, hrb⟩
              · cases h
              · cases h
              obtain ⟨x1, x2⟩ := x
              obtain ⟨y1, y2⟩ := y
              have qa := hra 0 (by simp)
              have qb := hrb 0 (by simp)
              simp only [List.getD_cons_zero, Nat.zero_mul, Nat.add_zero] at qa qb
              obtain ⟨qa1, qa2⟩ := qa
              obtain ⟨qb1, qb2⟩ := qb
              have na : 0 < ((x1, x2) :: ta).length := by simp
              have nb : 0 < ((y1, y2) :: tb).length := by simp
              have hga2 := ua ga rfl
              have hgb2 := ub gb rfl
              have ra : RdN wr (.slice (some ⟨ga, oa, none⟩) ((x1, x2) :: ta).length ca) ((x1, x2) :: ta) := .inr (.inr ⟨ga, oa, ca, rfl, hga, hca, hra⟩)
              have rb : RdN wr (.slice (some ⟨gb, ob, none⟩) ((y1, y2) :: tb).length cb) ((y1, y2) :: tb) := .inr (.inr ⟨gb, ob, cb, rfl, hgb, hcb, hrb⟩)
              obtain ⟨oa', sla, rat⟩ := tailN ra
              obtain ⟨ob', slb, rbt⟩ := tailN rb
              have Rbt := hid rbt
              have Rat := hid rat
              have Mr := hid (fun q => M.right q)
              have Ml := hid (fun q => M.left q)
              have Lo := hid hlo
              have Loa : Hid (((x1, x2) :: ta).length = ta.length + 1) := rfl
              have Lob : Hid (((y1, y2) :: tb).length = tb.length + 1) := rfl
              have hzl : zo.length < 2097152 := by omega
              generalize ((x1, x2) :: ta).length = la at *
              generalize ((y1, y2) :: tb).length = lb at *
              clear hra hrb rbt rat M hlo
              go_wp2_with fail
              have ia1 : (0 : Int) < (la : Int) := by omega
              have ib1 : (0 : Int) < (lb : Int) := by omega
              go_region_held3 (fun w' => w'.cell? ⟨ga, oa, none⟩ = some (.int .i64 x1) ∧ w'.cell? ⟨ga, oa + 1, none⟩ = some (.int .i64 x2) ∧ w'.cell? ⟨gb, ob, none⟩ = some (.int .i64 y1) ∧ w'.cell? ⟨gb, ob + 1, none⟩ = some (.int .i64 y2))
                (first | exact ⟨qa1, qa2, qb1, qb2⟩ | exact ⟨hk1, hk2, hk3, hk4⟩)
                (first
                  | (go_at_call 151; refine (o_ahead y1 y2 x1 x2 _).mono ?_; rintro e w3 ⟨rfl, hb3⟩
                     have hk1 := cell_below hb3 qa1 hga
                     have hk2 := cell_below hb3 qa2 hga
                     have hk3 := cell_below hb3 qb1 hgb
                     have hk4 := cell_below hb3 qb2 hgb))
              have hb3' : Below wr.heap.size wr w3 := (below_drewN (Below.refl _ _) 1).trans hb3
              have oo3 := oo.below hb3' (Nat.le_refl _)
              have ra3 := ra.below hb3' (Nat.le_refl _)
              have rb3 := rb.below hb3' (Nat.le_refl _)
              have rat3 := hid (Rat.out.below hb3' (Nat.le_refl _))
              have rbt3 := hid (Rbt.out.below hb3' (Nat.le_refl _))
              have hs3 := hb3'.size
              have hbw3 := hbl.trans (hb3'.mono hbl.size)
              have hga3 : ga < w3.heap.size := by omega
              have hgb3 : gb < w3.heap.size := by omega
              have hwc3 : wc.heap.size ≤ w3.heap.size := by omega
              clear qa1 qa2 qb1 qb2 hb3 ra rb oo hbl
              by_cases hyx : y1 < x1
              · go_wp2_with fail
                go_region_held3 (fun w' => w'.cell? ⟨gb, ob, none⟩ = some (.int .i64 y1) ∧ w'.cell? ⟨gb, ob + 1, none⟩ = some (.int .i64 y2) ∧ Below wc.heap.size w3 w')
                  (first
                    | exact ⟨hk3, hk4, below_drewN (Below.refl _ _) 1⟩
                    | exact ⟨cell_below ((below_drewN (Below.refl w3.heap.size w3) 1).alloc (Nat.le_refl _) _) hk3 hgb3, cell_below ((below_drewN (Below.refl w3.heap.size w3) 1).alloc (Nat.le_refl _) _) hk4 hgb3, (below_drewN (Below.refl _ _) 1).alloc hwc3 _⟩
                    | exact ⟨cell_below hb4 hk3 hgb2, cell_below hb4 hk4 hgb2, hb4⟩)
                  (first
                    | (refine step_appendN (w := w3.drew.alloc (.cells #[.int .i64 y1, .int .i64 y2] 100)) (H := w3.heap.size) (b := y1) (c := y2) _ _ ((oo3.drewN 1).alloc _) hzl (by simp; omega) (Blk.new w3.drew _ _) (by rfl) (by rfl) (by rfl) (by rfl) ?_; intro v4 w4 ho4 hg4
                       have hb4 : Below wc.heap.size w3 w4 := ((below_drewN (Below.refl _ _) 1).alloc hwc3 _).trans (below_grown hg4 (by simp; omega) oo3.lt)))
                go_wp2_with fail
                go_roundw
                case rel => exact ⟨_, tb, _, Mr.out hyx, ra3.belowU hb4 ua, rbt3.out.belowU hb4 (fun g h => ub g h), ho4, ua, (fun g h => ub g h), hbw3.trans hb4⟩
                case measure => simp [lenOf]; omega
              · go_wp2_with fail
                go_region_held3 (fun w' => w'.cell? ⟨ga, oa, none⟩ = some (.int .i64 x1) ∧ w'.cell? ⟨ga, oa + 1, none⟩ = some (.int .i64 x2) ∧ Below wc.heap.size w3 w')
                  (first
                    | exact ⟨hk1, hk2, below_drewN (Below.refl _ _) 1⟩
                    | exact ⟨cell_below ((below_drewN (Below.refl w3.heap.size w3) 1).alloc (Nat.le_refl _) _) hk1 hga3, cell_below ((below_drewN (Below.refl w3.heap.size w3) 1).alloc (Nat.le_refl _) _) hk2 hga3, (below_drewN (Below.refl _ _) 1).alloc hwc3 _⟩
                    | exact ⟨cell_below hb4 hk1 hga2, cell_below hb4 hk2 hga2, hb4⟩)
                  (first
                    | (refine step_appendN (w := w3.drew.alloc (.cells #[.int .i64 x1, .int .i64 x2] 100)) (H := w3.heap.size) (b := x1) (c := x2) _ _ ((oo3.drewN 1).alloc _) hzl (by simp; omega) (Blk.new w3.drew _ _) (by rfl) (by rfl) (by rfl) (by rfl) ?_; intro v4 w4 ho4 hg4
                       have hb4 : Below wc.heap.size w3 w4 := ((below_drewN (Below.refl _ _) 1).alloc hwc3 _).trans (below_grown hg4 (by simp; omega) oo3.lt)))
                go_wp2_with fail
                go_roundw
                case rel => exact ⟨ta, _, _, Ml.out (by omega), rat3.out.belowU hb4 (fun g h => ua g h), rb3.belowU hb4 ub, ho4, (fun g h => ua g h), ub, hbw3.trans hb4⟩
                case measure => simp [lenOf]; omega
end Go.Proofs.Ytejoecoenehooaa
