/- The walk of PoolPlays. -/
import Derived.Test.YtipnnogafanemaaPool7
namespace Go.Proofs.Ytipnnogafanemaa
open Go.RowKit Nl

namespace Nl
theorem addS_length (zs : List (Int × Int)) (id c : Int) : (addS zs id c).length ≤ zs.length + 1 := by
  unfold addS
  have h1 := mstep_length (upTo id zs) (id, c)
  have h2 := congrArg List.length (upTo_past id zs)
  simp only [List.length_append] at h2 ⊢
  omega
theorem Roll.do_len {l : Int} {zs : List (Int × Int)} (r : Roll l zs) (kind id c : Int) : (stDo l zs kind id c).1.length ≤ zs.length + 1 := by
  unfold stDo
  split
  · unfold stAdd
    split
    · simp
    · rename_i h1
      split
      · simp
      · rename_i h2
        rw [r.tot] at h2
        have hr : rightB l id = true := by
          cases h : rightB l id
          · exact absurd (.inl h) h1
          · rfl
        have hc : 0 ≤ c := by
          by_cases h : c < 0
          · exact absurd (.inr h) h1
          · omega
        rw [foldL_add r.strict (right_pos hr) hc (by omega)]
        exact addS_length zs id c
  · split
    · unfold stTake; exact Nat.le_succ_of_le (List.length_filter_le _ zs)
    · simp
end Nl
/-- A value whose block is not h, if it reads as any nodes. -/
def Off (v : Value) (xs : List Nd) (h : Nat) : Prop := xs = [] ∨ v.ownBlock ≠ some h
theorem RdN.tchO {w w' : World} {v : Value} {xs : List Nd} {g h : Nat} (r : RdN w v xs) (t : Tch g h w w') (o1 : Off v xs g) (o2 : Off v xs h) : RdN w' v xs := by
  rcases o1 with e | o1
  · subst e; exact r.any
  · rcases o2 with e | o2
    · subst e; exact r.any
    · exact r.tch t o1 o2
theorem store_rdb {w : World} {B g j : Nat} {v x : Value} {xs : List Nd} (h : RdB w B v xs) (hg : g < B) : RdB (w.setCell ⟨g, j, none⟩ x) B v xs :=
  ⟨h.1.keep (fun k _ hk => Below.heap_setCell w ⟨g, j, none⟩ x k (by have := h.2 k hk; show k ≠ g; omega)) (by simp), h.2⟩

/-- What stands between two calls: the pool has just the document's nodes. -/
def PLRel (w w1 : World) (b q g : Nat) (kind0 l : Int) (n : Nat) (i : Value) (wr : World) : Prop :=
  ∃ (k h : Nat) (zs : List Nd) (v : Value), i = .int .i64 k ∧ k ≤ n ∧ PoolV wr q g h kind0 l k zs ∧ zs.length ≤ k ∧ Blk wr b #[.int .i64 l, v] 34 ∧ RdB wr w1.heap.size v zs ∧ w1.heap.size ≤ wr.heap.size ∧ Below w.heap.size w wr ∧ h ≠ b ∧ w.heap.size ≤ h ∧ Off v zs h

set_option maxRecDepth 100000 in
set_option maxHeartbeats 4000000 in
theorem PoolPlays_walk (kind0 l : Int) (v : Value) (os : List Op3) (w : World) (hk0 : -9223372036854775808 ≤ kind0) (hk1 : kind0 ≤ 9223372036854775807) (hl : -9223372036854775808 ≤ l) (hl1 : l ≤ 9223372036854775807) (ho : RdO w v os) :
    Calls Try.prog 7 #[.int .i64 kind0, .int .i64 l, v] w fun e w' => e = .returned (.bool true) ∧ Below w.heap.size w w' := by
  obtain ⟨p, cap, rfl, hlen, hcells⟩ := ho
  have A := hid (p9_alive w)
  by_cases h1 : 60 < os.length
  · clear hcells
    go_enter Try.func7, Try.ntmps7
    go_wp2_with fail
    refine A.out.mono ?_
    rintro e w' ⟨rfl, hb⟩
    go_wp2_with fail
    go_ret
    exact ⟨rfl, hb⟩
  by_cases h2 : kind0 = 1 ∧ 10 < l ∧ 10 < os.length
  · obtain ⟨rfl, h2, h3⟩ := h2
    clear hcells
    go_enter Try.func7, Try.ntmps7
    go_wp2_with fail
    refine A.out.mono ?_
    rintro e w' ⟨rfl, hb⟩
    go_wp2_with fail
    go_ret
    exact ⟨rfl, hb⟩
  have hcase : ((kind0 == 1) = false ∧ True ∧ True) ∨ ((kind0 == 1) = true ∧ l ≤ 10 ∧ True) ∨ ((kind0 == 1) = true ∧ 10 < l ∧ os.length ≤ 10) := by
    by_cases e : kind0 = 1
    · subst e
      have : l ≤ 10 ∨ (10 < l ∧ os.length ≤ 10) := by omega
      rcases this with e | e
      · exact .inr (.inl ⟨rfl, e, trivial⟩)
      · exact .inr (.inr ⟨rfl, e⟩)
    · exact .inl ⟨by simpa using e, trivial, trivial⟩
  obtain ⟨P, eP⟩ : ∃ P, poolIs kind0 l = P := ⟨_, rfl⟩
  have Is := hid (fun W => r_poolIs kind0 l W)
  rw [eP] at Is
  cases P
  · have N := hid (pl_new_no kind0 l w eP)
    clear h2 eP hcells
    rcases hcase with ⟨e1, e2, e3⟩ | ⟨e1, e2, e3⟩ | ⟨e1, e2, e3⟩
    all_goals
      go_enter Try.func7, Try.ntmps7
      go_wp2_with fail
      refine N.out.mono ?_
      rintro e w1 ⟨rfl, hb1⟩
      go_wp2_with fail
      refine (Is.out w1).mono ?_
      rintro e w2 ⟨rfl, rfl⟩
      go_wp2_with fail
      refine (p9_alive w1).mono ?_
      rintro e w' ⟨rfl, hb⟩
      go_wp2_with fail
      go_ret
      exact ⟨rfl, hb1.trans (hb.mono hb1.size)⟩
  have N := hid (pl_new kind0 l w eP)
  have Ho := hid hcells
  clear h2 eP hcells
  rcases hcase with ⟨e1, e2, e3⟩ | ⟨e1, e2, e3⟩ | ⟨e1, e2, e3⟩
  all_goals
    go_enter Try.func7, Try.ntmps7
    go_wp2_with fail
    refine N.out.mono ?_
    rintro e w1 ⟨q, g, h, rfl, dv1, hq, hg, hh, hb1⟩
    go_wp2_with fail
    refine (Is.out w1).mono ?_
    rintro e w2 ⟨rfl, rfl⟩
    go_wp2_with fail
    have hs1 := hb1.size
    have hb2 : Below w.heap.size w (w1.alloc (.cells #[.int .i64 l, .slice none 0 0] 34)) := hb1.trans (((Below.refl _ _).alloc (Nat.le_refl _) _).mono hs1)
    have X := Blk.new w1 #[.int .i64 l, .slice none 0 0] 34
    have dv2 := dv1.below ((Below.refl _ _).alloc (Nat.le_refl _) (.cells #[.int .i64 l, .slice none 0 0] 34)) (Nat.le_refl _)
    have hs2 : (w1.alloc (.cells #[.int .i64 l, .slice none 0 0] 34)).heap.size = w1.heap.size + 1 := by simp
    obtain ⟨hq1, hg1, hh1, _⟩ := dv1.lt
    generalize hb : w1.heap.size = b at *
    generalize (w1.alloc (.cells #[.int .i64 l, .slice none 0 0] 34)) = w2 at *
    go_loopw [60] (fun i wr => PLRel w w2 b q g kind0 l os.length i wr) (fun i _ => os.length - (intOf i).toNat)
    case atStart => exact ⟨0, h, [], _, rfl, by omega, dv2, by simp, X, RdB.nil _ _, Nat.le_refl _, hb2, by omega, hh, .inl rfl⟩
    case round =>
      obtain ⟨k, h, zs, v0, rfl, hk, dv, hzk, X1, hr, hwr, hbl, hhb, hhw, hvh⟩ := hrel
      obtain ⟨hlq, hlg, hlh, _⟩ := dv.lt
      by_cases h6 : k < os.length
      · obtain ⟨gq, off, rfl, hgo, c1, c2, c3, k1, k2, k3⟩ := Ho.out k h6
        have eb := hbl.block gq hgo
        have c1' := (World.cell?_of_block (w := w) (w' := wr) (a := ⟨gq, off + k * 3, none⟩) eb).trans c1
        have c2' := (World.cell?_of_block (w := w) (w' := wr) (a := ⟨gq, off + k * 3 + 1, none⟩) eb).trans c2
        have c3' := (World.cell?_of_block (w := w) (w' := wr) (a := ⟨gq, off + k * 3 + 2, none⟩) eb).trans c3
        obtain ⟨⟨kind, id, c⟩, eo⟩ : ∃ x, os.getD k (0, 0, 0) = x := ⟨_, rfl⟩
        rw [eo] at c1' c2' c3' k1 k2 k3
        simp only at c1' c2' c3' k1 k2 k3
        obtain ⟨p0, cap0, rfl⟩ := hr.1.val
        have hroll := dv.roll
        have hxl : zs.length < 1000000 := by omega
        have hxt : 0 ≤ totV zs ∧ totV zs ≤ 72057594037927935 := by
          rw [hroll.tot]; exact hroll.sum
        have hzn := hroll.do_len kind id c
        have hba : Below wr.heap.size wr (wr.alloc (.cells #[.int .i64 kind, .int .i64 id, .int .i64 c] 52)) := (Below.refl _ _).alloc (Nat.le_refl _) _
        have Do := r_stdo l kind id c (wr.alloc (.cells #[.int .i64 kind, .int .i64 id, .int .i64 c] 52)) (hr.below hba (Nat.le_refl _)) (by simp; omega) hxl ⟨hl, hl1⟩ k2 k3 hxt
        have Do' := hid Do
        have Hxl := hid hxl
        have x0 : wr.cell? ⟨b, 0, none⟩ = some (.int .i64 l) := X1.cell 0
        have x1 : wr.cell? ⟨b, 1, none⟩ = some (.slice p0 zs.length cap0) := X1.cell 1
        have f0 := X1.free 0
        have f1 := X1.free 1
        have hlb := X1.lt
        obtain ⟨⟨zs', code⟩, ed⟩ : ∃ r, stDo l zs kind id c = r := ⟨_, rfl⟩
        have Law := fun W (q' : PoolV W q g h kind0 l k zs) => p9_do (k + 1) kind id c q' (by omega) (by omega) (by omega) k2 k3
        rw [ed] at Do' Law hzn
        simp only at Do' hzn
        have Law' := hid Law
        clear Do Law hxt hxl c1 c2 c3 eo ed eb A N hroll
        go_wp2_with fail
        refine Do'.out.mono ?_
        rintro e w3 ⟨v3, rfl, hr3, hv3, hb3⟩
        dsimp only at hr3 hv3 ⊢
        have X3 : Blk w3 b #[.int .i64 l, .slice p0 zs.length cap0] 34 := (X1.below hba (Nat.le_refl _)).below hb3 (Nat.le_refl _)
        have O3 : Blk w3 wr.heap.size #[.int .i64 kind, .int .i64 id, .int .i64 c] 52 := (Blk.new wr _ _).below hb3 (Nat.le_refl _)
        have D3 : PoolV w3 q g h kind0 l k zs := (dv.below hba (Nat.le_refl _)).below hb3 (Nat.le_refl _)
        have hs3 := hb3.size
        simp only [World.size_alloc] at hs3
        have hbw3 : Below w.heap.size w w3 := hbl.trans ((hba.trans (hb3.mono (by simp))).mono hbl.size)
        obtain ⟨p3, cap3, rfl⟩ : ∃ p cap, v3 = .slice p zs'.length cap := hr3.1.val
        clear x0 x1 f0 f1 X1 hr dv
        have x0 : w3.cell? ⟨b, 0, none⟩ = some (.int .i64 l) := X3.cell 0
        have x1 : w3.cell? ⟨b, 1, none⟩ = some (.slice p0 zs.length cap0) := X3.cell 1
        have f0 := X3.free 0
        have f1 := X3.free 1
        have o0 : w3.cell? ⟨wr.heap.size, 0, none⟩ = some (.int .i64 kind) := O3.cell 0
        have o1 : w3.cell? ⟨wr.heap.size, 1, none⟩ = some (.int .i64 id) := O3.cell 1
        have o2 : w3.cell? ⟨wr.heap.size, 2, none⟩ = some (.int .i64 c) := O3.cell 2
        have hob : wr.heap.size ≠ b := by omega
        have hbo : b ≠ wr.heap.size := by omega
        have hlb3 : b < w3.heap.size := by omega
        have hlo3 : wr.heap.size < w3.heap.size := by omega
        go_wp2_with fail
        have hgb : g ≠ b := by omega
        have hs4 : w3.heap.size ≤ (((w3.setCell ⟨b, 0, none⟩ (.int .i64 l)).setCell ⟨b, 1, none⟩ (.slice p3 zs'.length cap3)).alloc (.cells #[.int .i64 l, .slice p3 zs'.length cap3] 34)).heap.size := by simp
        have X4 : Blk (((w3.setCell ⟨b, 0, none⟩ (.int .i64 l)).setCell ⟨b, 1, none⟩ (.slice p3 zs'.length cap3)).alloc (.cells #[.int .i64 l, .slice p3 zs'.length cap3] 34)) b #[.int .i64 l, .slice p3 zs'.length cap3] 34 := ((X3.set 0 (.int .i64 l)).set 1 (.slice p3 zs'.length cap3)).alloc _
        have T4 : Tch b b w3 (((w3.setCell ⟨b, 0, none⟩ (.int .i64 l)).setCell ⟨b, 1, none⟩ (.slice p3 zs'.length cap3)).alloc (.cells #[.int .i64 l, .slice p3 zs'.length cap3] 34)) := ((Tch.set1 w3 0 _).trans (Tch.set1 _ 1 _)).trans (Tch.of_below ((Below.refl _ _).alloc (Nat.le_refl _) _))
        have hqb : q ≠ b := by omega
        have D4 := D3.tch T4 ⟨hgb, hgb⟩ ⟨hhb, hhb⟩ ⟨hqb, hqb⟩
        have R4 : RdB (((w3.setCell ⟨b, 0, none⟩ (.int .i64 l)).setCell ⟨b, 1, none⟩ (.slice p3 zs'.length cap3)).alloc (.cells #[.int .i64 l, .slice p3 zs'.length cap3] 34)) w2.heap.size (.slice p3 zs'.length cap3) zs' := (store_rdb (store_rdb hr3 (by omega)) (by omega)).below ((Below.refl _ _).alloc (Nat.le_refl _) _) (Nat.le_refl _)
        have B4 := hbw3.trans (T4.below (B := w.heap.size) (by omega) (by omega) hbw3.size)
        generalize (((w3.setCell ⟨b, 0, none⟩ (.int .i64 l)).setCell ⟨b, 1, none⟩ (.slice p3 zs'.length cap3)).alloc (.cells #[.int .i64 l, .slice p3 zs'.length cap3] 34)) = w4 at *
        refine (Law'.out w4 D4).mono ?_
        rintro e w5 ⟨rfl, h', D5, hh', T5⟩
        dsimp only at D5 ⊢
        have X5 := X4.tch T5 (Ne.symm hgb) (Ne.symm hhb)
        have hv3h : Off (.slice p3 zs'.length cap3) zs' h := by
          rcases hv3 with e | e
          · rcases hvh with e2 | e2
            · left; rw [e2] at e; simp only [Value.slice.injEq, List.length_nil] at e; exact List.eq_nil_of_length_eq_zero e.2.1
            · right; rw [e]; exact e2
          · right; intro q'; have := e h q'; simp only [World.size_alloc] at this; omega
        have R5 : RdN w5 (.slice p3 zs'.length cap3) zs' := R4.1.tchO T5 (.inr fun q' => by have := R4.2 _ q'; omega) hv3h
        have x50 : w5.cell? ⟨b, 0, none⟩ = some (.int .i64 l) := X5.cell 0
        have x51 : w5.cell? ⟨b, 1, none⟩ = some (.slice p3 zs'.length cap3) := X5.cell 1
        have hs5 := T5.size
        have hlt4 := R4.1.ltE
        have B5 := B4.trans (T5.below hg hhw B4.size)
        have hhb' : h' ≠ b := by rcases hh' with e | e; · rw [e]; exact hhb
                                 · omega
        have hhw' : w.heap.size ≤ h' := by rcases hh' with e | e; · rw [e]; exact hhw
                                           · have := B4.size; omega
        have hvh' : Off (.slice p3 zs'.length cap3) zs' h' := by
          rcases hh' with e | e
          · rw [e]; exact hv3h
          · rcases hlt4 with e2 | e2
            · exact .inl e2
            · right; intro q'; have := e2 h' q'; omega
        clear x0 x1 o0 o1 o2 f0 f1
        go_wp2_with fail
        refine (p9_like D5 (by omega) R5).mono ?_
        rintro e w6 ⟨rfl, hb6⟩
        have hs6 := hb6.size
        go_wp2_with fail
        go_roundw
        case rel => exact ⟨k + 1, h', zs', _, by go_num, by omega, D5.below hb6 (Nat.le_refl _), by omega, X5.below hb6 (Nat.le_refl _), ⟨R5.below hb6 (Nat.le_refl _), R4.2⟩, by omega, B5.trans (hb6.mono B5.size), hhb', hhw', hvh'⟩
        case measure => simp [intOf]; omega
      · go_wp2_with fail
        refine (p9_alive wr).mono ?_
        rintro e w' ⟨rfl, hb⟩
        go_wp2_with fail
        go_ret
        exact ⟨rfl, hbl.trans (hb.mono hbl.size)⟩
end Go.Proofs.Ytipnnogafanemaa
