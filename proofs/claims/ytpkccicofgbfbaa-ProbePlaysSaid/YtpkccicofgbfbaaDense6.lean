/- The walk of DensePlays. -/
import Derived.Test.YtpkccicofgbfbaaDense5
import Derived.Test.YtpkccicofgbfbaaOpenRecs
namespace Go.Proofs.Ytpkccicofgbfbaa
open Go.RowKit Nl

/-- What stands between two calls: the store has just the document's nodes. -/
def PlaysRel (w w1 : World) (b g h : Nat) (l : Int) (n : Nat) (i : Value) (wr : World) : Prop :=
  ∃ (k : Nat) (cs : List Int) (v : Value), i = .int .i64 k ∧ k ≤ n ∧ DnV wr g h l cs ∧ Blk wr b #[.int .i64 l, v] 30 ∧ RdB wr w1.heap.size v (snapF 0 cs) ∧ w1.heap.size ≤ wr.heap.size ∧ Below w.heap.size w wr

theorem store_rdb {w : World} {B g j : Nat} {v x : Value} {xs : List Nd} (h : RdB w B v xs) (hg : g < B) : RdB (w.setCell ⟨g, j, none⟩ x) B v xs :=
  ⟨h.1.keep (fun k hk => Below.heap_setCell w ⟨g, j, none⟩ x k (by have := h.2 k hk; show k ≠ g; omega)) (by simp), h.2⟩

set_option maxRecDepth 100000 in
set_option maxHeartbeats 4000000 in
theorem DensePlays_walk (l : Int) (v : Value) (os : List Op3) (w : World) (hl : -9223372036854775808 ≤ l) (hl1 : l ≤ 9223372036854775807) (ho : RdO w v os) :
    Calls Try.prog 3 #[.int .i64 l, v] w fun e w' => e = .returned (.bool true) ∧ Below w.heap.size w w' := by
  obtain ⟨p, cap, rfl, hlen, hcells⟩ := ho
  have A := hid (law_alive w)
  by_cases h1 : 100 < os.length
  · clear hcells
    go_enter Try.func3, Try.ntmps3
    go_wp2_with fail
    refine A.out.mono ?_
    rintro e w' ⟨rfl, hb⟩
    go_wp2_with fail
    go_ret
    exact ⟨rfl, hb⟩
  by_cases h2 : 12 < l ∧ 20 < os.length
  · obtain ⟨h2, h3⟩ := h2
    clear hcells
    go_enter Try.func3, Try.ntmps3
    go_wp2_with fail
    refine A.out.mono ?_
    rintro e w' ⟨rfl, hb⟩
    go_wp2_with fail
    go_ret
    exact ⟨rfl, hb⟩
  have hcase : l ≤ 12 ∨ (12 < l ∧ os.length ≤ 20) := by omega
  by_cases h3 : l < 1 ∨ 16 < l
  · have Nn := hid (d_new_no l w h3)
    clear hcells
    have hc2 : (l ≤ 12 ∧ l < 1) ∨ (12 < l ∧ os.length ≤ 20 ∧ 16 < l) := by omega
    clear h2 hcase h3
    rcases hc2 with ⟨h2, h3⟩ | ⟨h2, h4, h3⟩
    all_goals
      go_enter Try.func3, Try.ntmps3
      go_wp2_with fail
      refine Nn.out.mono ?_
      rintro e w' ⟨rfl, rfl⟩
      go_wp2_with fail
      refine A.out.mono ?_
      rintro e w' ⟨rfl, hb⟩
      go_wp2_with fail
      go_ret
      exact ⟨rfl, hb⟩
  have h4 : 1 ≤ l := by omega
  have h5 : l ≤ 16 := by omega
  have N := hid (d_new l w h4 h5)
  obtain ⟨z0, ez⟩ : ∃ z, List.replicate (2 * 2 ^ l.toNat) (0 : Int) = z := ⟨_, rfl⟩
  have es : snapF 0 z0 = [] := by
    subst ez
    generalize 2 * 2 ^ l.toNat = m
    generalize 0 = k
    induction m generalizing k with
    | zero => rfl
    | succ m ih => simp [List.replicate_succ, snapF, ih]
  have Es := hid es
  rw [ez] at N
  have Ho := hid hcells
  clear h2 h3 ez es hcells
  rcases hcase with h2 | ⟨h2, h3⟩
  all_goals
    go_enter Try.func3, Try.ntmps3
    go_wp2_with fail
    refine N.out.mono ?_
    rintro e w1 ⟨g, h, rfl, dv1, hg, hh, hb1⟩
    go_wp2_with fail
    have hs1 := hb1.size
    have hb2 : Below w.heap.size w (w1.alloc (.cells #[.int .i64 l, .slice none 0 0] 30)) := hb1.trans (((Below.refl _ _).alloc (Nat.le_refl _) _).mono hs1)
    have X := Blk.new w1 #[.int .i64 l, .slice none 0 0] 30
    have dv2 := dv1.below ((Below.refl _ _).alloc (Nat.le_refl _) (.cells #[.int .i64 l, .slice none 0 0] 30)) (Nat.le_refl _)
    have hs2 : (w1.alloc (.cells #[.int .i64 l, .slice none 0 0] 30)).heap.size = w1.heap.size + 1 := by simp
    obtain ⟨hg1, hh1, hgh⟩ := dv1.lt
    generalize hb : w1.heap.size = b at *
    generalize (w1.alloc (.cells #[.int .i64 l, .slice none 0 0] 30)) = w2 at *
    go_loopw [55] (fun i wr => PlaysRel w w2 b g h l os.length i wr) (fun i _ => os.length - (intOf i).toNat)
    case atStart => exact ⟨0, z0, _, rfl, by omega, dv2, X, by rw [Es.out]; exact RdB.nil _ _, Nat.le_refl _, hb2⟩
    case round =>
      obtain ⟨k, cs, v0, rfl, hk, dv, X1, hr, hwr, hbl⟩ := hrel
      by_cases h6 : k < os.length
      · obtain ⟨gq, off, rfl, hgo, c1, c2, c3, k1, k2, k3⟩ := Ho.out k h6
        have eb := hbl.block gq hgo
        have c1' := (World.cell?_of_block (w := w) (w' := wr) (a := ⟨gq, off + k * 3, none⟩) eb).trans c1
        have c2' := (World.cell?_of_block (w := w) (w' := wr) (a := ⟨gq, off + k * 3 + 1, none⟩) eb).trans c2
        have c3' := (World.cell?_of_block (w := w) (w' := wr) (a := ⟨gq, off + k * 3 + 2, none⟩) eb).trans c3
        obtain ⟨⟨kind, id, c⟩, eo⟩ : ∃ x, os.getD k (0, 0, 0) = x := ⟨_, rfl⟩
        rw [eo] at c1' c2' c3' k1 k2 k3
        simp only at c1' c2' c3' k1 k2 k3
        obtain ⟨p0, cap0, rfl⟩ := hr.1.val
        have hxl : (snapF 0 cs).length < 1000000 := by
          obtain ⟨u, t, d, vv⟩ := dv
          have := snapF_length 0 cs
          have := vv.bound
          omega
        have hxt : 0 ≤ totV (snapF 0 cs) ∧ totV (snapF 0 cs) ≤ 72057594037927935 := by
          obtain ⟨u, t, d, vv⟩ := dv
          rw [tot_snap vv]; exact ⟨vv.bound.1, vv.most⟩
        have hdo : stDo l (snapF 0 cs) kind id c = (snapF 0 (dDo l cs kind id c).1, (dDo l cs kind id c).2) := by
          obtain ⟨u, t, d, vv⟩ := dv
          exact do_snap vv kind id c
        have hba : Below wr.heap.size wr (wr.alloc (.cells #[.int .i64 kind, .int .i64 id, .int .i64 c] 32)) := (Below.refl _ _).alloc (Nat.le_refl _) _
        have Do := r_stdo l kind id c (wr.alloc (.cells #[.int .i64 kind, .int .i64 id, .int .i64 c] 32)) (hr.below hba (Nat.le_refl _)) (by simp; omega) hxl ⟨hl, hl1⟩ k2 k3 hxt
        rw [hdo] at Do
        have Do' := hid Do
        have Hxl := hid hxl
        have x0 : wr.cell? ⟨b, 0, none⟩ = some (.int .i64 l) := X1.cell 0
        have x1 : wr.cell? ⟨b, 1, none⟩ = some (.slice p0 (snapF 0 cs).length cap0) := X1.cell 1
        have f0 := X1.free 0
        have f1 := X1.free 1
        have hlb := X1.lt
        obtain ⟨⟨cs', code⟩, ed⟩ : ∃ r, dDo l cs kind id c = r := ⟨_, rfl⟩
        rw [ed] at Do'
        simp only at Do'
        have Ed := hid ed
        have Law := fun W (q : DnV W g h l cs) => law_do kind id c q k2 k3
        rw [ed] at Law
        have Law' := hid Law
        clear Do Law hdo hxt hxl c1 c2 c3 eo ed eb A N Es
        go_wp2_with fail
        refine Do'.out.mono ?_
        rintro e w3 ⟨v3, rfl, hr3, hv3, hb3⟩
        dsimp only at hr3 hv3 ⊢
        have X3 : Blk w3 b #[.int .i64 l, .slice p0 (snapF 0 cs).length cap0] 30 := (X1.below hba (Nat.le_refl _)).below hb3 (Nat.le_refl _)
        have O3 : Blk w3 wr.heap.size #[.int .i64 kind, .int .i64 id, .int .i64 c] 32 := (Blk.new wr _ _).below hb3 (Nat.le_refl _)
        have D3 : DnV w3 g h l cs := (dv.below hba (Nat.le_refl _)).below hb3 (Nat.le_refl _)
        have hs3 := hb3.size
        simp only [World.size_alloc] at hs3
        have hbw3 : Below w.heap.size w w3 := hbl.trans ((hba.trans (hb3.mono (by simp))).mono hbl.size)
        obtain ⟨p3, cap3, rfl⟩ : ∃ p cap, v3 = .slice p (snapF 0 cs').length cap := hr3.1.val
        obtain ⟨xs', exs'⟩ : ∃ xs, snapF 0 cs' = xs := ⟨_, rfl⟩
        rw [exs'] at hr3 hv3 ⊢
        have Exs' := hid exs'
        clear x0 x1 f0 f1 X1 hr dv exs'
        have x0 : w3.cell? ⟨b, 0, none⟩ = some (.int .i64 l) := X3.cell 0
        have x1 : w3.cell? ⟨b, 1, none⟩ = some (.slice p0 (snapF 0 cs).length cap0) := X3.cell 1
        have f0 := X3.free 0
        have f1 := X3.free 1
        have o0 : w3.cell? ⟨wr.heap.size, 0, none⟩ = some (.int .i64 kind) := O3.cell 0
        have o1 : w3.cell? ⟨wr.heap.size, 1, none⟩ = some (.int .i64 id) := O3.cell 1
        have o2 : w3.cell? ⟨wr.heap.size, 2, none⟩ = some (.int .i64 c) := O3.cell 2
        have hob : wr.heap.size ≠ b := by omega
        have hbo : b ≠ wr.heap.size := by omega
        have hlb3 : b < w3.heap.size := by omega
        have hlo3 : wr.heap.size < w3.heap.size := by omega
        go_wp2_with fail
        have hgb : g ≠ b := by omega
        have hhb : h ≠ b := by omega
        have hs4 : w3.heap.size ≤ (((w3.setCell ⟨b, 0, none⟩ (.int .i64 l)).setCell ⟨b, 1, none⟩ (.slice p3 xs'.length cap3)).alloc (.cells #[.int .i64 l, .slice p3 xs'.length cap3] 30)).heap.size := by simp
        have X4 : Blk (((w3.setCell ⟨b, 0, none⟩ (.int .i64 l)).setCell ⟨b, 1, none⟩ (.slice p3 xs'.length cap3)).alloc (.cells #[.int .i64 l, .slice p3 xs'.length cap3] 30)) b #[.int .i64 l, .slice p3 xs'.length cap3] 30 := ((X3.set 0 (.int .i64 l)).set 1 (.slice p3 xs'.length cap3)).alloc _
        have T4 : Tch b b w3 (((w3.setCell ⟨b, 0, none⟩ (.int .i64 l)).setCell ⟨b, 1, none⟩ (.slice p3 xs'.length cap3)).alloc (.cells #[.int .i64 l, .slice p3 xs'.length cap3] 30)) := ((Tch.set1 w3 0 _).trans (Tch.set1 _ 1 _)).trans (Tch.of_below ((Below.refl _ _).alloc (Nat.le_refl _) _))
        have D4 := D3.tch T4 hgb hgb hhb hhb
        have R4 : RdB (((w3.setCell ⟨b, 0, none⟩ (.int .i64 l)).setCell ⟨b, 1, none⟩ (.slice p3 xs'.length cap3)).alloc (.cells #[.int .i64 l, .slice p3 xs'.length cap3] 30)) w2.heap.size (.slice p3 xs'.length cap3) xs' := (store_rdb (store_rdb hr3 (by omega)) (by omega)).below ((Below.refl _ _).alloc (Nat.le_refl _) _) (Nat.le_refl _)
        have B4 := hbw3.trans (T4.below (B := w.heap.size) (by omega) (by omega) hbw3.size)
        generalize (((w3.setCell ⟨b, 0, none⟩ (.int .i64 l)).setCell ⟨b, 1, none⟩ (.slice p3 xs'.length cap3)).alloc (.cells #[.int .i64 l, .slice p3 xs'.length cap3] 30)) = w4 at *
        refine (Law'.out w4 D4).mono ?_
        rintro e w5 ⟨rfl, D5, T5⟩
        dsimp only at D5 ⊢
        have X5 := X4.tch T5 (Ne.symm hgb) (Ne.symm hhb)
        have R5 : RdN w5 (.slice p3 xs'.length cap3) xs' := R4.1.tch T5 (fun q => by have := R4.2 _ q; omega) (fun q => by have := R4.2 _ q; omega)
        have x50 : w5.cell? ⟨b, 0, none⟩ = some (.int .i64 l) := X5.cell 0
        have x51 : w5.cell? ⟨b, 1, none⟩ = some (.slice p3 xs'.length cap3) := X5.cell 1
        have hs5 := T5.size
        have B5 := B4.trans (T5.below hg hh B4.size)
        clear x0 x1 o0 o1 o2 f0 f1
        go_wp2_with fail
        refine (law_like D5 (by rw [Exs'.out]; exact R5)).mono ?_
        rintro e w6 ⟨rfl, hb6⟩
        have hs6 := hb6.size
        go_wp2_with fail
        go_roundw
        case rel => exact ⟨k + 1, cs', _, by go_num, by omega, D5.below hb6 (Nat.le_refl _), X5.below hb6 (Nat.le_refl _), by rw [Exs'.out]; exact ⟨R5.below hb6 (Nat.le_refl _), R4.2⟩, by omega, B5.trans (hb6.mono B5.size)⟩
        case measure => simp [intOf]; omega
      · go_wp2_with fail
        refine (law_alive wr).mono ?_
        rintro e w' ⟨rfl, hb⟩
        go_wp2_with fail
        go_ret
        exact ⟨rfl, hbl.trans (hb.mono hbl.size)⟩
end Go.Proofs.Ytpkccicofgbfbaa
