/- Bags without the last bits of their values, and in wider universes: plain, and the walks of the reference's Image and Wider. -/
import Derived.Test.YtnakieopnobjmaaGreatRC
import Derived.Test.YtnakieopnobjmaaGreatBL
import Derived.Deep.LoopGhost
namespace Go.Proofs.YtnakieopnobjmaaGreat
open Go.RowKit Nl

namespace Nl
/-- Without the last bits. -/
def imgL (n : Nat) (its : List (Int × Int)) : List (Int × Int) := its.foldl (fun acc y => putR (y.1 / 2 ^ n) y.2 acc) []
theorem img_step {n : Nat} {its : List (Int × Int)} {j : Nat} {a c : Int} (h : j < its.length) (e : its.getD j (0, 0) = (a, c)) : imgL n (its.take (j + 1)) = putR (a / 2 ^ n) c (imgL n (its.take j)) := by
  have e2 : its[j] = (a, c) := by rw [← e, List.getD_eq_getElem?_getD, List.getElem?_eq_getElem h]; rfl
  unfold imgL
  rw [List.take_add_one, List.foldl_append, List.getElem?_eq_getElem h, e2]
  rfl
theorem img_all {l t : Int} {its : List (Int × Int)} (b : Bag l its) (ht : 1 ≤ t) (hl : t ≤ l) : ∀ j, j ≤ its.length → Bag t (imgL (l - t).toNat (its.take j)) ∧ sumL (imgL (l - t).toNat (its.take j)) = sumL (its.take j) ∧ (imgL (l - t).toNat (its.take j)).length ≤ j ∧
    ∀ g : Int → Int → Int, (∀ i a b, g i (a + b) = g i a + g i b) → gsum g (imgL (l - t).toNat (its.take j)) = gsum (fun v c => g (v / 2 ^ (l - t).toNat) c) (its.take j) := by
  intro j
  induction j with
  | zero => intro _; exact ⟨Bag.nil t, rfl, Nat.le_refl _, fun g _ => rfl⟩
  | succ j ih =>
    intro hj
    obtain ⟨h1, h2, h3, h4⟩ := ih (by omega)
    obtain ⟨⟨a, c⟩, e⟩ : ∃ z, its.getD j (0, 0) = z := ⟨_, rfl⟩
    have hin : (a, c) ∈ its := by rw [← e]; exact getD_mem its j (by omega)
    have hs : sumL (its.take (j + 1)) = sumL (its.take j) + c := by
      rw [take_at (d := ((0, 0) : Nd)) its j (by omega), e, sumL_append]; simp [sumL]
    have hc := b.pos _ hin
    have hle := Pos.le_sum b.pos' _ hin
    have hm := b.most
    have hsp : sumL its = sumL (its.take (j + 1)) + sumL (its.drop (j + 1)) := sumL_take_drop its (j + 1)
    have hd0 : 0 ≤ sumL (its.drop (j + 1)) := sumL_nonneg (fun y hy => b.pos' y (List.mem_of_mem_drop hy))
    simp only at hc hle
    rw [img_step (by omega) e]
    refine ⟨h1.put (prune_leaf ht hl (b.val _ hin)).2 hc (by omega), by rw [putR_sum, h2, hs], Nat.le_trans (putR_length _) (by omega), fun g hg => ?_⟩
    rw [putR_gsum (fun a => hg _ _ _), h4 g hg, take_at (d := ((0, 0) : Nd)) its j (by omega), e, gsum_append]
    simp [gsum]
theorem Bag.wider {l l' : Int} {its : List (Int × Int)} (b : Bag l its) (h : l ≤ l') (h48 : l' ≤ 48) : Bag l' its :=
  ⟨b.rise, b.pos, fun y hy => by
    have := b.val y hy
    simp only [leafB, decide_eq_true_eq] at this ⊢
    have hp : (2 : Int) ^ l.toNat ≤ 2 ^ l'.toNat := by
      have c1 : (2 : Int) ^ l.toNat = ((2 ^ l.toNat : Nat) : Int) := by simp
      have c2 : (2 : Int) ^ l'.toNat = ((2 ^ l'.toNat : Nat) : Int) := by simp
      rw [c1, c2]
      exact Int.ofNat_le.2 (Nat.pow_le_pow_right (by omega) (by omega))
    exact ⟨by omega, h48, by omega, by omega⟩, b.most⟩
end Nl

set_option maxRecDepth 100000 in
set_option maxHeartbeats 1000000 in
theorem b_wider {w : World} {l : Int} {p : Option Addr} {n c : Nat} (l' : Int) (h : l ≤ l') (h48 : l' ≤ 48) :
    Calls Tryz.prog 22 #[.agg #[.int .i64 l, .slice p n c], .int .i64 l'] w fun e w' => e = .returned (.tuple #[.agg #[.int .i64 l', .slice p n c], .int .i64 0]) ∧ Below w.heap.size w w' := by
  have hb : Below w.heap.size w ((w.alloc (.cells #[.int .i64 l, .slice p n c] 49)).alloc (.cells #[.int .i64 l', .slice p n c] 49)) := ((Below.refl _ _).alloc (Nat.le_refl _) _).alloc (by simp) _
  go_enter Tryz.func22, Tryz.ntmps22
  go_wp2_with fail
  exact bodyPost_ret (v := .tuple #[.agg #[.int .i64 l', .slice p n c], .int .i64 0]) (by simp [results, Tryz.results22, go_sem]) rfl ⟨rfl, hb⟩

def ImgPost (t : Int) (Z : List Nd) (w : World) (e : Ending) (w' : World) : Prop := ∃ v, e = .returned (.tuple #[.agg #[.int .i64 t, v], .int .i64 0]) ∧ RdN w' v Z ∧ Below w.heap.size w w'
def ImgRel (t : Int) (n : Nat) (its : List Nd) (w w1 : World) (gn : Nat) (i : Value) (wr : World) : Prop :=
  ∃ (j : Nat) (zs : List Nd) (v : Value), i = .int .i64 j ∧ j ≤ its.length ∧ its.length - j ≤ gn ∧ zs.length ≤ j ∧ Hid (imgL n (its.take j) = zs) ∧ Blk wr (w.heap.size + 2) #[.int .i64 t, v] 49 ∧ RdN wr v zs ∧ NotD v zs (fun j => j < w.heap.size + 3) ∧ Below (w.heap.size + 2) w1 wr ∧ w1.heap.size ≤ wr.heap.size

set_option maxRecDepth 100000 in
set_option maxHeartbeats 4000000 in
theorem b_image {w : World} {l : Int} {its : List Nd} {v : Value} (b : Int) (hr : RdN w v its) (hl : its.length ≤ 1000) (hb : Bag l its) (h0 : 0 ≤ b) (h1 : b < l) (h48 : l ≤ 48) :
    Calls Tryz.prog 24 #[.agg #[.int .i64 l, v], .int .i64 b] w (ImgPost (l - b) (imgL b.toNat its) w) := by
  obtain ⟨p, cap, rfl⟩ := hr.val
  have X1 := ((Blk.new w #[.int .i64 l, .slice p its.length cap] 49).alloc (.cells #[.int .i64 0, .slice none 0 0] 49)).alloc (.cells #[.int .i64 (l - b), .slice none 0 0] 49)
  have Z1 := (Blk.new (w.alloc (.cells #[.int .i64 l, .slice p its.length cap] 49)) #[.int .i64 0, .slice none 0 0] 49).alloc (.cells #[.int .i64 (l - b), .slice none 0 0] 49)
  have O1 := Blk.new ((w.alloc (.cells #[.int .i64 l, .slice p its.length cap] 49)).alloc (.cells #[.int .i64 0, .slice none 0 0] 49)) #[.int .i64 (l - b), .slice none 0 0] 49
  simp only [World.size_alloc] at Z1 O1
  have hbw1 : Below w.heap.size w (((w.alloc (.cells #[.int .i64 l, .slice p its.length cap] 49)).alloc (.cells #[.int .i64 0, .slice none 0 0] 49)).alloc (.cells #[.int .i64 (l - b), .slice none 0 0] 49)) := (((Below.refl _ _).alloc (Nat.le_refl _) _).alloc (by simp) _).alloc (by simp; omega) _
  have hs1 : (((w.alloc (.cells #[.int .i64 l, .slice p its.length cap] 49)).alloc (.cells #[.int .i64 0, .slice none 0 0] 49)).alloc (.cells #[.int .i64 (l - b), .slice none 0 0] 49)).heap.size = w.heap.size + 3 := by simp
  have r1 := hr.below hbw1 (Nat.le_refl _)
  have hw : IntKind.i64.wrap (l - b) = l - b := IntWalk.i64_in _ ⟨by omega, by omega⟩
  have PW := hid (fun W : World => r_power b W h0 (by omega))
  have hltE := hr.ltE
  have IA := hid (img_all hb (show 1 ≤ l - b by omega) (show l - b ≤ l by omega))
  rw [show (l - (l - b)).toNat = b.toNat by omega] at IA
  have HB := hid hb
  have hpb : (1 : Int) ≤ 2 ^ b.toNat ∧ (2 : Int) ^ b.toNat ≤ 281474976710656 := pow48 (by omega)
  have HP := hid hpb
  clear hb hpb
  go_enter Tryz.func24, Tryz.ntmps24
  go_wp2_with fail
  generalize (((w.alloc (.cells #[.int .i64 l, .slice p its.length cap] 49)).alloc (.cells #[.int .i64 0, .slice none 0 0] 49)).alloc (.cells #[.int .i64 (l - b), .slice none 0 0] 49)) = w1 at *
  go_loopg [7] its.length (fun gn i wr => ImgRel (l - b) b.toNat its w w1 gn i wr)
  case atStart => exact ⟨0, [], _, rfl, Nat.zero_le _, Nat.le_refl _, Nat.le_refl _, rfl, O1, RdN.nil _, .inl rfl, Below.refl _ _, Nat.le_refl _⟩
  case round =>
    obtain ⟨j, zs, vz, rfl, hj, hgn, hzl, ez, O, rz, nd, hbl, hwr⟩ := hrel
    obtain ⟨pz, cz, rfl⟩ := rz.val
    have X := X1.below' hbl (by omega)
    have x0 : wr.cell? ⟨w.heap.size, 0, none⟩ = some (.int .i64 l) := X.cell 0
    have x1 : wr.cell? ⟨w.heap.size, 1, none⟩ = some (.slice p its.length cap) := X.cell 1
    have o0 : wr.cell? ⟨w.heap.size + 2, 0, none⟩ = some (.int .i64 (l - b)) := O.cell 0
    have o1 : wr.cell? ⟨w.heap.size + 2, 1, none⟩ = some (.slice pz zs.length cz) := O.cell 1
    by_cases hlt : j < its.length
    · have hat := (hr.below (hbw1.trans (hbl.mono (by omega))) (Nat.le_refl _)).at hlt
      have hin : (its.getD j (0, 0)) ∈ its := getD_mem its j hlt
      have est := img_step (n := b.toNat) (a := (its.getD j (0, 0)).1) (c := (its.getD j (0, 0)).2) hlt rfl
      rw [ez.out] at est
      have hval := HB.out.val _ hin
      have hpos := HB.out.pos _ hin
      have hle := Pos.le_sum HB.out.pos' _ hin
      have hmost := HB.out.most
      obtain ⟨⟨a, c⟩, eac⟩ : ∃ z, its.getD j (0, 0) = z := ⟨_, rfl⟩
      rw [eac] at hat hval hpos hle est
      obtain ⟨gs, off, a', c', rfl, e, hgs, q0, q1⟩ := hat
      simp only [Prod.mk.injEq] at e
      obtain ⟨rfl, rfl⟩ := e
      simp only at hval hpos hle est
      have hgw : gs < w.heap.size := by
        rcases hltE with h | h
        · rw [h] at hlt; simp at hlt
        · exact h gs rfl
      simp only [leafB, decide_eq_true_eq] at hval
      obtain ⟨b1, b2, -, -⟩ := IA.out j hj
      rw [ez.out] at b1 b2
      have b3 := b1.most
      obtain ⟨-, -, len2, -⟩ := IA.out (j + 1) (by omega)
      have ez2 : imgL b.toNat (its.take (j + 1)) = putR (a / 2 ^ b.toNat) c zs := by rw [img_step (n := b.toNat) hlt eac, ez.out]
      rw [ez2] at len2
      have EZ := hid ez2
      have hpl := (pow48 (n := l.toNat) (by omega)).2
      obtain ⟨hP1, hP2⟩ := HP.out
      have PUT := hid (fun W (y : RdN W (.slice pz zs.length cz) zs) => b_put (l - b) (a / 2 ^ b.toNat) c y (by omega) b1.pos' b1.rise b3 ⟨by omega, by omega⟩)
      have ha0 : 0 ≤ a := hval.2.2.1
      have ha1 : a < 281474976710656 := by omega
      generalize putR (a / 2 ^ b.toNat) c zs = Q at *
      have HPW := hid PW.out
      generalize (2 : Int) ^ b.toNat = P at *
      have hPz : P ≠ 0 := by omega
      have hv0 : 0 ≤ a / P := Int.ediv_nonneg ha0 (by omega)
      have hv1 : a / P ≤ a := Int.ediv_le_self _ ha0
      have hq : IntKind.i64.wrap (a.tdiv P) = a / P := by rw [Int.tdiv_eq_ediv_of_nonneg ha0]; exact IntWalk.i64_in _ ⟨by omega, by omega⟩
      generalize a / P = V at *
      have hB0 := Below.refl wr.heap.size wr
      have hol := O.lt
      clear hin hval hpos hle hmost est eac b1 b2 b3 ez2 PW IA HB HP X hpl
      go_wp2_with fail
      have hSd : wr.drew.cell? ⟨w.heap.size, 1, none⟩ = some (.slice (some ⟨gs, off, none⟩) its.length cap) ∧ wr.drew.cell? ⟨gs, off + j * 2, none⟩ = some (.int .i64 a) ∧ wr.drew.cell? ⟨gs, off + j * 2 + 1, none⟩ = some (.int .i64 c) ∧ Below (w.heap.size + 2) w1 wr.drew := ⟨x1, q0, q1, below_drewN hbl 1⟩
      refine wp_region_held_drew (S := fun w' => w'.cell? ⟨w.heap.size, 1, none⟩ = some (.slice (some ⟨gs, off, none⟩) its.length cap) ∧ w'.cell? ⟨gs, off + j * 2, none⟩ = some (.int .i64 a) ∧ w'.cell? ⟨gs, off + j * 2 + 1, none⟩ = some (.int .i64 c) ∧ Below (w.heap.size + 2) w1 w') (by kernel_rfl) hSd (fun hHeld => ?_)
      refine wpAnyH_take (i := 1) (v := ?_) rfl (by kernel_rfl) (by kernel_rfl) (by kernel_rfl) (fun _ _ _ h => h) (Or.inl ⟨by rfl, ?_⟩) hHeld ?_
      rotate_left 1
      · intro w hSw; (try dsimp only at hSw); go_simp; first | done | with_reducible rfl
      show wpAnyH _ _ _ _ _ _ _ (Act.put _ (some 30) _) _
      try simp only [Act.put, List.setIfInBounds_toArray, List.set_cons_zero, List.set_cons_succ]
      refine wpAnyH_take (i := 2) (v := ?_) rfl (by kernel_rfl) (by kernel_rfl) (by kernel_rfl) (fun _ _ _ h => h) (Or.inl ⟨by rfl, ?_⟩) hHeld ?_
      rotate_left 1
      · intro w hSw; (try dsimp only at hSw); go_simp; first | done | with_reducible rfl
      show wpAnyH _ _ _ _ _ _ _ (Act.put _ (some 31) _) _
      try simp only [Act.put, List.setIfInBounds_toArray, List.set_cons_zero, List.set_cons_succ]
      refine wpAnyH_take (i := 3) (v := ?_) rfl (by kernel_rfl) (by kernel_rfl) (by kernel_rfl) (fun _ _ _ h => h) (Or.inl ⟨by rfl, ?_⟩) hHeld ?_
      rotate_left 1
      · intro w hSw; (try dsimp only at hSw); go_simp; first | done | with_reducible rfl
      show wpAnyH _ _ _ _ _ _ _ (Act.put _ (some 32) _) _
      try simp only [Act.put, List.setIfInBounds_toArray, List.set_cons_zero, List.set_cons_succ]
      refine wpAnyH_take (i := 4) (v := ?_) rfl (by kernel_rfl) (by kernel_rfl) (by kernel_rfl) (fun _ _ _ h => h) (Or.inl ⟨by rfl, ?_⟩) hHeld ?_
      rotate_left 1
      · intro w hSw; (try dsimp only at hSw); go_simp; first | done | with_reducible rfl
      show wpAnyH _ _ _ _ _ _ _ (Act.put _ (some 33) _) _
      try simp only [Act.put, List.setIfInBounds_toArray, List.set_cons_zero, List.set_cons_succ]
      refine wpAnyH_take (i := 5) (v := ?_) rfl (by kernel_rfl) (by kernel_rfl) (by kernel_rfl) (fun _ _ _ h => h) (Or.inl ⟨by rfl, ?_⟩) hHeld ?_
      rotate_left 1
      · intro w hSw; (try dsimp only at hSw); go_simp; first | done | with_reducible rfl
      show wpAnyH _ _ _ _ _ _ _ (Act.put _ (some 34) _) _
      try simp only [Act.put, List.setIfInBounds_toArray, List.set_cons_zero, List.set_cons_succ]
      refine wpAnyH_take (i := 6) (v := ?_) rfl (by kernel_rfl) (by kernel_rfl) (by kernel_rfl) (fun _ _ _ h => h) (Or.inl ⟨by rfl, ?_⟩) hHeld ?_
      rotate_left 1
      · intro w hSw; (try dsimp only at hSw); go_simp; first | done | with_reducible rfl
      show wpAnyH _ _ _ _ _ _ _ (Act.put _ (some 35) _) _
      try simp only [Act.put, List.setIfInBounds_toArray, List.set_cons_zero, List.set_cons_succ]
      refine wpAnyH_take (i := 7) (v := ?_) rfl (by kernel_rfl) (by kernel_rfl) (by kernel_rfl) (fun _ _ _ h => h) (Or.inl ⟨by rfl, ?_⟩) hHeld ?_
      rotate_left 1
      · intro w hSw; (try dsimp only at hSw); go_simp; first | done | with_reducible rfl
      show wpAnyH _ _ _ _ _ _ _ (Act.put _ (some 36) _) _
      try simp only [Act.put, List.setIfInBounds_toArray, List.set_cons_zero, List.set_cons_succ]
      refine wpAnyH_take (i := 10) (v := ?_) rfl (by kernel_rfl) (by kernel_rfl) (by kernel_rfl) (fun _ _ _ h => h) (Or.inl ⟨by rfl, ?_⟩) hHeld ?_
      rotate_left 1
      · intro w hSw; (try dsimp only at hSw); go_simp; first | done | with_reducible rfl
      show wpAnyH _ _ _ _ _ _ _ (Act.put _ (some 39) _) _
      try simp only [Act.put, List.setIfInBounds_toArray, List.set_cons_zero, List.set_cons_succ]
      refine wpAnyH_take (i := 11) (v := ?_) rfl (by kernel_rfl) (by kernel_rfl) (by kernel_rfl) (fun _ _ _ h => h) (Or.inl ⟨by rfl, ?_⟩) hHeld ?_
      rotate_left 1
      · intro w hSw; (try dsimp only at hSw); go_simp; first | done | with_reducible rfl
      show wpAnyH _ _ _ _ _ _ _ (Act.put _ (some 40) _) _
      try simp only [Act.put, List.setIfInBounds_toArray, List.set_cons_zero, List.set_cons_succ]
      refine wpAnyH_take (i := 12) (v := ?_) rfl (by kernel_rfl) (by kernel_rfl) (by kernel_rfl) (fun _ _ _ h => h) (Or.inl ⟨by rfl, ?_⟩) hHeld ?_
      rotate_left 1
      · intro w hSw; (try dsimp only at hSw); go_simp; first | done | with_reducible rfl
      show wpAnyH _ _ _ _ _ _ _ (Act.put _ (some 41) _) _
      try simp only [Act.put, List.setIfInBounds_toArray, List.set_cons_zero, List.set_cons_succ]
      refine wpAnyH_take (i := 13) (v := ?_) rfl (by kernel_rfl) (by kernel_rfl) (by kernel_rfl) (fun _ _ _ h => h) (Or.inl ⟨by rfl, ?_⟩) hHeld ?_
      rotate_left 1
      · intro w hSw; (try dsimp only at hSw); go_simp; first | done | with_reducible rfl
      show wpAnyH _ _ _ _ _ _ _ (Act.put _ (some 42) _) _
      try simp only [Act.put, List.setIfInBounds_toArray, List.set_cons_zero, List.set_cons_succ]
      refine wpAnyH_take (i := 14) (v := ?_) rfl (by kernel_rfl) (by kernel_rfl) (by kernel_rfl) (fun _ _ _ h => h) (Or.inl ⟨by rfl, ?_⟩) hHeld ?_
      rotate_left 1
      · intro w hSw; (try dsimp only at hSw); go_simp; first | done | with_reducible rfl
      show wpAnyH _ _ _ _ _ _ _ (Act.put _ (some 43) _) _
      try simp only [Act.put, List.setIfInBounds_toArray, List.set_cons_zero, List.set_cons_succ]
      refine wpAnyH_take (i := 15) (v := ?_) rfl (by kernel_rfl) (by kernel_rfl) (by kernel_rfl) (fun _ _ _ h => h) (Or.inl ⟨by rfl, ?_⟩) hHeld ?_
      rotate_left 1
      · intro w hSw; (try dsimp only at hSw); go_simp; first | done | with_reducible rfl
      show wpAnyH _ _ _ _ _ _ _ (Act.put _ (some 44) _) _
      try simp only [Act.put, List.setIfInBounds_toArray, List.set_cons_zero, List.set_cons_succ]
      refine wpAnyH_ready (rs := [0, 8]) (by kernel_rfl) (by simp) ?_
      refine AllReadyH.cons rfl (fun K hK => ?_) (AllReadyH.cons rfl (fun K hK => ?_) AllReadyH.nil)
      · go_simp
        refine hK.out _ _ ⟨hHeld.1, hHeld.2.1, hHeld.2.2.1, hHeld.2.2.2⟩ (fun hHeld => ?_)
        clear hK K
        try simp only [Act.put, List.setIfInBounds_toArray, List.set_cons_zero, List.set_cons_succ]
        refine wpAnyH_ready (rs := [8]) (by kernel_rfl) (by simp) ?_
        refine AllReadyH.cons rfl (fun K hK => ?_) AllReadyH.nil
        go_simp
        (go_at_call 65; refine (HPW.out _).mono ?_; rintro e w4 ⟨rfl, rfl⟩)
        refine hK.out _ _ ⟨hHeld.1, hHeld.2.1, hHeld.2.2.1, hHeld.2.2.2⟩ (fun hHeld => ?_)
        clear hK K
        try simp only [Act.put, List.setIfInBounds_toArray, List.set_cons_zero, List.set_cons_succ]
        refine wpAnyH_take (i := 9) (v := ?_) rfl (by kernel_rfl) (by kernel_rfl) (by kernel_rfl) (fun _ _ _ h => h) (Or.inl ⟨by rfl, ?_⟩) hHeld ?_
        rotate_left 1
        · intro w hSw; (try dsimp only at hSw); go_simp; first | done | with_reducible rfl
        show wpAnyH _ _ _ _ _ _ _ (Act.put _ (some 38) _) _
        try simp only [Act.put, List.setIfInBounds_toArray, List.set_cons_zero, List.set_cons_succ]
        refine wpAnyH_ready (rs := [16]) (by kernel_rfl) (by simp) ?_
        refine AllReadyH.cons rfl (fun K hK => ?_) AllReadyH.nil
        go_simp
        (go_at_call 64; refine (PUT.out _ (rz.below (below_drewN hB0 1) (Nat.le_refl _))).mono ?_; rintro e w5 ⟨v5, rfl, own5, hb5⟩; obtain ⟨p5, c5, rfl⟩ := own5.val; have O5 := (O.drewN 1).below hb5 (Nat.le_refl _); have c50 : w5.cell? ⟨w.heap.size + 2, 0, none⟩ = some (.int .i64 (l - b)) := O5.cell 0; have c51 : w5.cell? ⟨w.heap.size + 2, 1, none⟩ = some (.slice pz zs.length cz) := O5.cell 1; have f50 := O5.free 0; have f51 := O5.free 1; have hl5 := O5.lt; have hbl5 : Below (w.heap.size + 2) w1 w5 := hbl.trans (((below_drewN hB0 1).trans (hb5.mono (Nat.le_refl _))).mono (by omega)))
        refine hK.out _ _ ⟨by rw [hbl5.cell (by show w.heap.size < w.heap.size + 2; omega)]; exact (hSd.2.2.2.cell (p := ⟨w.heap.size, 1, none⟩) (by show w.heap.size < w.heap.size + 2; omega)).symm.trans hSd.1, by rw [hbl5.cell (by show gs < w.heap.size + 2; omega)]; exact (hSd.2.2.2.cell (p := ⟨gs, off + j * 2, none⟩) (by show gs < w.heap.size + 2; omega)).symm.trans hSd.2.1, by rw [hbl5.cell (by show gs < w.heap.size + 2; omega)]; exact (hSd.2.2.2.cell (p := ⟨gs, off + j * 2 + 1, none⟩) (by show gs < w.heap.size + 2; omega)).symm.trans hSd.2.2.1, hbl5⟩ (fun hHeld => ?_)
        clear hK K
        try simp only [Act.put, List.setIfInBounds_toArray, List.set_cons_zero, List.set_cons_succ]
        refine wpAnyH_ready (rs := [17]) (by kernel_rfl) (by simp) ?_
        refine AllReadyH.cons rfl (fun K hK => ?_) AllReadyH.nil
        go_simp
        skip
        refine hK.out _ _ ⟨(World.cell?_of_block (Below.heap_setCell _ ⟨w.heap.size + 2, 1, none⟩ _ _ (by show w.heap.size ≠ w.heap.size + 2; omega))).trans ((World.cell?_of_block (Below.heap_setCell _ ⟨w.heap.size + 2, 0, none⟩ _ _ (by show w.heap.size ≠ w.heap.size + 2; omega))).trans hHeld.1), (World.cell?_of_block (Below.heap_setCell _ ⟨w.heap.size + 2, 1, none⟩ _ _ (by show gs ≠ w.heap.size + 2; omega))).trans ((World.cell?_of_block (Below.heap_setCell _ ⟨w.heap.size + 2, 0, none⟩ _ _ (by show gs ≠ w.heap.size + 2; omega))).trans hHeld.2.1), (World.cell?_of_block (Below.heap_setCell _ ⟨w.heap.size + 2, 1, none⟩ _ _ (by show gs ≠ w.heap.size + 2; omega))).trans ((World.cell?_of_block (Below.heap_setCell _ ⟨w.heap.size + 2, 0, none⟩ _ _ (by show gs ≠ w.heap.size + 2; omega))).trans hHeld.2.2.1), (hHeld.2.2.2.setCell (p := ⟨w.heap.size + 2, 0, none⟩) (Nat.le_refl _) _).setCell (p := ⟨w.heap.size + 2, 1, none⟩) (Nat.le_refl _) _⟩ (fun hHeld => ?_)
        clear hK K
        try simp only [Act.put, List.setIfInBounds_toArray, List.set_cons_zero, List.set_cons_succ]
        refine wpAnyH_done (by kernel_rfl) ?_ _
        have hs5 := hb5.size
        have hs5' : wr.heap.size ≤ w5.heap.size := hs5
        have n5 : NotIn (.slice p5 Q.length c5) Q (w.heap.size + 2) := .inr (fun i hi e => by have := own5.lt i hi; have h2 : wr.heap.size ≤ i := this; omega)
        have nd5 : NotD (.slice p5 Q.length c5) Q (fun j => j < w.heap.size + 3) := .inr fun i hi e => by
          have h1 : wr.heap.size ≤ i := own5.lt i hi
          have h2 : i < w.heap.size + 3 := e
          omega
        have O6 := (O5.set 0 (.int .i64 (l - b))).set 1 (.slice p5 Q.length c5)
        have r6 := (own5.rd.set_off n5 0 (.int .i64 (l - b))).set_off n5 1 (.slice p5 Q.length c5)
        have hbl6 := (hbl5.setCell (p := ⟨w.heap.size + 2, 0, none⟩) (Nat.le_refl _) (.int .i64 (l - b))).setCell (p := ⟨w.heap.size + 2, 1, none⟩) (Nat.le_refl _) (.slice p5 Q.length c5)
        clear O5 hbl5 PUT x0 x1 o0 o1 hb5
        go_wp2_with fail
        go_roundg (its.length - (j + 1))
        case rel => exact ⟨j + 1, Q, _, by go_num, by omega, Nat.le_refl _, len2, EZ.out, O6, r6, nd5, hbl6, by simp; omega⟩
        case measure => omega
      · go_simp
        (go_at_call 65; refine (HPW.out _).mono ?_; rintro e w4 ⟨rfl, rfl⟩)
        refine hK.out _ _ ⟨hHeld.1, hHeld.2.1, hHeld.2.2.1, hHeld.2.2.2⟩ (fun hHeld => ?_)
        clear hK K
        try simp only [Act.put, List.setIfInBounds_toArray, List.set_cons_zero, List.set_cons_succ]
        refine wpAnyH_take (i := 9) (v := ?_) rfl (by kernel_rfl) (by kernel_rfl) (by kernel_rfl) (fun _ _ _ h => h) (Or.inl ⟨by rfl, ?_⟩) hHeld ?_
        rotate_left 1
        · intro w hSw; (try dsimp only at hSw); go_simp; first | done | with_reducible rfl
        show wpAnyH _ _ _ _ _ _ _ (Act.put _ (some 38) _) _
        try simp only [Act.put, List.setIfInBounds_toArray, List.set_cons_zero, List.set_cons_succ]
        refine wpAnyH_ready (rs := [0]) (by kernel_rfl) (by simp) ?_
        refine AllReadyH.cons rfl (fun K hK => ?_) AllReadyH.nil
        go_simp
        skip
        refine hK.out _ _ ⟨hHeld.1, hHeld.2.1, hHeld.2.2.1, hHeld.2.2.2⟩ (fun hHeld => ?_)
        clear hK K
        try simp only [Act.put, List.setIfInBounds_toArray, List.set_cons_zero, List.set_cons_succ]
        refine wpAnyH_ready (rs := [16]) (by kernel_rfl) (by simp) ?_
        refine AllReadyH.cons rfl (fun K hK => ?_) AllReadyH.nil
        go_simp
        (go_at_call 64; refine (PUT.out _ (rz.below (below_drewN hB0 1) (Nat.le_refl _))).mono ?_; rintro e w5 ⟨v5, rfl, own5, hb5⟩; obtain ⟨p5, c5, rfl⟩ := own5.val; have O5 := (O.drewN 1).below hb5 (Nat.le_refl _); have c50 : w5.cell? ⟨w.heap.size + 2, 0, none⟩ = some (.int .i64 (l - b)) := O5.cell 0; have c51 : w5.cell? ⟨w.heap.size + 2, 1, none⟩ = some (.slice pz zs.length cz) := O5.cell 1; have f50 := O5.free 0; have f51 := O5.free 1; have hl5 := O5.lt; have hbl5 : Below (w.heap.size + 2) w1 w5 := hbl.trans (((below_drewN hB0 1).trans (hb5.mono (Nat.le_refl _))).mono (by omega)))
        refine hK.out _ _ ⟨by rw [hbl5.cell (by show w.heap.size < w.heap.size + 2; omega)]; exact (hSd.2.2.2.cell (p := ⟨w.heap.size, 1, none⟩) (by show w.heap.size < w.heap.size + 2; omega)).symm.trans hSd.1, by rw [hbl5.cell (by show gs < w.heap.size + 2; omega)]; exact (hSd.2.2.2.cell (p := ⟨gs, off + j * 2, none⟩) (by show gs < w.heap.size + 2; omega)).symm.trans hSd.2.1, by rw [hbl5.cell (by show gs < w.heap.size + 2; omega)]; exact (hSd.2.2.2.cell (p := ⟨gs, off + j * 2 + 1, none⟩) (by show gs < w.heap.size + 2; omega)).symm.trans hSd.2.2.1, hbl5⟩ (fun hHeld => ?_)
        clear hK K
        try simp only [Act.put, List.setIfInBounds_toArray, List.set_cons_zero, List.set_cons_succ]
        refine wpAnyH_ready (rs := [17]) (by kernel_rfl) (by simp) ?_
        refine AllReadyH.cons rfl (fun K hK => ?_) AllReadyH.nil
        go_simp
        skip
        refine hK.out _ _ ⟨(World.cell?_of_block (Below.heap_setCell _ ⟨w.heap.size + 2, 1, none⟩ _ _ (by show w.heap.size ≠ w.heap.size + 2; omega))).trans ((World.cell?_of_block (Below.heap_setCell _ ⟨w.heap.size + 2, 0, none⟩ _ _ (by show w.heap.size ≠ w.heap.size + 2; omega))).trans hHeld.1), (World.cell?_of_block (Below.heap_setCell _ ⟨w.heap.size + 2, 1, none⟩ _ _ (by show gs ≠ w.heap.size + 2; omega))).trans ((World.cell?_of_block (Below.heap_setCell _ ⟨w.heap.size + 2, 0, none⟩ _ _ (by show gs ≠ w.heap.size + 2; omega))).trans hHeld.2.1), (World.cell?_of_block (Below.heap_setCell _ ⟨w.heap.size + 2, 1, none⟩ _ _ (by show gs ≠ w.heap.size + 2; omega))).trans ((World.cell?_of_block (Below.heap_setCell _ ⟨w.heap.size + 2, 0, none⟩ _ _ (by show gs ≠ w.heap.size + 2; omega))).trans hHeld.2.2.1), (hHeld.2.2.2.setCell (p := ⟨w.heap.size + 2, 0, none⟩) (Nat.le_refl _) _).setCell (p := ⟨w.heap.size + 2, 1, none⟩) (Nat.le_refl _) _⟩ (fun hHeld => ?_)
        clear hK K
        try simp only [Act.put, List.setIfInBounds_toArray, List.set_cons_zero, List.set_cons_succ]
        refine wpAnyH_done (by kernel_rfl) ?_ _
        have hs5 := hb5.size
        have hs5' : wr.heap.size ≤ w5.heap.size := hs5
        have n5 : NotIn (.slice p5 Q.length c5) Q (w.heap.size + 2) := .inr (fun i hi e => by have := own5.lt i hi; have h2 : wr.heap.size ≤ i := this; omega)
        have nd5 : NotD (.slice p5 Q.length c5) Q (fun j => j < w.heap.size + 3) := .inr fun i hi e => by
          have h1 : wr.heap.size ≤ i := own5.lt i hi
          have h2 : i < w.heap.size + 3 := e
          omega
        have O6 := (O5.set 0 (.int .i64 (l - b))).set 1 (.slice p5 Q.length c5)
        have r6 := (own5.rd.set_off n5 0 (.int .i64 (l - b))).set_off n5 1 (.slice p5 Q.length c5)
        have hbl6 := (hbl5.setCell (p := ⟨w.heap.size + 2, 0, none⟩) (Nat.le_refl _) (.int .i64 (l - b))).setCell (p := ⟨w.heap.size + 2, 1, none⟩) (Nat.le_refl _) (.slice p5 Q.length c5)
        clear O5 hbl5 PUT x0 x1 o0 o1 hb5
        go_wp2_with fail
        go_roundg (its.length - (j + 1))
        case rel => exact ⟨j + 1, Q, _, by go_num, by omega, Nat.le_refl _, len2, EZ.out, O6, r6, nd5, hbl6, by simp; omega⟩
        case measure => omega
    · have ej : j = its.length := by omega
      have e2 : zs = imgL b.toNat its := by rw [← ez.out, ej, List.take_length]
      have E2 := hid e2
      have Z := Z1.below' hbl (by omega)
      have zz0 : wr.cell? ⟨w.heap.size + 1, 0, none⟩ = some (.int .i64 0) := Z.cell 0
      have zz1 : wr.cell? ⟨w.heap.size + 1, 1, none⟩ = some (.slice none 0 0) := Z.cell 1
      have f0 := Z.free 0
      have f1 := Z.free 1
      have hzl := Z.lt
      have Z9 := (Z.set 0 (.int .i64 (l - b))).set 1 (.slice pz zs.length cz)
      have z0 : World.cell? _ ⟨w.heap.size + 1, 0, none⟩ = some (.int .i64 (l - b)) := Z9.cell 0
      have z1 : World.cell? _ ⟨w.heap.size + 1, 1, none⟩ = some (.slice pz zs.length cz) := Z9.cell 1
      have n1 : NotIn (.slice pz zs.length cz) zs (w.heap.size + 1) := by
        rcases nd with h | h
        · exact .inl h
        · exact .inr fun i hi e => h i hi (by show i < w.heap.size + 3; omega)
      have r9 := (rz.set_off n1 0 (.int .i64 (l - b))).set_off n1 1 (.slice pz zs.length cz)
      have hbw9 := ((hbw1.trans (hbl.mono (by omega))).setCell (p := ⟨w.heap.size + 1, 0, none⟩) (by show w.heap.size ≤ w.heap.size + 1; omega) (.int .i64 (l - b))).setCell (p := ⟨w.heap.size + 1, 1, none⟩) (by show w.heap.size ≤ w.heap.size + 1; omega) (.slice pz zs.length cz)
      clear X Z Z9 e2 ez O nd rz
      go_wp2_with fail
      refine bodyPost_ret (v := .tuple #[.agg #[.int .i64 (l - b), .slice pz zs.length cz], .int .i64 0]) (by simp [results, Tryz.results24, go_sem, z0, z1]) rfl ⟨_, rfl, ?_, hbw9⟩
      rw [← E2.out]; exact r9
end Go.Proofs.YtnakieopnobjmaaGreat
