/- The walks of the statements' own functions over the dense store: do, like. -/
import Derived.Test.YtpkccicofgbfbaaBB
namespace Go.Proofs.Ytpkccicofgbfbaa
open Go.RowKit Nl

def DoPost (g h : Nat) (l : Int) (r : List Int × Int) (w : World) (e : Ending) (w' : World) : Prop := e = .returned (.int .i64 r.2) ∧ DnV w' g h l r.1 ∧ Tch g h w w'

set_option maxHeartbeats 1000000 in
theorem law_do {w : World} {g h : Nat} {l : Int} {cs : List Int} (kind id c : Int) (d : DnV w g h l cs) (bi : -9223372036854775808 ≤ id ∧ id ≤ 9223372036854775807) (bc : -9223372036854775808 ≤ c ∧ c ≤ 9223372036854775807) :
    Calls Try.prog 14 #[.pointer (some ⟨g, 0, none⟩), .agg #[.int .i64 kind, .int .i64 id, .int .i64 c]] w (DoPost g h l (dDo l cs kind id c) w) := by
  obtain ⟨u, t, d, v⟩ := d
  obtain ⟨hlg, hlh⟩ := (⟨d.1.lt, d.2.1.lt⟩ : g < w.heap.size ∧ h < w.heap.size)
  have hba : Below w.heap.size w (w.alloc (.cells #[.int .i64 kind, .int .i64 id, .int .i64 c] 32)) := (Below.refl _ _).alloc (Nat.le_refl _) _
  have d2 := d.below hba (Nat.le_refl _)
  by_cases hk0 : kind = 0
  · subst hk0
    have e : dDo l cs 0 id c = (dAdd l cs id c, dAddCode l cs id c) := rfl
    rw [e]
    clear e
    go_enter Try.func14, Try.ntmps14
    go_wp2_with fail
    refine (d_add id c d2 v bi bc).mono ?_
    rintro e w2 ⟨rfl, dv, tc⟩
    go_wp2_with fail
    go_ret
    exact ⟨rfl, dv, (Tch.of_below hba).trans tc⟩
  · by_cases hk1 : kind = 1
    · subst hk1
      have e : dDo l cs 1 id c = (dTake l cs id, dGet l cs id) := rfl
      rw [e]
      clear e hk0
      go_enter Try.func14, Try.ntmps14
      go_wp2_with fail
      refine (d_take id d2 v bi).mono ?_
      rintro e w2 ⟨rfl, dv, tc⟩
      go_wp2_with fail
      go_ret
      exact ⟨rfl, dv, (Tch.of_below hba).trans tc⟩
    · have e : dDo l cs kind id c = (cs, dGet l cs id) := by unfold dDo; rw [if_neg hk0, if_neg hk1]
      have h0 : (kind == 0) = false := by simpa using hk0
      have h1 : (kind == 1) = false := by simpa using hk1
      rw [e]
      clear e hk0 hk1
      go_enter Try.func14, Try.ntmps14
      go_wp2_with fail
      refine (d_get id d2 v bi).mono ?_
      rintro e w2 ⟨rfl, rfl⟩
      go_wp2_with fail
      go_ret
      exact ⟨rfl, ⟨u, t, d2, v⟩, Tch.of_below hba⟩

set_option maxRecDepth 100000 in
set_option maxHeartbeats 2000000 in
theorem law_like {w : World} {g h : Nat} {l : Int} {cs : List Int} {v0 : Value} (d : DnV w g h l cs) (hr : RdN w v0 (snapF 0 cs)) :
    Calls Try.prog 15 #[.pointer (some ⟨g, 0, none⟩), .agg #[.int .i64 l, v0]] w fun e w' => e = .returned (.bool true) ∧ Below w.heap.size w w' := by
  obtain ⟨u, t, d, v⟩ := d
  obtain ⟨p, cap, rfl⟩ := hr.val
  have hbd := v.bound
  have hsl : (snapF 0 cs).length ≤ 131072 := by have := snapF_length 0 cs; omega
  have hun : ((snapF 0 cs).length : Int) = u := (snapF_nnz 0 cs).trans v.used.symm
  have htt := tot_snap v
  have hba : Below w.heap.size w (w.alloc (.cells #[.int .i64 l, .slice p (snapF 0 cs).length cap] 30)) := (Below.refl _ _).alloc (Nat.le_refl _) _
  have X := Blk.new w #[.int .i64 l, .slice p (snapF 0 cs).length cap] 30
  have hsz : (w.alloc (.cells #[.int .i64 l, .slice p (snapF 0 cs).length cap] 30)).heap.size = w.heap.size + 1 := by simp
  have d2 := d.below hba (Nat.le_refl _)
  have hr2 := hr.below hba (Nat.le_refl _)
  have Hcl := hid hbd.2.2.2
  obtain ⟨xs, exs⟩ : ∃ xs, snapF 0 cs = xs := ⟨_, rfl⟩
  have Sn : ∀ W : World, Dn W g h l u t cs → Calls Try.prog 26 #[.pointer (some ⟨g, 0, none⟩)] W (IsNodes xs W) := fun W q => by rw [← exs]; exact d_snap q Hcl.out
  rw [exs] at hba X hsz d2 hr2 htt hun hsl ⊢
  have Hun := hid hun
  have Htt := hid htt
  have Le : ∀ W : World, Dn W g h l u t cs → Calls Try.prog 21 #[.pointer (some ⟨g, 0, none⟩)] W fun e w' => e = .returned (.int .i64 xs.length) ∧ W = w' := fun W q => by rw [hun]; exact d_len q
  have To : ∀ (W : World) (v : Value), RdN W v xs → Calls Try.prog 48 #[.agg #[.int .i64 l, v]] W fun e w' => e = .returned (.int .i64 t) ∧ Below W.heap.size W w' := fun W v q => by rw [← htt]; exact r_sttotal l W q (by omega)
  have Sn' := hid Sn
  have Le' := hid Le
  have To' := hid To
  clear exs hun htt v hbd Sn Le To d hr
  go_enter Try.func15, Try.ntmps15
  go_wp2_with fail
  generalize (w.alloc (.cells #[.int .i64 l, .slice p xs.length cap] 30)) = w1 at *
  have x0 : w1.cell? ⟨w.heap.size, 0, none⟩ = some (.int .i64 l) := X.cell 0
  have x1 : w1.cell? ⟨w.heap.size, 1, none⟩ = some (.slice p xs.length cap) := X.cell 1
  have hl0 : w.heap.size < w1.heap.size := by omega
  have hB0 := Below.refl w1.heap.size w1
  go_region_held3 (fun w' => w'.cell? ⟨w.heap.size, 0, none⟩ = some (.int .i64 l) ∧ w'.cell? ⟨w.heap.size, 1, none⟩ = some (.slice p xs.length cap) ∧ Below w1.heap.size w1 w')
    (first
      | exact ⟨x0, x1, below_drewN hB0 1⟩
      | exact ⟨(X.below' hB5 hl0).cell 0, (X.below' hB5 hl0).cell 1, hB5⟩
      | exact ⟨(X.below' hB6 hl0).cell 0, (X.below' hB6 hl0).cell 1, hB6⟩
      | exact ⟨(X.below' hB7 hl0).cell 0, (X.below' hB7 hl0).cell 1, hB7⟩)
    (first
      | (go_at_call 20; refine (d_l (d2.below (‹_ ∧ _ ∧ Below w1.heap.size w1 _›).2.2 (Nat.le_refl _))).mono ?_; rintro e w5 ⟨rfl, rfl⟩)
      | (go_at_call 21; refine (Le'.out _ (d2.below (‹_ ∧ _ ∧ Below w1.heap.size w1 _›).2.2 (Nat.le_refl _))).mono ?_; rintro e w5 ⟨rfl, rfl⟩)
      | (go_at_call 22; refine (d_total (d2.below (‹_ ∧ _ ∧ Below w1.heap.size w1 _›).2.2 (Nat.le_refl _))).mono ?_; rintro e w5 ⟨rfl, rfl⟩)
      | (go_at_call 48; have hB4 := (‹_ ∧ _ ∧ Below w1.heap.size w1 _›).2.2; refine (To'.out _ _ (hr2.below hB4 (Nat.le_refl _))).mono ?_; rintro e w5 ⟨rfl, hb5⟩
         have hB5 := hB4.trans (hb5.mono hB4.size))
      | (go_at_call 26; have hB4 := (‹_ ∧ _ ∧ Below w1.heap.size w1 _›).2.2; refine (Sn'.out _ (d2.below hB4 (Nat.le_refl _))).mono ?_; rintro e w5 ⟨v6, rfl, hv6, hb5⟩
         have hB6 := hB4.trans (hb5.mono hB4.size))
      | (go_at_call 44; have hB4 := (‹_ ∧ _ ∧ Below w1.heap.size w1 _›).2.2; refine (r_same _ hv6.rd (hr2.below hB4 (Nat.le_refl _)) (by omega) (by omega)).mono ?_; rintro e w5 ⟨rfl, n, rfl⟩
         have hB7 := below_drewN hB4 n))
  go_wp2_with fail
  go_ret
  exact ⟨rfl, hba.trans (hB7.mono (by omega))⟩

set_option maxRecDepth 100000 in
set_option maxHeartbeats 2000000 in
theorem law_alive (w : World) : Calls Try.prog 11 #[] w fun e w' => e = .returned (.bool true) ∧ Below w.heap.size w w' := by
  obtain ⟨z0, ez0⟩ : ∃ z, List.replicate (2 * 2 ^ (3 : Int).toNat) (0 : Int) = z := ⟨_, rfl⟩
  obtain ⟨z1, ez1⟩ : ∃ z, dAdd 3 z0 9 2 = z := ⟨_, rfl⟩
  obtain ⟨z2, ez2⟩ : ∃ z, dAdd 3 z1 1 5 = z := ⟨_, rfl⟩
  obtain ⟨z3, ez3⟩ : ∃ z, dAdd 3 z2 9 1 = z := ⟨_, rfl⟩
  obtain ⟨z4, ez4⟩ : ∃ z, dTake 3 z3 9 = z := ⟨_, rfl⟩
  have c1 : dAddCode 3 z0 9 2 = 0 := by subst ez0; decide
  have c2 : dAddCode 3 z1 1 5 = 0 := by subst ez1 ez0; decide
  have c3 : dAddCode 3 z2 9 1 = 0 := by subst ez2 ez1 ez0; decide
  have c4 : snapF 0 z3 = [(1, 5), (9, 3)] := by subst ez3 ez2 ez1 ez0; decide
  have c5 : dGet 3 z3 9 = 3 := by subst ez3 ez2 ez1 ez0; decide
  have c6 : nnz z4 = 1 := by subst ez4 ez3 ez2 ez1 ez0; decide
  have c7 : z3.length ≤ 131072 := by subst ez3 ez2 ez1 ez0; decide
  have C1 := hid c1; have C2 := hid c2; have C3 := hid c3; have C4 := hid c4; have C5 := hid c5; have C6 := hid c6; have C7 := hid c7
  have N := hid (d_new 3 w (by decide) (by decide))
  rw [ez0] at N
  have E1 := hid ez1; have E2 := hid ez2; have E3 := hid ez3; have E4 := hid ez4
  clear c1 c2 c3 c4 c5 c6 c7 ez0 ez1 ez2 ez3 ez4
  go_enter Try.func11, Try.ntmps11
  go_wp2_with fail
  refine N.out.mono ?_
  rintro e w1 ⟨g, h, rfl, ⟨u1, t1, d1, v1⟩, hg, hh, hb1⟩
  go_wp2_with fail
  refine (d_add 9 2 d1 v1 (by decide) (by decide)).mono ?_
  rintro e w2 ⟨rfl, ⟨u2, t2, d2, v2⟩, tc2⟩
  rw [C1.out]
  rw [E1.out] at d2 v2
  go_wp2_with fail
  refine (d_add 1 5 d2 v2 (by decide) (by decide)).mono ?_
  rintro e w3 ⟨rfl, ⟨u3, t3, d3, v3⟩, tc3⟩
  rw [C2.out]
  rw [E2.out] at d3 v3
  go_wp2_with fail
  refine (d_add 9 1 d3 v3 (by decide) (by decide)).mono ?_
  rintro e w4 ⟨rfl, ⟨u4, t4, d4, v4⟩, tc4⟩
  rw [C3.out]
  rw [E3.out] at d4 v4
  go_wp2_with fail
  refine (d_snap d4 C7.out).mono ?_
  rintro e w5 ⟨sv, rfl, ho5, hb5⟩
  have hs5 := hb5.size
  rw [C4.out] at ho5
  go_wp2_with fail
  have R := rd_lit w5 [(1, 5), (9, 3)] 57 (by decide)
  have hb6 : Below w5.heap.size w5 (w5.alloc (.cells (ncells [(1, 5), (9, 3)]).toArray 57)) := (Below.refl _ _).alloc (Nat.le_refl _) _
  refine (r_same _ (ho5.rd.below hb6 (Nat.le_refl _)) R (by decide) (by decide)).mono ?_
  rintro e w6 ⟨rfl, n, rfl⟩
  have d6 := ((d4.below hb5 (Nat.le_refl _)).below hb6 (Nat.le_refl _)).drewN n
  have hb7 := hb5.trans ((below_drewN hb6 n).mono hs5)
  have hq : decide (([(1, 5), (9, 3)] : List Nd) = [(1, 5), (9, 3)]) = true := by decide
  rw [hq]
  clear hq
  generalize (w5.alloc (.cells (ncells [(1, 5), (9, 3)]).toArray 57)).drewN n = w7 at *
  go_wp2_with fail
  refine (d_take 9 d6 v4 (by decide)).mono ?_
  rintro e w8 ⟨rfl, ⟨u8, t8, d8, v8⟩, tc8⟩
  rw [C5.out]
  rw [E4.out] at d8 v8
  go_wp2_with fail
  refine (d_len d8).mono ?_
  rintro e w9 ⟨rfl, rfl⟩
  have hu : u8 = 1 := v8.used.trans C6.out
  rw [hu]
  go_wp2_with fail
  go_ret
  have T := ((tc2.trans tc3).trans tc4).trans ((Tch.of_below hb7).trans tc8)
  exact ⟨rfl, hb1.trans (T.below hg hh hb1.size)⟩
end Go.Proofs.Ytpkccicofgbfbaa
