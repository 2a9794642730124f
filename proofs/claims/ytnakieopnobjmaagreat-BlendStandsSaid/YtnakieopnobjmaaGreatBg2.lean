/- The walks of the reference's bags: Total, Between, put, Add. -/
import Derived.Test.YtnakieopnobjmaaGreatBg1
import Derived.Test.YtnakieopnobjmaaGreatDgTwig
namespace Go.Proofs.YtnakieopnobjmaaGreat
open Go.RowKit Nl

def BTotRel (its : List Nd) (n i : Value) : Prop := ∃ (k : Nat) (m : Int), i = .int .i64 k ∧ n = .int .i64 m ∧ k ≤ its.length ∧ Hid (m + sumL (its.drop k) = sumL its)
set_option maxRecDepth 100000 in
set_option maxHeartbeats 1000000 in
theorem b_total {w : World} {its : List Nd} {v : Value} (l : Int) (hr : RdN w v its) (hl : its.length ≤ 90000) (hp : Pos its) (hs : sumL its ≤ 72057594037927935) :
    Calls Tryz.prog 62 #[.agg #[.int .i64 l, v]] w fun e w' => e = .returned (.int .i64 (sumL its)) ∧ Below w.heap.size w w' := by
  obtain ⟨p, cap, rfl⟩ := hr.val
  obtain ⟨N, eN⟩ : ∃ N, its.length = N := ⟨_, rfl⟩
  rw [eN] at hr ⊢
  have EN := hid eN
  have hN : N ≤ 90000 := by omega
  have HP := hid hp
  have hba : Below w.heap.size w (w.alloc (.cells #[.int .i64 l, .slice p N cap] 49)) := (Below.refl _ _).alloc (Nat.le_refl _) _
  have X := Blk.new w #[.int .i64 l, .slice p N cap] 49
  have hr1 := hr.below hba (Nat.le_refl _)
  clear eN hl hp
  go_enter Tryz.func62, Tryz.ntmps62
  go_wp2_with fail
  generalize (w.alloc (.cells #[.int .i64 l, .slice p N cap] 49)) = w1 at *
  have x1 : w1.cell? ⟨w.heap.size, 1, none⟩ = some (.slice p N cap) := X.cell 1
  go_loop [3, 4] (fun n i => BTotRel its n i) (fun _ i => N - (intOf i).toNat)
  case atStart => exact ⟨0, 0, rfl, rfl, Nat.zero_le _, by show _ = _; simp⟩
  case round =>
    obtain ⟨k, m, rfl, rfl, hk, hm⟩ := hrel
    rw [EN.out] at hk
    have hds := drop_sum HP.out k
    have hmm := hm.out
    have hm0 : 0 ≤ m ∧ m ≤ 72057594037927935 := by omega
    obtain ⟨m0, m1⟩ := hm0
    clear hds hmm
    by_cases h1 : k < N
    · have hkx : k < its.length := by rw [EN.out]; exact h1
      obtain ⟨g, off, a, c, rfl, ex, hg, c1, c2⟩ := hr1.at hkx
      have hc2 := drop_sum HP.out (k + 1)
      have hxm := getD_mem (d := ((0, 0) : Nd)) its k hkx
      rw [ex] at hxm
      have hcp := HP.out _ hxm
      have hle := Pos.le_sum HP.out _ hxm
      simp only at hcp hle
      have hs2 : Hid ((m + c) + sumL (its.drop (k + 1)) = sumL its) := by
        have := hm.out; rw [drop_at (d := ((0, 0) : Nd)) its k hkx, ex] at this; simp only [sumL] at this; show _ = _; omega
      clear hc2 hxm hm ex hr1
      go_wp2_with fail
      go_round
      case rel => exact ⟨k + 1, m + c, by go_num, rfl, by rw [EN.out]; omega, hs2⟩
      case measure => simp [intOf]; omega
    · have hx : Hid (m = sumL its) := by
        show _ = _; have := hm.out; rw [List.drop_eq_nil_of_le (by rw [EN.out]; omega)] at this; simpa [sumL] using this
      go_wp2_with fail
      go_ret
      exact ⟨ret_int hx.out, hba⟩

def BBetRel (lo hi : Int) (its : List Nd) (n i : Value) : Prop := ∃ (k : Nat) (m : Int), i = .int .i64 k ∧ n = .int .i64 m ∧ k ≤ its.length ∧ Hid (m + betV lo hi (its.drop k) = betV lo hi its)
set_option maxRecDepth 100000 in
set_option maxHeartbeats 1000000 in
theorem b_between {w : World} {its : List Nd} {v : Value} (l lo hi : Int) (hr : RdN w v its) (hl : its.length ≤ 90000) (hp : Pos its) (hs : sumL its ≤ 72057594037927935) :
    Calls Tryz.prog 32 #[.agg #[.int .i64 l, v], .int .i64 lo, .int .i64 hi] w fun e w' => e = .returned (.int .i64 (betV lo hi its)) ∧ Below w.heap.size w w' := by
  obtain ⟨p, cap, rfl⟩ := hr.val
  obtain ⟨N, eN⟩ : ∃ N, its.length = N := ⟨_, rfl⟩
  rw [eN] at hr ⊢
  have EN := hid eN
  have hN : N ≤ 90000 := by omega
  have HP := hid hp
  have hba : Below w.heap.size w (w.alloc (.cells #[.int .i64 l, .slice p N cap] 49)) := (Below.refl _ _).alloc (Nat.le_refl _) _
  have X := Blk.new w #[.int .i64 l, .slice p N cap] 49
  have hr1 := hr.below hba (Nat.le_refl _)
  clear eN hl hp
  go_enter Tryz.func32, Tryz.ntmps32
  go_wp2_with fail
  generalize (w.alloc (.cells #[.int .i64 l, .slice p N cap] 49)) = w1 at *
  have x1 : w1.cell? ⟨w.heap.size, 1, none⟩ = some (.slice p N cap) := X.cell 1
  go_loop [7, 8] (fun n i => BBetRel lo hi its n i) (fun _ i => N - (intOf i).toNat)
  case atStart => exact ⟨0, 0, rfl, rfl, Nat.zero_le _, by show _ = _; simp⟩
  case round =>
    obtain ⟨k, m, rfl, rfl, hk, hm⟩ := hrel
    rw [EN.out] at hk
    have hds := bet_le (lo := lo) (hi := hi) (drop_pos HP.out k)
    have hds2 := drop_sum HP.out k
    have hz := bet_le (lo := lo) (hi := hi) HP.out
    have hmm := hm.out
    have hm0 : -72057594037927936 ≤ m ∧ m ≤ 72057594037927935 := by omega
    obtain ⟨m0, m1⟩ := hm0
    clear hds hds2 hz hmm
    by_cases h1 : k < N
    · have hkx : k < its.length := by rw [EN.out]; exact h1
      obtain ⟨g, off, a, c, rfl, ex, hg, c1, c2⟩ := hr1.at hkx
      have hxm := getD_mem (d := ((0, 0) : Nd)) its k hkx
      rw [ex] at hxm
      have hcp := HP.out _ hxm
      have hle := Pos.le_sum HP.out _ hxm
      simp only at hcp hle
      have hs1 : m + (betF lo hi a c + betV lo hi (its.drop (k + 1))) = betV lo hi its := by
        have := hm.out; rw [drop_at (d := ((0, 0) : Nd)) its k hkx, ex] at this; exact this
      unfold betF at hs1
      by_cases hin : lo ≤ a ∧ a ≤ hi
      · rw [if_pos hin] at hs1
        obtain ⟨i1, i2⟩ := hin
        have hs2 : Hid ((m + c) + betV lo hi (its.drop (k + 1)) = betV lo hi its) := by show _ = _; omega
        clear hs1 hxm hm ex hr1
        go_wp2_with fail
        go_round
        case rel => exact ⟨k + 1, m + c, by go_num, rfl, by rw [EN.out]; omega, hs2⟩
        case measure => simp [intOf]; omega
      · rw [if_neg hin] at hs1
        have hs2 : Hid (m + betV lo hi (its.drop (k + 1)) = betV lo hi its) := by show _ = _; omega
        have hin' : a < lo ∨ (lo ≤ a ∧ hi < a) := by omega
        clear hs1 hxm hm ex hr1 hin
        rcases hin' with i1 | ⟨i1, i2⟩
        all_goals
          go_wp2_with fail
          go_round
          case rel => exact ⟨k + 1, m, by go_num, rfl, by rw [EN.out]; omega, hs2⟩
          case measure => simp [intOf]; omega
    · have hx : Hid (m = betV lo hi its) := by
        show _ = _; have := hm.out; rw [List.drop_eq_nil_of_le (by rw [EN.out]; omega)] at this; simpa [betV, gsum] using this
      go_wp2_with fail
      go_ret
      exact ⟨ret_int hx.out, hba⟩

/-- put: what is done so far. -/
def BPutI (its : List Nd) (x c : Int) (k : Nat) (zs : List Nd) (b : Bool) : Prop := if b then zs ++ its.drop k = putR x c its ∧ ∀ y ∈ its.drop k, x < y.1 else zs ++ putR x c (its.drop k) = putR x c its
def BPutRel (B : Nat) (w2 : World) (its : List Nd) (x c : Int) (out done i : Value) (wr : World) : Prop :=
  ∃ (k : Nat) (zs : List Nd) (b : Bool), i = .int .i64 k ∧ k ≤ its.length ∧ done = .bool b ∧ OwnR wr B out zs ∧ zs.length ≤ 2 * k ∧ Below B w2 wr ∧ Hid (BPutI its x c k zs b)
def BagOut (l : Int) (its : List Nd) (w : World) (e : Ending) (w' : World) : Prop :=
  ∃ v, e = .returned (.agg #[.int .i64 l, v]) ∧ OwnR w' w.heap.size v its ∧ Below w.heap.size w w'
theorem Nl.put_eq {its : List (Int × Int)} {x c a d : Int} {k : Nat} {zs : List (Int × Int)} (hr : its.Pairwise (fun a b => a.1 < b.1)) (hk : k < its.length) (ex : its.getD k (0, 0) = (a, d)) (h : BPutI its x c k zs false) (ha : a = x) : BPutI its x c (k + 1) (zs ++ [(a, d + c)]) true := by
  have e := drop_at (d := ((0, 0) : Int × Int)) its k hk
  rw [ex] at e
  have hp := hr.sublist (List.drop_sublist k its)
  rw [e] at hp
  have h1 := (List.pairwise_cons.1 hp).1
  unfold BPutI at h ⊢
  simp only [if_true, Bool.false_eq_true, if_false] at h ⊢
  rw [e] at h
  simp only [putR, if_pos ha] at h
  subst ha
  exact ⟨by simpa using h, h1⟩
theorem Nl.put_gt {its : List (Int × Int)} {x c a d : Int} {k : Nat} {zs : List (Int × Int)} (hr : its.Pairwise (fun a b => a.1 < b.1)) (hk : k < its.length) (ex : its.getD k (0, 0) = (a, d)) (h : BPutI its x c k zs false) (ha : x < a) : BPutI its x c (k + 1) (zs ++ [(x, c)] ++ [(a, d)]) true := by
  have e := drop_at (d := ((0, 0) : Int × Int)) its k hk
  rw [ex] at e
  have hp := hr.sublist (List.drop_sublist k its)
  rw [e] at hp
  have h1 := (List.pairwise_cons.1 hp).1
  unfold BPutI at h ⊢
  simp only [if_true, Bool.false_eq_true, if_false] at h ⊢
  rw [e] at h
  simp only [putR, if_neg (show ¬ a = x by omega), if_pos ha] at h
  exact ⟨by simpa using h, fun y hy => by have := h1 y hy; simp only at this; omega⟩
theorem Nl.put_lt {its : List (Int × Int)} {x c a d : Int} {k : Nat} {zs : List (Int × Int)} (hk : k < its.length) (ex : its.getD k (0, 0) = (a, d)) (h : BPutI its x c k zs false) (ha : a < x) : BPutI its x c (k + 1) (zs ++ [(a, d)]) false := by
  have e := drop_at (d := ((0, 0) : Int × Int)) its k hk
  rw [ex] at e
  unfold BPutI at h ⊢
  simp only [Bool.false_eq_true, if_false] at h ⊢
  rw [e] at h
  simp only [putR, if_neg (show ¬ a = x by omega), if_neg (show ¬ x < a by omega)] at h
  simpa using h
theorem Nl.put_rest {its : List (Int × Int)} {x c a d : Int} {k : Nat} {zs : List (Int × Int)} (hk : k < its.length) (ex : its.getD k (0, 0) = (a, d)) (h : BPutI its x c k zs true) : BPutI its x c (k + 1) (zs ++ [(a, d)]) true ∧ x < a := by
  have e := drop_at (d := ((0, 0) : Int × Int)) its k hk
  rw [ex] at e
  unfold BPutI at h ⊢
  simp only [if_true] at h ⊢
  rw [e] at h
  exact ⟨⟨by simpa using h.1, fun y hy => h.2 y (List.mem_cons_of_mem _ hy)⟩, h.2 _ (List.mem_cons_self ..)⟩
theorem Nl.put_end {its : List (Int × Int)} {x c : Int} {k : Nat} {zs : List (Int × Int)} {b : Bool} (hk : ¬ k < its.length) (h : BPutI its x c k zs b) : (if b then zs else zs ++ [(x, c)]) = putR x c its := by
  unfold BPutI at h
  rw [List.drop_eq_nil_of_le (by omega)] at h
  cases b
  · simpa [putR] using h
  · simpa using h.1

set_option maxRecDepth 100000 in
set_option maxHeartbeats 2000000 in
theorem b_put {w : World} {its : List Nd} {v : Value} (l x c : Int) (hr : RdN w v its) (hl : its.length ≤ 90000) (hp : Pos its) (hrise : its.Pairwise (fun a b => a.1 < b.1)) (hs : sumL its ≤ 72057594037927935) (hc : 0 ≤ c ∧ c ≤ 72057594037927935) :
    Calls Tryz.prog 64 #[.agg #[.int .i64 l, v], .int .i64 x, .int .i64 c] w (BagOut l (putR x c its) w) := by
  obtain ⟨c0, c1⟩ := hc
  obtain ⟨p, cap, rfl⟩ := hr.val
  obtain ⟨N, eN⟩ : ∃ N, its.length = N := ⟨_, rfl⟩
  rw [eN] at hr ⊢
  have EN := hid eN
  have hN : N ≤ 90000 := by omega
  have HP := hid hp
  have HR := hid hrise
  have hba : Below w.heap.size w ((w.alloc (.cells #[.int .i64 l, .slice p N cap] 49)).alloc (.cells #[.int .i64 0, .slice none 0 0] 49)) := ((Below.refl _ _).alloc (Nat.le_refl _) _).alloc (by simp) _
  have X := (Blk.new w #[.int .i64 l, .slice p N cap] 49).alloc (.cells #[.int .i64 0, .slice none 0 0] 49)
  have Y : Blk ((w.alloc (.cells #[.int .i64 l, .slice p N cap] 49)).alloc (.cells #[.int .i64 0, .slice none 0 0] 49)) (w.heap.size + 1) #[.int .i64 0, .slice none 0 0] 49 := by
    have h := Blk.new (w.alloc (.cells #[.int .i64 l, .slice p N cap] 49)) #[.int .i64 0, .slice none 0 0] 49
    simpa using h
  have hsx : ((w.alloc (.cells #[.int .i64 l, .slice p N cap] 49)).alloc (.cells #[.int .i64 0, .slice none 0 0] 49)).heap.size = w.heap.size + 2 := by simp
  have R0 : Hid (BPutI its x c 0 [] false) := by show BPutI its x c 0 [] false; unfold BPutI; simp
  clear eN hl hp hrise
  go_enter Tryz.func64, Tryz.ntmps64
  go_wp2_with fail
  generalize ((w.alloc (.cells #[.int .i64 l, .slice p N cap] 49)).alloc (.cells #[.int .i64 0, .slice none 0 0] 49)) = w2 at *
  have hr1 := hr.below hba (Nat.le_refl _)
  go_loopw [7, 8, 9] (fun out done i wr => BPutRel (w.heap.size + 2) w2 its x c out done i wr) (fun _ _ i _ => N - (intOf i).toNat)
  case atStart => exact ⟨0, [], false, rfl, Nat.zero_le _, rfl, OwnR.nil _ _, by simp, Below.refl _ _, R0.out⟩
  case round =>
    obtain ⟨k, zs, b, rfl, hk, rfl, hown, hzl, hbl, hI⟩ := hrel
    rw [EN.out] at hk
    have hwr := hbl.size
    have X2 := X.below' hbl (by omega)
    have x1 : wr.cell? ⟨w.heap.size, 1, none⟩ = some (.slice p N cap) := X2.cell 1
    obtain ⟨pz, capz, rfl⟩ := hown.val
    by_cases h1 : k < N
    · have hkx : k < its.length := by rw [EN.out]; exact h1
      have hr2 : RdN wr (.slice p N cap) its := hr1.below hbl (by omega)
      obtain ⟨g, off, a, d, rfl, ex, hg, q1, q2⟩ := hr2.at hkx
      have hxm := getD_mem (d := ((0, 0) : Nd)) its k hkx
      rw [ex] at hxm
      have hcp := HP.out _ hxm
      have hle := Pos.le_sum HP.out _ hxm
      simp only at hcp hle
      have hba2 : Below wr.heap.size wr (wr.alloc (.cells #[.int .i64 a, .int .i64 d] 102)) := (Below.refl _ _).alloc (Nat.le_refl _) _
      have hown2 := hown.below hba2 (Nat.le_refl _)
      have hbl2 := hbl.trans (hba2.mono (by omega))
      have Ex := hid ex
      clear hr2 ex hxm hr1 hr
      cases b
      · by_cases h2 : a = x
        · have hI2 := hid (put_eq HR.out hkx Ex.out hI.out h2)
          have hq : (a == x) = true := by simpa using h2
          clear h2 hI
          have hown3 := hown.alloc (.cells #[.int .i64 a, .int .i64 (d + c)] 102)
          have hbl3 := hbl.trans (((Below.refl wr.heap.size wr).alloc (Nat.le_refl _) (.cells #[.int .i64 a, .int .i64 (d + c)] 102)).mono (by omega))
          as_aux_lemma =>
            go_wp2_with (at_builtin; refine appendR (wr := wr.alloc (.cells #[.int .i64 a, .int .i64 (d + c)] 102)) (b := a) (c := d + c) _ _ hown3 (by omega) (by simp; omega) rfl rfl rfl rfl (by simp [go_sem]) ?_; intro v3 w3 ho3 hg3 hnn)
            go_roundw
            case rel => exact ⟨k + 1, _, true, by go_num, by rw [EN.out]; omega, rfl, ho3, by simp; omega, hbl3.trans (below_grown hg3 (by simp; omega) hown3.lt), hI2⟩
            case measure => simp [intOf]; omega
        · have hq : (a == x) = false := by simpa using h2
          by_cases h3 : x < a
          · have hI2 := hid (put_gt HR.out hkx Ex.out hI.out h3)
            clear h2 hI
            have O2 := Blk.new wr #[.int .i64 a, .int .i64 d] 102
            as_aux_lemma =>
              go_wp2_with (first
                | (at_builtin; refine appendR (wr := wr.alloc (.cells #[.int .i64 a, .int .i64 d] 102)) (b := x) (c := c) _ _ hown2 (by omega) (by simp; omega) rfl rfl rfl rfl (by simp [go_sem]) ?_; intro v3 w3 ho3 hg3 hnn
                   have hs3 : wr.heap.size + 1 ≤ w3.heap.size := by have := hg3.size; simpa using this
                   have hbl3 := hbl2.trans (below_grown hg3 (by simp; omega) hown2.lt)
                   have O3 := O2.keep (hg3.block _ O2.lt (fun e => by have := hown.lt' _ e.symm; omega))
                   have z0 : w3.cell? ⟨wr.heap.size, 0, none⟩ = some (.int .i64 a) := O3.cell 0
                   have z1 : w3.cell? ⟨wr.heap.size, 1, none⟩ = some (.int .i64 d) := O3.cell 1)
                | (at_builtin; refine appendR (wr := w3) (b := a) (c := d) _ _ ho3 (by simp; omega) (by omega) rfl rfl rfl rfl rfl ?_; intro v4 w4 ho4 hg4 hnn4))
              go_roundw
              case rel => exact ⟨k + 1, _, true, by go_num, by rw [EN.out]; omega, rfl, ho4, by simp; omega, hbl3.trans (below_grown hg4 (by omega) ho3.lt), hI2⟩
              case measure => simp [intOf]; omega
          · have hI2 := hid (put_lt hkx Ex.out hI.out (by omega))
            have h3' : a < x := by omega
            clear h2 hI h3
            as_aux_lemma =>
              go_wp2_with (at_builtin; refine appendR (wr := wr.alloc (.cells #[.int .i64 a, .int .i64 d] 102)) (b := a) (c := d) _ _ hown2 (by omega) (by simp; omega) rfl rfl rfl rfl (by simp [go_sem]) ?_; intro v3 w3 ho3 hg3 hnn)
              go_roundw
              case rel => exact ⟨k + 1, _, false, by go_num, by rw [EN.out]; omega, rfl, ho3, by simp; omega, hbl2.trans (below_grown hg3 (by simp; omega) hown2.lt), hI2⟩
              case measure => simp [intOf]; omega
      · obtain ⟨hI2, h3⟩ := put_rest hkx Ex.out hI.out
        have HI2 := hid hI2
        have hq : (a == x) = false := by simp; omega
        clear hI hI2
        as_aux_lemma =>
          go_wp2_with (at_builtin; refine appendR (wr := wr.alloc (.cells #[.int .i64 a, .int .i64 d] 102)) (b := a) (c := d) _ _ hown2 (by omega) (by simp; omega) rfl rfl rfl rfl (by simp [go_sem]) ?_; intro v3 w3 ho3 hg3 hnn)
          go_roundw
          case rel => exact ⟨k + 1, _, true, by go_num, by rw [EN.out]; omega, rfl, ho3, by simp; omega, hbl2.trans (below_grown hg3 (by simp; omega) hown2.lt), HI2⟩
          case measure => simp [intOf]; omega
    · have he := hid (put_end (by rw [EN.out]; exact h1) hI.out)
      have Y2 := Y.below' hbl (by omega)
      have x0 : wr.cell? ⟨w.heap.size, 0, none⟩ = some (.int .i64 l) := X2.cell 0
      clear hI hr1 hr
      cases b
      · have he2 : Hid (zs ++ [(x, c)] = putR x c its) := he.out
        clear he
        go_wp2_with (first
          | (at_builtin; refine appendR (wr := wr) (b := x) (c := c) _ _ hown (by omega) (by omega) rfl rfl rfl rfl rfl ?_; intro v3 w3 ho3 hg3 hnn
             have hs3 := hg3.size
             have X3 := X2.grown hg3 hown.lt (by omega)
             have Y3 := Y2.grown hg3 hown.lt (by omega)
             have x03 : w3.cell? ⟨w.heap.size, 0, none⟩ = some (.int .i64 l) := X3.cell 0
             have f0 := Y3.free 0
             have f1 := Y3.free 1
             have y0 : w3.cell? ⟨w.heap.size + 1, 0, none⟩ = some (.int .i64 0) := Y3.cell 0
             have y1 : w3.cell? ⟨w.heap.size + 1, 1, none⟩ = some (.slice none 0 0) := Y3.cell 1
             have hl1 : w.heap.size < w3.heap.size := by omega
             have hl2 : w.heap.size + 1 < w3.heap.size := by omega
             obtain ⟨zs3, ez3⟩ : ∃ z, zs ++ [(x, c)] = z := ⟨_, rfl⟩
             rw [ez3] at ho3
             have Ez3 := hid ez3
             clear ez3
             obtain ⟨p3, cap3, rfl⟩ := ho3.val))
        have Z := (Y3.set 0 (.int .i64 l)).set 1 (.slice p3 zs3.length cap3)
        have z0 : World.cell? _ ⟨w.heap.size + 1, 0, none⟩ = some (.int .i64 l) := Z.cell 0
        have z1 : World.cell? _ ⟨w.heap.size + 1, 1, none⟩ = some (.slice p3 zs3.length cap3) := Z.cell 1
        have hbv := hba.trans ((hbl.trans (below_grown hg3 (by omega) hown.lt)).mono (by omega))
        have hbz := (hbv.setCell (p := ⟨w.heap.size + 1, 0, none⟩) (Nat.le_succ _) (.int .i64 l)).setCell (p := ⟨w.heap.size + 1, 1, none⟩) (Nat.le_succ _) (.slice p3 zs3.length cap3)
        refine bodyPost_ret (v := .agg #[.int .i64 l, .slice p3 zs3.length cap3]) (by simp [results, Tryz.results64, go_sem, z0, z1]) rfl ⟨_, rfl, ?_, hbz⟩
        have ho5 := ho3.keep (w' := (w3.setCell ⟨w.heap.size + 1, 0, none⟩ (.int .i64 l)).setCell ⟨w.heap.size + 1, 1, none⟩ (.slice p3 zs3.length cap3)) (fun j hj => by
          have h := ho3.lt j hj
          rw [Below.heap_setCell _ _ _ _ (by show j ≠ w.heap.size + 1; omega), Below.heap_setCell _ _ _ _ (by show j ≠ w.heap.size + 1; omega)])
        rw [show zs3 = putR x c its from Ez3.out.symm.trans he2.out] at ho5 ⊢
        exact ho5.mono (by omega)
      · have he2 : Hid (zs = putR x c its) := he.out
        clear he
        have f0 := Y2.free 0
        have f1 := Y2.free 1
        have y0 : wr.cell? ⟨w.heap.size + 1, 0, none⟩ = some (.int .i64 0) := Y2.cell 0
        have y1 : wr.cell? ⟨w.heap.size + 1, 1, none⟩ = some (.slice none 0 0) := Y2.cell 1
        have hl1 : w.heap.size < wr.heap.size := by omega
        have hl2 : w.heap.size + 1 < wr.heap.size := by omega
        go_wp2_with fail
        have Z := (Y2.set 0 (.int .i64 l)).set 1 (.slice pz zs.length capz)
        have z0 : World.cell? _ ⟨w.heap.size + 1, 0, none⟩ = some (.int .i64 l) := Z.cell 0
        have z1 : World.cell? _ ⟨w.heap.size + 1, 1, none⟩ = some (.slice pz zs.length capz) := Z.cell 1
        have hbv := hba.trans (hbl.mono (by omega))
        have hbz := (hbv.setCell (p := ⟨w.heap.size + 1, 0, none⟩) (Nat.le_succ _) (.int .i64 l)).setCell (p := ⟨w.heap.size + 1, 1, none⟩) (Nat.le_succ _) (.slice pz zs.length capz)
        refine bodyPost_ret (v := .agg #[.int .i64 l, .slice pz zs.length capz]) (by simp [results, Tryz.results64, go_sem, z0, z1]) rfl ⟨_, rfl, ?_, hbz⟩
        have ho5 := hown.keep (w' := (wr.setCell ⟨w.heap.size + 1, 0, none⟩ (.int .i64 l)).setCell ⟨w.heap.size + 1, 1, none⟩ (.slice pz zs.length capz)) (fun j hj => by
          have h := hown.lt j hj
          rw [Below.heap_setCell _ _ _ _ (by show j ≠ w.heap.size + 1; omega), Below.heap_setCell _ _ _ _ (by show j ≠ w.heap.size + 1; omega)])
        rw [he2.out] at ho5 ⊢
        exact ho5.mono (by omega)
end Go.Proofs.YtnakieopnobjmaaGreat
