/- Texts laid together. -/
import Derived.Test.YtdnlejboijkcfaaGreatDoorP11
/- Texts laid together: Bg1, Bg2, Bg3, Ends, Made. -/
/- Readings: memory, and what a bag holds (plain). -/
namespace Go.Proofs.YtdnlejboijkcfaaGreatDoor
set_option maxHeartbeats 8000000
set_option maxRecDepth 100000
open Go.RowKit Nl
def OwnR (w : World) (B : Nat) (v : Value) (xs : List Nd) : Prop := w.ownsRow B 101 2 v xs.length (ncells xs)
theorem OwnR.nil (w : World) (B : Nat) : OwnR w B (.slice none 0 0) [] := World.ownsRow_nil w B _ _
theorem OwnR.lt {w : World} {B : Nat} {v : Value} {xs : List Nd} (h : OwnR w B v xs) : ∀ k, v.ownBlock = some k → B ≤ k := fun k hk => (World.ownsRow.lt h k hk).1
theorem OwnR.lt' {w : World} {B : Nat} {v : Value} {xs : List Nd} (h : OwnR w B v xs) : ∀ k, v.ownBlock = some k → k < w.heap.size := fun k hk => (World.ownsRow.lt h k hk).2
theorem OwnR.mono {w : World} {B B' : Nat} {v : Value} {xs : List Nd} (h : OwnR w B v xs) (hB : B' ≤ B) : OwnR w B' v xs := ownsRow_mono h hB
theorem OwnR.keep {w w' : World} {B : Nat} {v : Value} {xs : List Nd} (h : OwnR w B v xs) (hk : ∀ k, v.ownBlock = some k → w'.heap[k]? = w.heap[k]?) : OwnR w' B v xs := ownsRow_keep h hk
theorem OwnR.below {w w' : World} {B B' : Nat} {v : Value} {xs : List Nd} (h : OwnR w B v xs) (hb : Below B' w w') (hB : w.heap.size ≤ B') : OwnR w' B v xs :=
  h.keep fun k hk => hb.block k (Nat.lt_of_lt_of_le (h.lt' k hk) hB)
theorem OwnR.alloc {w : World} {B : Nat} {v : Value} {xs : List Nd} (h : OwnR w B v xs) (o : Obj) : OwnR (w.alloc o) B v xs :=
  h.keep fun k hk => Below.heap_alloc w o k (h.lt' k hk)
theorem OwnR.shape {w : World} {B : Nat} {v : Value} {xs : List Nd} (h : OwnR w B v xs) :
    (v = .slice none 0 0 ∧ xs = []) ∨ ∃ g cap, v = .slice (some ⟨g, 0, none⟩) xs.length cap ∧ B ≤ g ∧ g < w.heap.size ∧ xs.length ≤ cap ∧
      ∀ k, k < xs.length → w.cell? ⟨g, k * 2, none⟩ = some (.int .i64 (xs.getD k (0, 0)).1) ∧ w.cell? ⟨g, k * 2 + 1, none⟩ = some (.int .i64 (xs.getD k (0, 0)).2) := by
  rcases h.2 with ⟨h1, h2⟩ | ⟨g, cap, cur, hv, hg, hh, h3, h4, h5, h6⟩
  · exact .inl ⟨h1, List.eq_nil_of_length_eq_zero h2⟩
  · refine .inr ⟨g, cap, hv, hg, (Array.getElem?_eq_some_iff.1 hh).1, h3, fun k hk => ?_⟩
    subst hv
    have hcell : ∀ j, j < xs.length * 2 → w.cell? ⟨g, j, none⟩ = (ncells xs)[j]? := fun j hj => World.ownsRow.cellAt h j hj
    rw [hcell (k * 2) (by omega), hcell (k * 2 + 1) (by omega)]
    exact ncells_get xs k hk
theorem OwnR.rd {w : World} {B : Nat} {v : Value} {xs : List Nd} (h : OwnR w B v xs) : RdN w v xs := by
  rcases h.shape with h | ⟨g, cap, hv, _, hg, hc, hr⟩
  · exact .inl h
  · exact .inr (.inr ⟨g, 0, cap, hv, hg, hc, fun k hk => by simpa using hr k hk⟩)
theorem OwnR.val {w : World} {B : Nat} {v : Value} {xs : List Nd} (h : OwnR w B v xs) : ∃ p cap, v = .slice p xs.length cap := h.rd.val
theorem Tryz.infoReading : (Tryz.prog.info? 101).map (fun i => (i.zero, i.size, i.bytes)) = some (some (.agg #[.int .i64 0, .int .i64 0]), 2, 16) := by kernel_rfl
section
variable {ops : Array Oper} {rest : List Oper} {o : Oper} {a : Act} {Q : Exit → Act → World → Prop} {w wr : World} {v : Value} {xs : List Nd} {B T : Nat}
theorem appendR {b c : Int} (s x : Operand)
    (hown : OwnR wr B v xs) (hlen : xs.length < 16777216) (hBr : B ≤ wr.heap.size)
    (hw : w = wr.alloc (.cells #[.int .i64 b, .int .i64 c] T))
    (hgd : o.guard = none) (ho : o.op = .call { callee := .builtin .append, args := #[s, x], argTypes := #[38, 38] })
    (hv : a.eval s = v) (hx : a.eval x = .slice (some ⟨wr.heap.size, 0, none⟩) 1 1)
    (h : ∀ v' w', OwnR w' B v' (xs ++ [(b, c)]) → wr.grownBy w' v.ownBlock → v' ≠ .slice none 0 0 → wpList Tryz.prog ops Q rest (a.put o.dst v') w') :
    wpList Tryz.prog ops Q (o :: rest) a w := by
  obtain ⟨i0, hi, hz0, hz1, hz2⟩ := info_parts Tryz.infoReading
  subst hw
  refine wpList_append_own _ hgd s x 38 ho B 101 i0 (.agg #[.int .i64 0, .int .i64 0]) 2 16 Tryz.underlying38 hi hz0 hz1 hz2 rfl (by decide) v xs.length (ncells xs) hv (World.ownsRow.alloc hown _) ⟨wr.heap.size, 0, none⟩ 1 1 (ncells [(b, c)]) hx rfl ?_ (ncells_one _) ?_ ?_ ?_ ?_
  · intro j u hj
    have hadd : (⟨wr.heap.size, 0, none⟩ : Addr).add j = ⟨wr.heap.size, j, none⟩ := by unfold Addr.add; split <;> simp_all
    rw [hadd, World.cell?_alloc_at _ _ _ _ rfl]
    match j, hj with
    | 0, hj => simpa [ncells] using hj
    | 1, hj => simpa [ncells] using hj
    | j + 2, hj => simp [ncells] at hj
  · unfold maxLen; omega
  · omega
  · simp; omega
  · intro v' w' h1 h2 h3
    refine h v' w' ?_ (grownBy_of_alloc h2) (fun e => by have := h3.1 e; simp at this)
    unfold OwnR
    rw [ncells_append]
    simpa using h1
end
namespace Nl
def putR (x c : Int) : List (Int × Int) → List (Int × Int)
  | [] => [(x, c)]
  | y :: r => if y.1 = x then (x, y.2 + c) :: r else if x < y.1 then (x, c) :: y :: r else y :: putR x c r
structure Bag (l : Int) (its : List (Int × Int)) : Prop where
  rise : its.Pairwise (fun a b => a.1 < b.1)
  pos : ∀ y ∈ its, 1 ≤ y.2
  val : ∀ y ∈ its, leafB l y.1 = true
  most : sumL its ≤ 72057594037927935
theorem Bag.nil (l : Int) : Bag l [] := ⟨List.Pairwise.nil, (fun _ h => absurd h (List.not_mem_nil)), (fun _ h => absurd h (List.not_mem_nil)), by simp [sumL]⟩
theorem Bag.pos' {l : Int} {its : List (Int × Int)} (b : Bag l its) : Pos its := fun y hy => by have := b.pos y hy; omega
theorem putR_mem {x c : Int} {its : List (Int × Int)} : ∀ z ∈ putR x c its, z.1 = x ∧ (z.2 = c ∨ ∃ y ∈ its, y.1 = x ∧ z.2 = y.2 + c) ∨ z ∈ its := by
  induction its with
  | nil => intro z hz; simp only [putR, List.mem_singleton] at hz; subst hz; exact .inl ⟨rfl, .inl rfl⟩
  | cons y r ih =>
    intro z hz
    simp only [putR] at hz
    split at hz
    · rename_i he
      rcases List.mem_cons.1 hz with rfl | hz
      · exact .inl ⟨rfl, .inr ⟨y, List.mem_cons_self .., he, rfl⟩⟩
      · exact .inr (List.mem_cons_of_mem _ hz)
    · split at hz
      · rcases List.mem_cons.1 hz with rfl | hz
        · exact .inl ⟨rfl, .inl rfl⟩
        · exact .inr hz
      · rcases List.mem_cons.1 hz with rfl | hz
        · exact .inr (List.mem_cons_self ..)
        · rcases ih z hz with ⟨h1, h2⟩ | h
          · refine .inl ⟨h1, ?_⟩
            rcases h2 with h2 | ⟨q, hq, e1, e2⟩
            · exact .inl h2
            · exact .inr ⟨q, List.mem_cons_of_mem _ hq, e1, e2⟩
          · exact .inr (List.mem_cons_of_mem _ h)
theorem putR_rise {x c : Int} {its : List (Int × Int)} (h : its.Pairwise (fun a b => a.1 < b.1)) : (putR x c its).Pairwise (fun a b => a.1 < b.1) := by
  induction its with
  | nil => simp [putR]
  | cons y r ih =>
    obtain ⟨h1, h2⟩ := List.pairwise_cons.1 h
    simp only [putR]
    split
    · rename_i he
      exact List.pairwise_cons.2 ⟨fun z hz => by have := h1 z hz; simp only; omega, h2⟩
    · split
      · rename_i hlt
        refine List.pairwise_cons.2 ⟨fun z hz => ?_, h⟩
        rcases List.mem_cons.1 hz with rfl | hz
        · exact hlt
        · have := h1 z hz; simp only; omega
      · refine List.pairwise_cons.2 ⟨fun z hz => ?_, ih h2⟩
        rcases putR_mem z hz with ⟨e, _⟩ | h3
        · omega
        · exact h1 z h3
theorem putR_gsum {f : Int → Int → Int} {x c : Int} (hf : ∀ a, f x (a + c) = f x a + f x c) (its : List (Int × Int)) : gsum f (putR x c its) = gsum f its + f x c := by
  induction its with
  | nil => simp [putR, gsum]
  | cons y r ih =>
    simp only [putR]
    split
    · rename_i he
      simp only [gsum, he, hf]; omega
    · split
      · simp only [gsum]; omega
      · simp only [gsum, ih]; omega
theorem putR_sum {x c : Int} (its : List (Int × Int)) : sumL (putR x c its) = sumL its + c := by
  rw [← gsum_sum, ← gsum_sum]; exact putR_gsum (f := fun _ c => c) (fun _ => rfl) its
theorem putR_length {x c : Int} (its : List (Int × Int)) : (putR x c its).length ≤ its.length + 1 := by
  induction its with
  | nil => simp [putR]
  | cons y r ih =>
    simp only [putR]
    split
    · simp
    · split
      · simp
      · simp only [List.length_cons]; omega
def badd (l : Int) (its : List (Int × Int)) (x c : Int) : List (Int × Int) × Int :=
  if leafB l x = false then (its, 3) else if c < 1 then (its, 4) else if 72057594037927935 - sumL its < c then (its, 5) else (putR x c its, 0)
theorem Bag.put {l : Int} {its : List (Int × Int)} (b : Bag l its) {x c : Int} (hx : leafB l x = true) (hc : 1 ≤ c) (hs : sumL its + c ≤ 72057594037927935) : Bag l (putR x c its) := by
  refine ⟨putR_rise b.rise, fun z hz => ?_, fun z hz => ?_, by rw [putR_sum]; exact hs⟩
  · rcases putR_mem z hz with ⟨_, h | ⟨y, hy, _, e⟩⟩ | h
    · omega
    · have := b.pos y hy; omega
    · exact b.pos z h
  · rcases putR_mem z hz with ⟨e, _⟩ | h
    · rw [e]; exact hx
    · exact b.val z h
theorem Bag.badd {l : Int} {its : List (Int × Int)} (b : Bag l its) (x c : Int) : Bag l (badd l its x c).1 ∧ (badd l its x c).1.length ≤ its.length + 1 := by
  unfold Nl.badd
  split
  · exact ⟨b, by simp⟩
  · rename_i h1
    split
    · exact ⟨b, by simp⟩
    · split
      · exact ⟨b, by simp⟩
      · exact ⟨b.put (by simpa using h1) (by omega) (by omega), putR_length _⟩
def betF (lo hi v c : Int) : Int := if lo ≤ v ∧ v ≤ hi then c else 0
def betV (lo hi : Int) (its : List (Int × Int)) : Int := gsum (betF lo hi) its
theorem bet_le {lo hi : Int} {its : List (Int × Int)} (hp : Pos its) : 0 ≤ betV lo hi its ∧ betV lo hi its ≤ sumL its := by
  rw [← gsum_sum]
  exact ⟨gsum_zero (fun x hx => by have := hp x hx; unfold betF; split <;> omega), gsum_le (fun x hx => by have := hp x hx; unfold betF; split <;> omega)⟩
end Nl
end Go.Proofs.YtdnlejboijkcfaaGreatDoor
/- The walks of the reference's bags: Total, Between, put, Add. -/
namespace Go.Proofs.YtdnlejboijkcfaaGreatDoor
set_option maxHeartbeats 8000000
set_option maxRecDepth 100000
open Go.RowKit Nl
def BTotRel (its : List Nd) (n i : Value) : Prop := ∃ (k : Nat) (m : Int), i = .int .i64 k ∧ n = .int .i64 m ∧ k ≤ its.length ∧ Hid (m + sumL (its.drop k) = sumL its)
theorem b_total {w : World} {its : List Nd} {v : Value} (l : Int) (hr : RdN w v its) (hl : its.length ≤ 90000) (hp : Pos its) (hs : sumL its ≤ 72057594037927935) :
    Calls Tryz.prog 17 #[.agg #[.int .i64 l, v]] w fun e w' => e = .returned (.int .i64 (sumL its)) ∧ Below w.heap.size w w' := by
  obtain ⟨p, cap, rfl⟩ := hr.val
  obtain ⟨N, eN⟩ : ∃ N, its.length = N := ⟨_, rfl⟩
  rw [eN] at hr ⊢
  have EN := hid eN
  have hN : N ≤ 90000 := by omega
  have HP := hid hp
  have hba : Below w.heap.size w (w.alloc (.cells #[.int .i64 l, .slice p N cap] 40)) := (Below.refl _ _).alloc nlr _
  have X := Blk.new w #[.int .i64 l, .slice p N cap] 40
  have hr1 := hr.below hba nlr
  clear eN hl hp
  go_enter Tryz.func17, Tryz.ntmps17
  go_wp2_with fail
  generalize (w.alloc (.cells #[.int .i64 l, .slice p N cap] 40)) = w1 at *
  have x1 : w1.cell? ⟨w.heap.size, 1, none⟩ = some (.slice p N cap) := X.cell 1
  go_loop [3, 4] (fun n i => BTotRel its n i) (fun _ i => N - (intOf i).toNat)
  case atStart => exact ⟨0, 0, rfl, rfl, Nat.zero_le _, by show _ = _; simp⟩
  case round =>
    obtain ⟨k, m, rfl, rfl, hk, hm⟩ := hrel
    rw [EN.out] at hk
    have hds := drop_sum HP.out k
    have hmm := hm.out
    have hm0 : 0 ≤ m ∧ m ≤ 72057594037927935 := by omega
    obtain ⟨m0, m1⟩ := hm0
    clear hds hmm
    by_cases h1 : k < N
    · have hkx : k < its.length := by rw [EN.out]; exact h1
      obtain ⟨g, off, a, c, rfl, ex, hg, c1, c2⟩ := hr1.at hkx
      have hc2 := drop_sum HP.out (k + 1)
      have hxm := getD_mem (d := ((0, 0) : Nd)) its k hkx
      rw [ex] at hxm
      have hcp := HP.out _ hxm
      have hle := Pos.le_sum HP.out _ hxm
      simp only at hcp hle
      have hs2 : Hid ((m + c) + sumL (its.drop (k + 1)) = sumL its) := by
        have := hm.out; rw [drop_at (d := ((0, 0) : Nd)) its k hkx, ex] at this; simp only [sumL] at this; show _ = _; omega
      clear hc2 hxm hm ex hr1
      go_wp2_with fail
      go_round
      case rel => exact ⟨k + 1, m + c, by go_num, rfl, by rw [EN.out]; omega, hs2⟩
      case measure => simp [intOf]; omega
    · have hx : Hid (m = sumL its) := by
        show _ = _; have := hm.out; rw [List.drop_eq_nil_of_le (by rw [EN.out]; omega)] at this; simpa [sumL] using this
      go_wp2_with fail
      go_ret
      exact ⟨ret_int hx.out, hba⟩
def BBetRel (lo hi : Int) (its : List Nd) (n i : Value) : Prop := ∃ (k : Nat) (m : Int), i = .int .i64 k ∧ n = .int .i64 m ∧ k ≤ its.length ∧ Hid (m + betV lo hi (its.drop k) = betV lo hi its)
theorem b_between {w : World} {its : List Nd} {v : Value} (l lo hi : Int) (hr : RdN w v its) (hl : its.length ≤ 90000) (hp : Pos its) (hs : sumL its ≤ 72057594037927935) :
    Calls Tryz.prog 50 #[.agg #[.int .i64 l, v], .int .i64 lo, .int .i64 hi] w fun e w' => e = .returned (.int .i64 (betV lo hi its)) ∧ Below w.heap.size w w' := by
  obtain ⟨p, cap, rfl⟩ := hr.val
  obtain ⟨N, eN⟩ : ∃ N, its.length = N := ⟨_, rfl⟩
  rw [eN] at hr ⊢
  have EN := hid eN
  have hN : N ≤ 90000 := by omega
  have HP := hid hp
  have hba : Below w.heap.size w (w.alloc (.cells #[.int .i64 l, .slice p N cap] 40)) := (Below.refl _ _).alloc nlr _
  have X := Blk.new w #[.int .i64 l, .slice p N cap] 40
  have hr1 := hr.below hba nlr
  clear eN hl hp
  go_enter Tryz.func50, Tryz.ntmps50
  go_wp2_with fail
  generalize (w.alloc (.cells #[.int .i64 l, .slice p N cap] 40)) = w1 at *
  have x1 : w1.cell? ⟨w.heap.size, 1, none⟩ = some (.slice p N cap) := X.cell 1
  go_loop [7, 8] (fun n i => BBetRel lo hi its n i) (fun _ i => N - (intOf i).toNat)
  case atStart => exact ⟨0, 0, rfl, rfl, Nat.zero_le _, by show _ = _; simp⟩
  case round =>
    obtain ⟨k, m, rfl, rfl, hk, hm⟩ := hrel
    rw [EN.out] at hk
    have hds := bet_le (lo := lo) (hi := hi) (drop_pos HP.out k)
    have hds2 := drop_sum HP.out k
    have hz := bet_le (lo := lo) (hi := hi) HP.out
    have hmm := hm.out
    have hm0 : -72057594037927936 ≤ m ∧ m ≤ 72057594037927935 := by omega
    obtain ⟨m0, m1⟩ := hm0
    clear hds hds2 hz hmm
    by_cases h1 : k < N
    · have hkx : k < its.length := by rw [EN.out]; exact h1
      obtain ⟨g, off, a, c, rfl, ex, hg, c1, c2⟩ := hr1.at hkx
      have hxm := getD_mem (d := ((0, 0) : Nd)) its k hkx
      rw [ex] at hxm
      have hcp := HP.out _ hxm
      have hle := Pos.le_sum HP.out _ hxm
      simp only at hcp hle
      have hs1 : m + (betF lo hi a c + betV lo hi (its.drop (k + 1))) = betV lo hi its := by
        have := hm.out; rw [drop_at (d := ((0, 0) : Nd)) its k hkx, ex] at this; exact this
      unfold betF at hs1
      by_cases hin : lo ≤ a ∧ a ≤ hi
      · rw [if_pos hin] at hs1
        obtain ⟨i1, i2⟩ := hin
        have hs2 : Hid ((m + c) + betV lo hi (its.drop (k + 1)) = betV lo hi its) := by show _ = _; omega
        clear hs1 hxm hm ex hr1
        go_wp2_with fail
        go_round
        case rel => exact ⟨k + 1, m + c, by go_num, rfl, by rw [EN.out]; omega, hs2⟩
        case measure => simp [intOf]; omega
      · rw [if_neg hin] at hs1
        have hs2 : Hid (m + betV lo hi (its.drop (k + 1)) = betV lo hi its) := by show _ = _; omega
        have hin' : a < lo ∨ (lo ≤ a ∧ hi < a) := by omega
        clear hs1 hxm hm ex hr1 hin
        rcases hin' with i1 | ⟨i1, i2⟩
        all_goals
          go_wp2_with fail
          go_round
          case rel => exact ⟨k + 1, m, by go_num, rfl, by rw [EN.out]; omega, hs2⟩
          case measure => simp [intOf]; omega
    · have hx : Hid (m = betV lo hi its) := by
        show _ = _; have := hm.out; rw [List.drop_eq_nil_of_le (by rw [EN.out]; omega)] at this; simpa [betV, gsum] using this
      go_wp2_with fail
      go_ret
      exact ⟨ret_int hx.out, hba⟩
def BPutI (its : List Nd) (x c : Int) (k : Nat) (zs : List Nd) (b : Bool) : Prop := if b then zs ++ its.drop k = putR x c its ∧ ∀ y ∈ its.drop k, x < y.1 else zs ++ putR x c (its.drop k) = putR x c its
def BPutRel (B : Nat) (w2 : World) (its : List Nd) (x c : Int) (out done i : Value) (wr : World) : Prop :=
  ∃ (k : Nat) (zs : List Nd) (b : Bool), i = .int .i64 k ∧ k ≤ its.length ∧ done = .bool b ∧ OwnR wr B out zs ∧ zs.length ≤ 2 * k ∧ Below B w2 wr ∧ Hid (BPutI its x c k zs b)
def BagOut (l : Int) (its : List Nd) (w : World) (e : Ending) (w' : World) : Prop :=
  ∃ v, e = .returned (.agg #[.int .i64 l, v]) ∧ OwnR w' w.heap.size v its ∧ Below w.heap.size w w'
theorem Nl.put_eq {its : List (Int × Int)} {x c a d : Int} {k : Nat} {zs : List (Int × Int)} (hr : its.Pairwise (fun a b => a.1 < b.1)) (hk : k < its.length) (ex : its.getD k (0, 0) = (a, d)) (h : BPutI its x c k zs false) (ha : a = x) : BPutI its x c (k + 1) (zs ++ [(a, d + c)]) true := by
  have e := drop_at (d := ((0, 0) : Int × Int)) its k hk
  rw [ex] at e
  have hp := hr.sublist (List.drop_sublist k its)
  rw [e] at hp
  have h1 := (List.pairwise_cons.1 hp).1
  unfold BPutI at h ⊢
  simp only [if_true, Bool.false_eq_true, if_false] at h ⊢
  rw [e] at h
  simp only [putR, if_pos ha] at h
  subst ha
  exact ⟨by simpa using h, h1⟩
theorem Nl.put_gt {its : List (Int × Int)} {x c a d : Int} {k : Nat} {zs : List (Int × Int)} (hr : its.Pairwise (fun a b => a.1 < b.1)) (hk : k < its.length) (ex : its.getD k (0, 0) = (a, d)) (h : BPutI its x c k zs false) (ha : x < a) : BPutI its x c (k + 1) (zs ++ [(x, c)] ++ [(a, d)]) true := by
  have e := drop_at (d := ((0, 0) : Int × Int)) its k hk
  rw [ex] at e
  have hp := hr.sublist (List.drop_sublist k its)
  rw [e] at hp
  have h1 := (List.pairwise_cons.1 hp).1
  unfold BPutI at h ⊢
  simp only [if_true, Bool.false_eq_true, if_false] at h ⊢
  rw [e] at h
  simp only [putR, if_neg (show ¬ a = x by omega), if_pos ha] at h
  exact ⟨by simpa using h, fun y hy => by have := h1 y hy; simp only at this; omega⟩
theorem Nl.put_lt {its : List (Int × Int)} {x c a d : Int} {k : Nat} {zs : List (Int × Int)} (hk : k < its.length) (ex : its.getD k (0, 0) = (a, d)) (h : BPutI its x c k zs false) (ha : a < x) : BPutI its x c (k + 1) (zs ++ [(a, d)]) false := by
  have e := drop_at (d := ((0, 0) : Int × Int)) its k hk
  rw [ex] at e
  unfold BPutI at h ⊢
  simp only [Bool.false_eq_true, if_false] at h ⊢
  rw [e] at h
  simp only [putR, if_neg (show ¬ a = x by omega), if_neg (show ¬ x < a by omega)] at h
  simpa using h
theorem Nl.put_rest {its : List (Int × Int)} {x c a d : Int} {k : Nat} {zs : List (Int × Int)} (hk : k < its.length) (ex : its.getD k (0, 0) = (a, d)) (h : BPutI its x c k zs true) : BPutI its x c (k + 1) (zs ++ [(a, d)]) true ∧ x < a := by
  have e := drop_at (d := ((0, 0) : Int × Int)) its k hk
  rw [ex] at e
  unfold BPutI at h ⊢
  simp only [if_true] at h ⊢
  rw [e] at h
  exact ⟨⟨by simpa using h.1, fun y hy => h.2 y (List.mem_cons_of_mem _ hy)⟩, h.2 _ (List.mem_cons_self ..)⟩
theorem Nl.put_end {its : List (Int × Int)} {x c : Int} {k : Nat} {zs : List (Int × Int)} {b : Bool} (hk : ¬ k < its.length) (h : BPutI its x c k zs b) : (if b then zs else zs ++ [(x, c)]) = putR x c its := by
  unfold BPutI at h
  rw [List.drop_eq_nil_of_le (by omega)] at h
  cases b
  · simpa [putR] using h
  · simpa using h.1
theorem b_put {w : World} {its : List Nd} {v : Value} (l x c : Int) (hr : RdN w v its) (hl : its.length ≤ 90000) (hp : Pos its) (hrise : its.Pairwise (fun a b => a.1 < b.1)) (hs : sumL its ≤ 72057594037927935) (hc : 0 ≤ c ∧ c ≤ 72057594037927935) :
    Calls Tryz.prog 36 #[.agg #[.int .i64 l, v], .int .i64 x, .int .i64 c] w (BagOut l (putR x c its) w) := by
  obtain ⟨c0, c1⟩ := hc
  obtain ⟨p, cap, rfl⟩ := hr.val
  obtain ⟨N, eN⟩ : ∃ N, its.length = N := ⟨_, rfl⟩
  rw [eN] at hr ⊢
  have EN := hid eN
  have hN : N ≤ 90000 := by omega
  have HP := hid hp
  have HR := hid hrise
  have hba : Below w.heap.size w ((w.alloc (.cells #[.int .i64 l, .slice p N cap] 40)).alloc (.cells #[.int .i64 0, .slice none 0 0] 40)) := ((Below.refl _ _).alloc nlr _).alloc (by simp) _
  have X := (Blk.new w #[.int .i64 l, .slice p N cap] 40).alloc (.cells #[.int .i64 0, .slice none 0 0] 40)
  have Y : Blk ((w.alloc (.cells #[.int .i64 l, .slice p N cap] 40)).alloc (.cells #[.int .i64 0, .slice none 0 0] 40)) (w.heap.size + 1) #[.int .i64 0, .slice none 0 0] 40 := by
    have h := Blk.new (w.alloc (.cells #[.int .i64 l, .slice p N cap] 40)) #[.int .i64 0, .slice none 0 0] 40
    simpa using h
  have hsx : ((w.alloc (.cells #[.int .i64 l, .slice p N cap] 40)).alloc (.cells #[.int .i64 0, .slice none 0 0] 40)).heap.size = w.heap.size + 2 := by simp
  have R0 : Hid (BPutI its x c 0 [] false) := by show BPutI its x c 0 [] false; unfold BPutI; simp
  clear eN hl hp hrise
  go_enter Tryz.func36, Tryz.ntmps36
  go_wp2_with fail
  generalize ((w.alloc (.cells #[.int .i64 l, .slice p N cap] 40)).alloc (.cells #[.int .i64 0, .slice none 0 0] 40)) = w2 at *
  have hr1 := hr.below hba nlr
  go_loopw [7, 8, 9] (fun out done i wr => BPutRel (w.heap.size + 2) w2 its x c out done i wr) (fun _ _ i _ => N - (intOf i).toNat)
  case atStart => exact ⟨0, [], false, rfl, Nat.zero_le _, rfl, OwnR.nil _ _, by simp, Below.refl _ _, R0.out⟩
  case round =>
    obtain ⟨k, zs, b, rfl, hk, rfl, hown, hzl, hbl, hI⟩ := hrel
    rw [EN.out] at hk
    have hwr := hbl.size
    have X2 := X.below' hbl (by omega)
    have x1 : wr.cell? ⟨w.heap.size, 1, none⟩ = some (.slice p N cap) := X2.cell 1
    obtain ⟨pz, capz, rfl⟩ := hown.val
    by_cases h1 : k < N
    · have hkx : k < its.length := by rw [EN.out]; exact h1
      have hr2 : RdN wr (.slice p N cap) its := hr1.below hbl (by omega)
      obtain ⟨g, off, a, d, rfl, ex, hg, q1, q2⟩ := hr2.at hkx
      have hxm := getD_mem (d := ((0, 0) : Nd)) its k hkx
      rw [ex] at hxm
      have hcp := HP.out _ hxm
      have hle := Pos.le_sum HP.out _ hxm
      simp only at hcp hle
      have hba2 : Below wr.heap.size wr (wr.alloc (.cells #[.int .i64 a, .int .i64 d] 101)) := (Below.refl _ _).alloc nlr _
      have hown2 := hown.below hba2 nlr
      have hbl2 := hbl.trans (hba2.mono (by omega))
      have Ex := hid ex
      clear hr2 ex hxm hr1 hr
      cases b
      · by_cases h2 : a = x
        · have hI2 := hid (put_eq HR.out hkx Ex.out hI.out h2)
          have hq : (a == x) = true := by simpa using h2
          clear h2 hI
          have hown3 := hown.alloc (.cells #[.int .i64 a, .int .i64 (d + c)] 101)
          have hbl3 := hbl.trans (((Below.refl wr.heap.size wr).alloc nlr (.cells #[.int .i64 a, .int .i64 (d + c)] 101)).mono (by omega))
          as_aux_lemma =>
            go_wp2_with (at_builtin; refine appendR (wr := wr.alloc (.cells #[.int .i64 a, .int .i64 (d + c)] 101)) (b := a) (c := d + c) _ _ hown3 (by omega) (by simp; omega) rfl rfl rfl rfl (by simp [go_sem]) ?_; intro v3 w3 ho3 hg3 hnn)
            go_roundw
            case rel => exact ⟨k + 1, _, true, by go_num, by rw [EN.out]; omega, rfl, ho3, by simp; omega, hbl3.trans (below_grown hg3 (by simp; omega) hown3.lt), hI2⟩
            case measure => simp [intOf]; omega
        · have hq : (a == x) = false := by simpa using h2
          by_cases h3 : x < a
          · have hI2 := hid (put_gt HR.out hkx Ex.out hI.out h3)
            clear h2 hI
            have O2 := Blk.new wr #[.int .i64 a, .int .i64 d] 101
            as_aux_lemma =>
              go_wp2_with (first
                | (at_builtin; refine appendR (wr := wr.alloc (.cells #[.int .i64 a, .int .i64 d] 101)) (b := x) (c := c) _ _ hown2 (by omega) (by simp; omega) rfl rfl rfl rfl (by simp [go_sem]) ?_; intro v3 w3 ho3 hg3 hnn
                   have hs3 : wr.heap.size + 1 ≤ w3.heap.size := by have := hg3.size; simpa using this
                   have hbl3 := hbl2.trans (below_grown hg3 (by simp; omega) hown2.lt)
                   have O3 := O2.keep (hg3.block _ O2.lt (fun e => by have := hown.lt' _ e.symm; omega))
                   have z0 : w3.cell? ⟨wr.heap.size, 0, none⟩ = some (.int .i64 a) := O3.cell 0
                   have z1 : w3.cell? ⟨wr.heap.size, 1, none⟩ = some (.int .i64 d) := O3.cell 1)
                | (at_builtin; refine appendR (wr := w3) (b := a) (c := d) _ _ ho3 (by simp; omega) (by omega) rfl rfl rfl rfl rfl ?_; intro v4 w4 ho4 hg4 hnn4))
              go_roundw
              case rel => exact ⟨k + 1, _, true, by go_num, by rw [EN.out]; omega, rfl, ho4, by simp; omega, hbl3.trans (below_grown hg4 (by omega) ho3.lt), hI2⟩
              case measure => simp [intOf]; omega
          · have hI2 := hid (put_lt hkx Ex.out hI.out (by omega))
            have h3' : a < x := by omega
            clear h2 hI h3
            as_aux_lemma =>
              go_wp2_with (at_builtin; refine appendR (wr := wr.alloc (.cells #[.int .i64 a, .int .i64 d] 101)) (b := a) (c := d) _ _ hown2 (by omega) (by simp; omega) rfl rfl rfl rfl (by simp [go_sem]) ?_; intro v3 w3 ho3 hg3 hnn)
              go_roundw
              case rel => exact ⟨k + 1, _, false, by go_num, by rw [EN.out]; omega, rfl, ho3, by simp; omega, hbl2.trans (below_grown hg3 (by simp; omega) hown2.lt), hI2⟩
              case measure => simp [intOf]; omega
      · obtain ⟨hI2, h3⟩ := put_rest hkx Ex.out hI.out
        have HI2 := hid hI2
        have hq : (a == x) = false := by simp; omega
        clear hI hI2
        as_aux_lemma =>
          go_wp2_with (at_builtin; refine appendR (wr := wr.alloc (.cells #[.int .i64 a, .int .i64 d] 101)) (b := a) (c := d) _ _ hown2 (by omega) (by simp; omega) rfl rfl rfl rfl (by simp [go_sem]) ?_; intro v3 w3 ho3 hg3 hnn)
          go_roundw
          case rel => exact ⟨k + 1, _, true, by go_num, by rw [EN.out]; omega, rfl, ho3, by simp; omega, hbl2.trans (below_grown hg3 (by simp; omega) hown2.lt), HI2⟩
          case measure => simp [intOf]; omega
    · have he := hid (put_end (by rw [EN.out]; exact h1) hI.out)
      have Y2 := Y.below' hbl (by omega)
      have x0 : wr.cell? ⟨w.heap.size, 0, none⟩ = some (.int .i64 l) := X2.cell 0
      clear hI hr1 hr
      cases b
      · have he2 : Hid (zs ++ [(x, c)] = putR x c its) := he.out
        clear he
        go_wp2_with (first
          | (at_builtin; refine appendR (wr := wr) (b := x) (c := c) _ _ hown (by omega) (by omega) rfl rfl rfl rfl rfl ?_; intro v3 w3 ho3 hg3 hnn
             have hs3 := hg3.size
             have X3 := X2.grown hg3 hown.lt (by omega)
             have Y3 := Y2.grown hg3 hown.lt (by omega)
             have x03 : w3.cell? ⟨w.heap.size, 0, none⟩ = some (.int .i64 l) := X3.cell 0
             have f0 := Y3.free 0
             have f1 := Y3.free 1
             have y0 : w3.cell? ⟨w.heap.size + 1, 0, none⟩ = some (.int .i64 0) := Y3.cell 0
             have y1 : w3.cell? ⟨w.heap.size + 1, 1, none⟩ = some (.slice none 0 0) := Y3.cell 1
             have hl1 : w.heap.size < w3.heap.size := by omega
             have hl2 : w.heap.size + 1 < w3.heap.size := by omega
             obtain ⟨zs3, ez3⟩ : ∃ z, zs ++ [(x, c)] = z := ⟨_, rfl⟩
             rw [ez3] at ho3
             have Ez3 := hid ez3
             clear ez3
             obtain ⟨p3, cap3, rfl⟩ := ho3.val))
        have Z := (Y3.set 0 (.int .i64 l)).set 1 (.slice p3 zs3.length cap3)
        have z0 : World.cell? _ ⟨w.heap.size + 1, 0, none⟩ = some (.int .i64 l) := Z.cell 0
        have z1 : World.cell? _ ⟨w.heap.size + 1, 1, none⟩ = some (.slice p3 zs3.length cap3) := Z.cell 1
        have hbv := hba.trans ((hbl.trans (below_grown hg3 (by omega) hown.lt)).mono (by omega))
        have hbz := (hbv.setCell (p := ⟨w.heap.size + 1, 0, none⟩) (Nat.le_succ _) (.int .i64 l)).setCell (p := ⟨w.heap.size + 1, 1, none⟩) (Nat.le_succ _) (.slice p3 zs3.length cap3)
        refine bodyPost_ret (v := .agg #[.int .i64 l, .slice p3 zs3.length cap3]) (by simp [results, Tryz.results36, go_sem, z0, z1]) rfl ⟨_, rfl, ?_, hbz⟩
        have ho5 := ho3.keep (w' := (w3.setCell ⟨w.heap.size + 1, 0, none⟩ (.int .i64 l)).setCell ⟨w.heap.size + 1, 1, none⟩ (.slice p3 zs3.length cap3)) (fun j hj => by
          have h := ho3.lt j hj
          rw [Below.heap_setCell _ _ _ _ (by show j ≠ w.heap.size + 1; omega), Below.heap_setCell _ _ _ _ (by show j ≠ w.heap.size + 1; omega)])
        rw [show zs3 = putR x c its from Ez3.out.symm.trans he2.out] at ho5 ⊢
        exact ho5.mono (by omega)
      · have he2 : Hid (zs = putR x c its) := he.out
        clear he
        have f0 := Y2.free 0
        have f1 := Y2.free 1
        have y0 : wr.cell? ⟨w.heap.size + 1, 0, none⟩ = some (.int .i64 0) := Y2.cell 0
        have y1 : wr.cell? ⟨w.heap.size + 1, 1, none⟩ = some (.slice none 0 0) := Y2.cell 1
        have hl1 : w.heap.size < wr.heap.size := by omega
        have hl2 : w.heap.size + 1 < wr.heap.size := by omega
        go_wp2_with fail
        have Z := (Y2.set 0 (.int .i64 l)).set 1 (.slice pz zs.length capz)
        have z0 : World.cell? _ ⟨w.heap.size + 1, 0, none⟩ = some (.int .i64 l) := Z.cell 0
        have z1 : World.cell? _ ⟨w.heap.size + 1, 1, none⟩ = some (.slice pz zs.length capz) := Z.cell 1
        have hbv := hba.trans (hbl.mono (by omega))
        have hbz := (hbv.setCell (p := ⟨w.heap.size + 1, 0, none⟩) (Nat.le_succ _) (.int .i64 l)).setCell (p := ⟨w.heap.size + 1, 1, none⟩) (Nat.le_succ _) (.slice pz zs.length capz)
        refine bodyPost_ret (v := .agg #[.int .i64 l, .slice pz zs.length capz]) (by simp [results, Tryz.results36, go_sem, z0, z1]) rfl ⟨_, rfl, ?_, hbz⟩
        have ho5 := hown.keep (w' := (wr.setCell ⟨w.heap.size + 1, 0, none⟩ (.int .i64 l)).setCell ⟨w.heap.size + 1, 1, none⟩ (.slice pz zs.length capz)) (fun j hj => by
          have h := hown.lt j hj
          rw [Below.heap_setCell _ _ _ _ (by show j ≠ w.heap.size + 1; omega), Below.heap_setCell _ _ _ _ (by show j ≠ w.heap.size + 1; omega)])
        rw [he2.out] at ho5 ⊢
        exact ho5.mono (by omega)
end Go.Proofs.YtdnlejboijkcfaaGreatDoor
/- The walks of the reference's Add of a bag, of Ends, and of Above. -/
namespace Go.Proofs.YtdnlejboijkcfaaGreatDoor
set_option maxHeartbeats 8000000
set_option maxRecDepth 100000
open Go.RowKit Nl
def BAddPost (l : Int) (r : List Nd × Int) (v0 : Value) (w : World) (e : Ending) (w' : World) : Prop :=
  ∃ v, e = .returned (.tuple #[.agg #[.int .i64 l, v], .int .i64 r.2]) ∧ RdN w' v r.1 ∧ (v = v0 ∨ ∀ k, v.ownBlock = some k → w.heap.size ≤ k) ∧ Below w.heap.size w w'
theorem b_add {w : World} {its : List Nd} {v : Value} (l x c : Int) (hr : RdN w v its) (hl : its.length ≤ 90000) (hb : Bag l its) (l1 : 1 ≤ l) (l2 : l ≤ 48) (bx : In64 x) (bc : In64 c) :
    Calls Tryz.prog 9 #[.agg #[.int .i64 l, v], .int .i64 x, .int .i64 c] w (BAddPost l (badd l its x c) v w) := by
  obtain ⟨x1, x2⟩ := bx
  obtain ⟨c1, c2⟩ := bc
  obtain ⟨p, cap, rfl⟩ := hr.val
  have Tt := hid (fun W (q : RdN W (.slice p its.length cap) its) => b_total l q hl hb.pos' hb.most)
  have hs0 := sumL_nonneg hb.pos'
  have hsm := hb.most
  obtain ⟨s, es⟩ : ∃ s, sumL its = s := ⟨_, rfl⟩
  have HB : Hid (badd l its x c = if leafB l x = false then (its, 3) else if c < 1 then (its, 4) else if 72057594037927935 - s < c then (its, 5) else (putR x c its, 0)) := by show _ = _; unfold badd; rw [es]
  have Pt := hid (fun W (q : RdN W (.slice p its.length cap) its) (h1 : 1 ≤ c) (h2 : s + c ≤ 72057594037927935) => b_put l x c q hl hb.pos' hb.rise hb.most ⟨by omega, by omega⟩)
  rw [es] at Tt hs0 hsm
  obtain ⟨P, eP⟩ : ∃ P, (2 : Int) ^ l.toNat = P := ⟨_, rfl⟩
  have hlf : leafB l x = decide (0 ≤ x ∧ x < P) := by
    unfold leafB; rw [eP]
    by_cases h : 0 ≤ x ∧ x < P
    · simp [h, l1, l2]
    · rw [decide_eq_false h]; exact decide_eq_false (fun q => h ⟨q.2.2.1, q.2.2.2⟩)
  have hPb : 1 ≤ P ∧ P ≤ 281474976710656 := by
    obtain ⟨n, rfl⟩ := Int.eq_ofNat_of_zero_le (show 0 ≤ l by omega)
    rw [← eP]; exact pow48 (by omega)
  have Pw := hid (fun W : World => r_power l W (by omega) l2)
  rw [eP] at Pw
  obtain ⟨N, eN⟩ : ∃ N, its.length = N := ⟨_, rfl⟩
  rw [eN] at hr Tt Pt ⊢
  have EN := hid eN
  clear hb eP es eN
  by_cases h1 : 0 ≤ x ∧ x < P
  · have hlf2 : leafB l x = true := by rw [hlf]; simpa using h1
    obtain ⟨h1, h2⟩ := h1
    rw [hlf2] at HB
    clear hlf hlf2
    by_cases h3 : c < 1
    · rw [show badd l its x c = (its, 4) by rw [HB.out]; simp [h3]]
      clear HB
      go_enter Tryz.func9, Tryz.ntmps9
      go_wp2_with fail
      refine (Pw.out _).mono ?_
      rintro e w' ⟨rfl, rfl⟩
      go_wp2_with fail
      exact bodyPost_ret (v := .tuple #[.agg #[.int .i64 l, .slice p N cap], .int .i64 4]) (by simp [results, Tryz.results9, go_sem]) rfl ⟨_, rfl, hr.below (((Below.refl _ _).alloc nlr _).alloc (by simp) _) nlr, .inl rfl, ((Below.refl _ _).alloc nlr _).alloc (by simp) _⟩
    · have X := (Blk.new w #[.int .i64 l, .slice p N cap] 40).alloc (.cells #[.int .i64 0, .slice none 0 0] 40)
      have Y : Blk ((w.alloc (.cells #[.int .i64 l, .slice p N cap] 40)).alloc (.cells #[.int .i64 0, .slice none 0 0] 40)) (w.heap.size + 1) #[.int .i64 0, .slice none 0 0] 40 := by
        have h := Blk.new (w.alloc (.cells #[.int .i64 l, .slice p N cap] 40)) #[.int .i64 0, .slice none 0 0] 40
        simpa using h
      have hba : Below w.heap.size w ((w.alloc (.cells #[.int .i64 l, .slice p N cap] 40)).alloc (.cells #[.int .i64 0, .slice none 0 0] 40)) := ((Below.refl _ _).alloc nlr _).alloc (by simp) _
      have hsx : ((w.alloc (.cells #[.int .i64 l, .slice p N cap] 40)).alloc (.cells #[.int .i64 0, .slice none 0 0] 40)).heap.size = w.heap.size + 2 := by simp
      have hr1 := hr.below hba nlr
      by_cases h4 : 72057594037927935 - s < c
      · rw [show badd l its x c = (its, 5) by rw [HB.out]; simp [h3, h4]]
        clear HB Pt
        go_enter Tryz.func9, Tryz.ntmps9
        go_wp2_with fail
        refine (Pw.out _).mono ?_
        rintro e w' ⟨rfl, rfl⟩
        go_wp2_with fail
        refine (Tt.out _ hr1).mono ?_
        rintro e w1 ⟨rfl, hb1⟩
        have hs1 := hb1.size
        have hw1 : w.heap.size < w1.heap.size := by omega
        have hw2 : w.heap.size + 1 < w1.heap.size := by omega
        have X1 := X.below hb1 nlr
        have Y1 := Y.below hb1 nlr
        have hx0 : w1.cell? ⟨w.heap.size, 0, none⟩ = some (.int .i64 l) := X1.cell 0
        have hx1 : w1.cell? ⟨w.heap.size, 1, none⟩ = some (.slice p N cap) := X1.cell 1
        have hy0 : w1.cell? ⟨w.heap.size + 1, 0, none⟩ = some (.int .i64 0) := Y1.cell 0
        have hy1 : w1.cell? ⟨w.heap.size + 1, 1, none⟩ = some (.slice none 0 0) := Y1.cell 1
        have hf0 := X1.free 0
        have hf1 := X1.free 1
        have hg0 := Y1.free 0
        have hg1 := Y1.free 1
        have hbw : Below w.heap.size w w1 := hba.trans (hb1.mono (by omega))
        go_wp2_with fail
        have Z := (Y1.set 0 (.int .i64 l)).set 1 (.slice p N cap)
        have z0 : World.cell? _ ⟨w.heap.size + 1, 0, none⟩ = some (.int .i64 l) := Z.cell 0
        have z1 : World.cell? _ ⟨w.heap.size + 1, 1, none⟩ = some (.slice p N cap) := Z.cell 1
        have hbz := (hbw.setCell (p := ⟨w.heap.size + 1, 0, none⟩) (Nat.le_succ _) (.int .i64 l)).setCell (p := ⟨w.heap.size + 1, 1, none⟩) (Nat.le_succ _) (.slice p N cap)
        exact bodyPost_ret (v := .tuple #[.agg #[.int .i64 l, .slice p N cap], .int .i64 5]) (by simp [results, Tryz.results9, go_sem, z0, z1]) rfl ⟨_, rfl, hr.below hbz nlr, .inl rfl, hbz⟩
      · rw [show badd l its x c = (putR x c its, 0) by rw [HB.out]; simp [h3, h4]]
        clear HB
        have Pt2 := hid (fun W q => Pt.out W q (by omega) (by omega))
        clear Pt
        go_enter Tryz.func9, Tryz.ntmps9
        go_wp2_with fail
        refine (Pw.out _).mono ?_
        rintro e w' ⟨rfl, rfl⟩
        go_wp2_with fail
        refine (Tt.out _ hr1).mono ?_
        rintro e w1 ⟨rfl, hb1⟩
        have hs1 := hb1.size
        have hw1 : w.heap.size < w1.heap.size := by omega
        have X1 := X.below hb1 nlr
        have Y1 := Y.below hb1 nlr
        have hx0 : w1.cell? ⟨w.heap.size, 0, none⟩ = some (.int .i64 l) := X1.cell 0
        have hx1 : w1.cell? ⟨w.heap.size, 1, none⟩ = some (.slice p N cap) := X1.cell 1
        have hf0 := X1.free 0
        have hf1 := X1.free 1
        have hbw : Below w.heap.size w w1 := hba.trans (hb1.mono (by omega))
        have hr2 := hr1.below hb1 nlr
        go_wp2_with fail
        refine (Pt2.out _ hr2).mono ?_
        rintro e w2 ⟨v2, rfl, ho2, hb2⟩
        obtain ⟨zs, ez⟩ : ∃ zs, putR x c its = zs := ⟨_, rfl⟩
        rw [ez] at ho2
        have Ez := hid ez
        clear ez hx0 hx1 hf0 hf1
        obtain ⟨p2, cap2, rfl⟩ := ho2.val
        have hs2 := hb2.size
        have hw1 : w.heap.size < w2.heap.size := by omega
        have hw2 : w.heap.size + 1 < w2.heap.size := by omega
        have Y2 := Y1.below hb2 nlr
        have hy0 : w2.cell? ⟨w.heap.size + 1, 0, none⟩ = some (.int .i64 0) := Y2.cell 0
        have hy1 : w2.cell? ⟨w.heap.size + 1, 1, none⟩ = some (.slice none 0 0) := Y2.cell 1
        have hg0 := Y2.free 0
        have hg1 := Y2.free 1
        have hbw2 : Below w.heap.size w w2 := hbw.trans (hb2.mono (by omega))
        go_wp2_with fail
        have Z := (Y2.set 0 (.int .i64 l)).set 1 (.slice p2 zs.length cap2)
        have z0 : World.cell? _ ⟨w.heap.size + 1, 0, none⟩ = some (.int .i64 l) := Z.cell 0
        have z1 : World.cell? _ ⟨w.heap.size + 1, 1, none⟩ = some (.slice p2 zs.length cap2) := Z.cell 1
        have hbz := (hbw2.setCell (p := ⟨w.heap.size + 1, 0, none⟩) (Nat.le_succ _) (.int .i64 l)).setCell (p := ⟨w.heap.size + 1, 1, none⟩) (Nat.le_succ _) (.slice p2 zs.length cap2)
        refine bodyPost_ret (v := .tuple #[.agg #[.int .i64 l, .slice p2 zs.length cap2], .int .i64 0]) (by simp [results, Tryz.results9, go_sem, z0, z1]) rfl ⟨_, rfl, ?_, .inr (fun j hj => by have := ho2.lt j hj; omega), hbz⟩
        have ho5 := ho2.keep (w' := (w2.setCell ⟨w.heap.size + 1, 0, none⟩ (.int .i64 l)).setCell ⟨w.heap.size + 1, 1, none⟩ (.slice p2 zs.length cap2)) (fun j hj => by
          have h := ho2.lt j hj
          rw [Below.heap_setCell _ _ _ _ (by show j ≠ w.heap.size + 1; omega), Below.heap_setCell _ _ _ _ (by show j ≠ w.heap.size + 1; omega)])
        show RdN _ _ (putR x c its)
        rw [Ez.out]
        exact ho5.rd
  · have hlf2 : leafB l x = false := by rw [hlf]; simpa using h1
    rw [show badd l its x c = (its, 3) by rw [HB.out, hlf2]; rfl]
    have hc2 : x < 0 ∨ (0 ≤ x ∧ P ≤ x) := by omega
    clear HB hlf hlf2 h1
    rcases hc2 with h1 | ⟨h1, h2⟩
    · go_enter Tryz.func9, Tryz.ntmps9
      go_wp2_with fail
      exact bodyPost_ret (v := .tuple #[.agg #[.int .i64 l, .slice p N cap], .int .i64 3]) (by simp [results, Tryz.results9, go_sem]) rfl ⟨_, rfl, hr.below (((Below.refl _ _).alloc nlr _).alloc (by simp) _) nlr, .inl rfl, ((Below.refl _ _).alloc nlr _).alloc (by simp) _⟩
    · go_enter Tryz.func9, Tryz.ntmps9
      go_wp2_with fail
      refine (Pw.out _).mono ?_
      rintro e w' ⟨rfl, rfl⟩
      go_wp2_with fail
      exact bodyPost_ret (v := .tuple #[.agg #[.int .i64 l, .slice p N cap], .int .i64 3]) (by simp [results, Tryz.results9, go_sem]) rfl ⟨_, rfl, hr.below (((Below.refl _ _).alloc nlr _).alloc (by simp) _) nlr, .inl rfl, ((Below.refl _ _).alloc nlr _).alloc (by simp) _⟩
end Go.Proofs.YtdnlejboijkcfaaGreatDoor
/- The ends of a node: plain, and the walk of the reference's Ends and of Above over nodes. -/
namespace Go.Proofs.YtdnlejboijkcfaaGreatDoor
set_option maxHeartbeats 8000000
set_option maxRecDepth 100000
open Go.RowKit Nl
namespace Nl
def depN (id : Int) : Nat := (depV id).toNat
def endsLo (l id : Int) : Int := id * 2 ^ (l.toNat - depN id) - 2 ^ l.toNat
def endsHi (l id : Int) : Int := (id + 1) * 2 ^ (l.toNat - depN id) - 1 - 2 ^ l.toNat
theorem dep_pow {i : Nat} (h : 1 ≤ i) : depV (i : Int) = (depN (i : Int) : Int) ∧ 2 ^ depN (i : Int) ≤ i ∧ i < 2 ^ (depN (i : Int) + 1) := by
  obtain ⟨b1, b2⟩ := bitLen_spec i
  have b2 := b2 (by omega)
  have hb : bitLen i ≠ 0 := fun e => by rw [e] at b1; simp at b1; omega
  have e : depV (i : Int) = ((bitLen i - 1 : Nat) : Int) := by
    have hok : depOk (i : Int) = true := decide_eq_true (by omega)
    unfold depV; rw [hok]; simp only [if_true, Int.toNat_natCast]; omega
  have e2 : depN (i : Int) = bitLen i - 1 := by unfold depN; rw [e]; simp
  rw [e2]
  refine ⟨e, b2, ?_⟩
  rw [show bitLen i - 1 + 1 = bitLen i by omega]; exact b1
theorem right_dep {l : Int} {i : Nat} (hr : rightB l (i : Int) = true) : 1 ≤ i ∧ 1 ≤ l ∧ l ≤ 48 ∧ depN (i : Int) ≤ l.toNat ∧ 2 ^ depN (i : Int) ≤ i ∧ i < 2 ^ (depN (i : Int) + 1) := by
  have hr' := hr
  simp only [rightB, decide_eq_true_eq] at hr'
  obtain ⟨l1, l2, h1, h2⟩ := hr'
  obtain ⟨d1, d2, d3⟩ := dep_pow (i := i) (by omega)
  have e := rightB_dep (id := (i : Int)) ⟨l1, l2⟩ h1
  rw [hr] at e
  have := of_decide_eq_true e.symm
  exact ⟨by omega, l1, l2, by omega, d2, d3⟩
end Nl
end Go.Proofs.YtdnlejboijkcfaaGreatDoor
/- The walk of the reference's Above over nodes. -/
namespace Go.Proofs.YtdnlejboijkcfaaGreatDoor
set_option maxHeartbeats 8000000
set_option maxRecDepth 100000
open Go.RowKit Nl
end Go.Proofs.YtdnlejboijkcfaaGreatDoor
