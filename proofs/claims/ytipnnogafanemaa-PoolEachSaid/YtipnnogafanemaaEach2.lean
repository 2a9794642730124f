/- The walk of PoolEach. -/
import Derived.Test.YtipnnogafanemaaEach1
import Derived.Test.YtipnnogafanemaaPool8
import Derived.Test.YtipnnogafanemaaOpenSteps
namespace Go.Proofs.Ytipnnogafanemaa
open Go.RowKit Nl

attribute [local go_sem] Oper.semAt_some

/-- The last that came is not what should have come. -/
def Odd (xs : List Nd) (pre : List N64) : Prop := ∃ ini x, pre = ini ++ [x] ∧ x.1 ≠ xs.getD ini.length (0, 0)

set_option maxRecDepth 100000 in
set_option maxHeartbeats 4000000 in
theorem PoolEach_walk (kind l : Int) (v : Value) (xs : List Nd) (w : World) (_hk0 : -9223372036854775808 ≤ kind) (_hk1 : kind ≤ 9223372036854775807) (hl : -9223372036854775808 ≤ l) (hl1 : l ≤ 9223372036854775807) (ho : RdStep w v xs) :
    Calls Try.prog 4 #[.int .i64 kind, .int .i64 l, v] w fun e w' => e = .returned (.bool true) ∧ Below w.heap.size w w' := by
  obtain ⟨v0, most, rfl, ⟨hr, hn, hlen⟩, bm⟩ := ho
  obtain ⟨p, cap, rfl⟩ := hr.val
  have X := (Blk.new w #[.slice p xs.length cap, .int .i64 most] 42).alloc (.cells #[.bool false] 4)
  have R := Blk.new (w.alloc (.cells #[.slice p xs.length cap, .int .i64 most] 42)) #[.bool false] 4
  have hb0 : Below w.heap.size w ((w.alloc (.cells #[.slice p xs.length cap, .int .i64 most] 42)).alloc (.cells #[.bool false] 4)) := ((Below.refl _ _).alloc (Nat.le_refl _) _).alloc (by simp) _
  have hs0 : ((w.alloc (.cells #[.slice p xs.length cap, .int .i64 most] 42)).alloc (.cells #[.bool false] 4)).heap.size = w.heap.size + 2 := by simp
  rw [World.size_alloc] at R
  have A := hid (fun W : World => p9_alive W)
  have E := hid (fun W : World => fun q : Option Addr => pl_each q W)
  refine (callsIn_wide (n := 5)).1 ?_
  refine callsIn_of_wp_marks Try.func4 rfl trivial ?_ rfl
  simp only [Try.ntmps4, List.size_toArray, List.length_cons, List.length_nil, Nat.reduceAdd, Nat.reduceSub, Array.replicate_succ, Array.replicate_zero, List.push_toArray, List.append_toArray, List.nil_append, List.cons_append]
  by_cases h1 : 60 < xs.length
  · gi_wp2_with (refine ⟨trivial, ?_⟩; gi_at_call 22; refine (callsIn_wide.2 (A.out _)).mono ?_; rintro e W1 ⟨rfl, hb1⟩; have R1 := R.below hb1 (Nat.le_refl _); have c1 : W1.cell? ⟨w.heap.size + 1, 0, none⟩ = some (.bool false) := R1.cell 0; have f1 := R1.free 0)
    have c5 := World.cell?_setCell_same' W1 ⟨w.heap.size + 1, 0, none⟩ (.bool true) (by rw [c1]; rfl)
    exact ⟨_, by simp [results, Try.f4, go_sem, c5], rfl, (hb0.trans (hb1.mono (by omega))).setCell (p := ⟨w.heap.size + 1, 0, none⟩) (by simp) _⟩
  by_cases h2 : 12 < l
  · gi_wp2_with (refine ⟨trivial, ?_⟩; gi_at_call 22; refine (callsIn_wide.2 (A.out _)).mono ?_; rintro e W1 ⟨rfl, hb1⟩; have R1 := R.below hb1 (Nat.le_refl _); have c1 : W1.cell? ⟨w.heap.size + 1, 0, none⟩ = some (.bool false) := R1.cell 0; have f1 := R1.free 0)
    have c5 := World.cell?_setCell_same' W1 ⟨w.heap.size + 1, 0, none⟩ (.bool true) (by rw [c1]; rfl)
    exact ⟨_, by simp [results, Try.f4, go_sem, c5], rfl, (hb0.trans (hb1.mono (by omega))).setCell (p := ⟨w.heap.size + 1, 0, none⟩) (by simp) _⟩
  have hr0 := hr.below hb0 (Nat.le_refl _)
  by_cases hno : poolIs kind l = false ∨ rollB l xs = false
  · have N := hid (pl_load_no kind l _ hno hr0 hn hlen ⟨hl, hl1⟩)
    have hcode : ∃ c : Int, (if poolIs kind l = false then (2 : Int) else 10) = c ∧ (c = 2 ∨ c = 10) := by
      split
      · exact ⟨_, rfl, .inl rfl⟩
      · exact ⟨_, rfl, .inr rfl⟩
    obtain ⟨c, ec, hc0⟩ := hcode
    rw [ec] at N
    clear ec hno
    rcases hc0 with rfl | rfl
    all_goals
      gi_wp2_with (first
        | (refine ⟨trivial, ?_⟩; gi_at_call 17; refine (callsIn_wide.2 N.out).mono ?_; rintro e W1 ⟨rfl, hb1⟩; have R1 := R.below hb1 (Nat.le_refl _); have c1 : W1.cell? ⟨w.heap.size + 1, 0, none⟩ = some (.bool false) := R1.cell 0; have f1 := R1.free 0)
        | (refine ⟨trivial, ?_⟩; gi_at_call 22; refine (callsIn_wide.2 (A.out _)).mono ?_; rintro e W2 ⟨rfl, hb2⟩; have R2 := R1.below hb2 (Nat.le_refl _); have c2 : W2.cell? ⟨w.heap.size + 1, 0, none⟩ = some (.bool false) := R2.cell 0; have f2 := R2.free 0))
      have c5 := World.cell?_setCell_same' W2 ⟨w.heap.size + 1, 0, none⟩ (.bool true) (by rw [c2]; rfl)
      have hs1 := hb1.size
      exact ⟨_, by simp [results, Try.f4, go_sem, c5], rfl, ((hb0.trans (hb1.mono (by omega))).trans (hb2.mono (by omega))).setCell (p := ⟨w.heap.size + 1, 0, none⟩) (by simp) _⟩
  · have hP : poolIs kind l = true := by
      cases h : poolIs kind l
      · exact absurd (.inl h) hno
      · rfl
    have hR : rollB l xs = true := by
      cases h : rollB l xs
      · exact absurd (.inr h) hno
      · rfl
    have hFN := fun W : World => fun b : Nat => run_func_nil (P := Try.prog) (T := 44) Try.underlying44 (.func 62) #[] #[.pointer (some ⟨b, 0, none⟩)] W
    have N := hid (pl_load kind l _ hP hR hr0 hn (by omega))
    clear hno hP hR
    gi_wp2_with (first
      | (refine ⟨trivial, ?_⟩; gi_at_call 17; refine (callsIn_wide.2 N.out).mono ?_; rintro e W1 ⟨q, g, h, rfl, d, hq, hg, hh, hb1⟩; have R1 := R.below hb1 (Nat.le_refl _); have X1 := X.below hb1 (Nat.le_refl _))
      | (refine ⟨trivial, ?_⟩; gi_at_call 23; refine (callsIn_wide.2 (E.out _ _)).mono ?_; rintro e W2 ⟨rfl, rfl⟩; have hfn := hFN ((W1.alloc (.cells #[.int .i64 0] 3)).alloc (.cells #[.pointer (some ⟨q, 0, none⟩)] 29)) (W1.heap.size + 1)))
    have hs1 := hb1.size
    have hsz0 : ((W1.alloc (.cells #[.int .i64 0] 3)).alloc (.cells #[.pointer (some ⟨q, 0, none⟩)] 29)).heap.size = W1.heap.size + 2 := by simp
    have N0 := (Blk.new W1 #[.int .i64 0] 3).alloc (.cells #[.pointer (some ⟨q, 0, none⟩)] 29)
    have P0 := Blk.new (W1.alloc (.cells #[.int .i64 0] 3)) #[.pointer (some ⟨q, 0, none⟩)] 29
    rw [World.size_alloc] at P0
    have hbw1 : Below w.heap.size w W1 := hb0.trans (hb1.mono (by omega))
    have hb2 : Below W1.heap.size W1 ((W1.alloc (.cells #[.int .i64 0] 3)).alloc (.cells #[.pointer (some ⟨q, 0, none⟩)] 29)) := ((Below.refl _ _).alloc (Nat.le_refl _) _).alloc (by simp) _
    have hbw2 := hbw1.trans (hb2.mono (by omega))
    have X2 := X1.below hb2 (Nat.le_refl _)
    have R2 := R1.below hb2 (Nat.le_refl _)
    have d2 := d.below hb2 (Nat.le_refl _)
    clear hfn hFN N
    generalize ((W1.alloc (.cells #[.int .i64 0] 3)).alloc (.cells #[.pointer (some ⟨q, 0, none⟩)] 29)) = w0 at *
    have p0 : w0.cell? ⟨W1.heap.size + 1, 0, none⟩ = some (.pointer (some ⟨q, 0, none⟩)) := P0.cell 0
    have st : Steady (fun _ k => W1.heap.size < k) := fun _ _ _ _ _ _ _ h => h
    have ownB : ∀ (g : Nat) (arr : Array Value) (T : TypeId), Own (fun (_ : List N64) W => Blk W g arr T) := fun g arr T s A B row hs hg hr => (grownBy_keeps_cells hg hr hs rfl).trans hs
    refine wpIn_rangeFunc_ownG (F := Fence.wide) rfl (by decide) (gf := 62) (lb := #[.pointer (some ⟨W1.heap.size + 1, 0, none⟩)]) rfl trivial (enters_of Try.func62 (by kernel_rfl) rfl)
      (each_stops (Safe := fun _ k => W1.heap.size < k) 4 (by decide) (W1.heap.size + 1) (by omega) p0 d2 (by omega) st (fun W _ k hk _ => by omega)) (fun h k => h.trans k) (fun W l o o' _ h hc _ => KpS.putObj st W l o o' h hc) (Below.refl _ _) (fun _ => rfl)
      (fun pre W => (Blk W W1.heap.size #[.int .i64 pre.length] 3 ∧ Blk W w.heap.size #[.slice p xs.length cap, .int .i64 most] 42 ∧ Blk W (w.heap.size + 1) #[.bool false] 4 ∧ (pre.length : Int) ≤ max most 0) ∧ Below w.heap.size w W)
      (fun c pre W => ((c = .ret ∧ Odd xs pre) ∨ (c = .exit 0 ∧ ∃ n : Nat, pre.length = n + 1 ∧ Blk W W1.heap.size #[.int .i64 n] 3 ∧ Blk W w.heap.size #[.slice p xs.length cap, .int .i64 most] 42 ∧ Blk W (w.heap.size + 1) #[.bool false] 4 ∧ (n : Int) ≤ max most 0 ∧ most ≤ n)) ∧ Below w.heap.size w W)
      (OwnFrom.and (Own.from (fun s A B row hs hg hr => ⟨(grownBy_keeps_cells hg hr hs.1 rfl).trans hs.1, (grownBy_keeps_cells hg hr hs.2.1 rfl).trans hs.2.1, (grownBy_keeps_cells hg hr hs.2.2.1 rfl).trans hs.2.2.1, hs.2.2.2⟩) _) (ownFrom_below (Nat.le_refl _) (by omega)))
      (fun c => OwnFrom.and (Own.from (fun s A B row hs hg hr => by
        rcases hs with hs | ⟨e, n, e1, b1, b2, b3, b4⟩
        · exact .inl hs
        · exact .inr ⟨e, n, e1, (grownBy_keeps_cells hg hr b1 rfl).trans b1, (grownBy_keeps_cells hg hr b2 rfl).trans b2, (grownBy_keeps_cells hg hr b3 rfl).trans b3, b4⟩) _) (ownFrom_below (Nat.le_refl _) (by omega)))
      ⟨⟨N0, X2, R2, by simp; omega⟩, hbw2⟩
      (fun x : N64 => { tmps := #[.int .i64 kind, .int .i64 l, .agg #[.slice p xs.length cap, .int .i64 most], undef, undef, .pointer (some ⟨w.heap.size, 0, none⟩), .pointer (some ⟨w.heap.size + 1, 0, none⟩), .pointer (some ⟨q, 0, none⟩), .int .i64 0, .pointer (some ⟨W1.heap.size, 0, none⟩), .func (.func 62) #[] #[.pointer (some ⟨W1.heap.size + 1, 0, none⟩)], .int .i64 x.1.1, .int .i64 x.1.2, .pointer (some ⟨w.heap.size, 0, none⟩), .slice p xs.length cap, .int .i64 (xs.length : Int), .bool (decide ((60 : Int) < (xs.length : Int))), .bool (decide ((60 : Int) < (xs.length : Int))), .int .i64 l, .bool false, .bool (decide ((60 : Int) < (xs.length : Int))), undef, .tuple #[.pointer (some ⟨q, 0, none⟩), .int .i64 0], .int .i64 kind, .int .i64 l, .pointer (some ⟨w.heap.size, 0, none⟩), .slice p xs.length cap, .tuple #[.pointer (some ⟨q, 0, none⟩), .int .i64 0], .pointer (some ⟨q, 0, none⟩), .int .i64 0, .int .i64 0, .bool false, .bool false, .pointer (some ⟨q, 0, none⟩), .bool false, .bool false, undef, undef, undef, undef, undef, undef, undef, undef, .pointer (some ⟨q, 0, none⟩), .func (.func 62) #[] #[.pointer (some ⟨W1.heap.size + 1, 0, none⟩)], .func (.func 62) #[] #[.pointer (some ⟨W1.heap.size + 1, 0, none⟩)], .bool false, .func (.func 62) #[] #[.pointer (some ⟨W1.heap.size + 1, 0, none⟩)], .int .i64 x.1.1, .int .i64 x.1.2, undef, undef, undef, undef, undef, undef, undef, undef, undef, undef, undef, undef, undef, undef, undef, undef, undef, undef, undef, undef, undef, undef, undef, undef, undef, undef, undef, undef, undef, undef, undef, undef, undef, undef], defers := [] }) ?assign ?body ?done ?stop
    case assign =>
      intro l x W K hK
      gi_wp2
      exact hK
    case body =>
      rintro l pre ⟨⟨a, c⟩, hx64⟩ W ⟨⟨bn, bx, br, hmx⟩, hB⟩ hpl
      have n0 : W.cell? ⟨W1.heap.size, 0, none⟩ = some (.int .i64 pre.length) := bn.cell 0
      have nf := bn.free 0
      have x0 : W.cell? ⟨w.heap.size, 0, none⟩ = some (.slice p xs.length cap) := bx.cell 0
      have x1 : W.cell? ⟨w.heap.size, 1, none⟩ = some (.int .i64 most) := bx.cell 1
      have r0 : W.cell? ⟨w.heap.size + 1, 0, none⟩ = some (.bool false) := br.cell 0
      have rf := br.free 0
      have hrW := hr.below hB (Nat.le_refl _)
      dsimp only
      by_cases hm : most ≤ pre.length
      · gi_wp2
        exact ⟨KeepsFrom.refl _ _, .inr ⟨rfl, pre.length, by simp, bn, bx, br, hmx, hm⟩, hB⟩
      · obtain ⟨g', off, a', c', rfl, ey, hg', c1, c2⟩ := hrW.at hpl
        have hne := node_eq a' c' a c
        obtain ⟨t, et⟩ : ∃ t, (a' == a && c' == c) = t := ⟨_, rfl⟩
        rw [et] at hne
        cases t
        · gi_wp2
          refine ⟨(KeepsOthers.setCell _ _ _).from _, .inl ⟨rfl, pre, ⟨(a, c), hx64⟩, rfl, ?_⟩, hB.setCell (p := ⟨w.heap.size + 1, 0, none⟩) (by simp) _⟩
          rw [ey]
          intro e
          simp only [Prod.mk.injEq] at e
          rw [e.1, e.2] at et
          simp at et
        · gi_wp2
          have hk : KpS (fun _ k => W1.heap.size < k) W (W.setCell ⟨W1.heap.size, 0, none⟩ (.int .i64 (pre.length + 1))) := ⟨by simp, fun k o ho _ hs => ⟨(Below.heap_setCell W ⟨W1.heap.size, 0, none⟩ _ k (by show k ≠ W1.heap.size; omega)).trans ho, hs⟩⟩
          refine ⟨(KeepsOthers.setCell _ _ _).from _, hk, ⟨?_, bx.set_other _ _ (by omega), br.set_other _ _ (by omega), by simp; omega⟩, hB.setCell (p := ⟨W1.heap.size, 0, none⟩) (by show w.heap.size ≤ W1.heap.size; omega) _⟩
          have := bn.set 0 (.int .i64 ((pre.length : Int) + 1))
          simpa using this
    case done =>
      rintro D ys W hD hys ⟨⟨bn, bx, br, hmx⟩, hB⟩ hK
      have hyl : ys.length = xs.length := by have := congrArg List.length hys; simpa using this
      rw [hyl] at bn hmx
      have n0 : W.cell? ⟨W1.heap.size, 0, none⟩ = some (.int .i64 xs.length) := bn.cell 0
      have x0 : W.cell? ⟨w.heap.size, 0, none⟩ = some (.slice p xs.length cap) := bx.cell 0
      have x1 : W.cell? ⟨w.heap.size, 1, none⟩ = some (.int .i64 most) := bx.cell 1
      have hz : xs = [] ∨ (1 ≤ xs.length ∧ (xs.length : Int) ≤ most) := by
        by_cases h0 : xs.length = 0
        · exact .inl (List.eq_nil_of_length_eq_zero h0)
        · right; omega
      rcases hz with hz | ⟨hz1, hz2⟩
      all_goals
        gi_wp2_with (refine ⟨trivial, ?_⟩; gi_at_call 22; refine (callsIn_wide.2 (A.out _)).mono ?_; rintro e W3 ⟨rfl, hb3⟩; have R3 := br.below hb3 (Nat.le_refl _); have c1 : W3.cell? ⟨w.heap.size + 1, 0, none⟩ = some (.bool false) := R3.cell 0; have f1 := R3.free 0)
        all_goals first
          | (exfalso; omega)
          | contradiction
          | (exfalso; simp_all; done)
          | (have hs3 := hb3.size
             have hK3 : (W3.setCell ⟨w.heap.size + 1, 0, none⟩ (.bool true)).heap[D]? = some (.deferred (some [])) := (KeepsOthers.setCell W3 ⟨w.heap.size + 1, 0, none⟩ (.bool true)).same D _ ((hb3.block D (Array.getElem?_eq_some_iff.1 hK).1).trans hK) rfl
             refine ⟨by simp, .inl ⟨_, _, rfl, run_takeDeferred hK3, ?_⟩⟩
             have c5 := cell_kept (World.cell?_setCell_same' W3 ⟨w.heap.size + 1, 0, none⟩ (.bool true) (by rw [c1]; rfl)) (grownBy_putObj' _ D (.deferred none)) (fun r e => by cases e; exact ⟨_, hK3, rfl⟩)
             refine ⟨_, by simp [results, Try.f4, go_sem, c5], rfl, ?_⟩
             exact ((hB.trans (hb3.mono hB.size)).setCell (p := ⟨w.heap.size + 1, 0, none⟩) (by simp) _).trans (belowK_b (w := w) (Nat.le_refl _) _ D _ _ (by omega) hK3 rfl rfl))
    case stop =>
      rintro D c pre W hD hpre ⟨hcase, hB⟩ hK
      rcases hcase with ⟨rfl, ⟨ini, x, rfl, hx⟩⟩ | ⟨rfl, n, e1, bn, bx, br, b4, b5⟩
      · exfalso
        refine hx ?_
        obtain ⟨r, er⟩ := hpre
        rw [← er, List.map_append, List.append_assoc, List.getD, List.getElem?_append_right (by simp)]
        simp
      · have n0 : W.cell? ⟨W1.heap.size, 0, none⟩ = some (.int .i64 n) := bn.cell 0
        have x0 : W.cell? ⟨w.heap.size, 0, none⟩ = some (.slice p xs.length cap) := bx.cell 0
        have x1 : W.cell? ⟨w.heap.size, 1, none⟩ = some (.int .i64 most) := bx.cell 1
        have hnl : n < xs.length := by have := hpre.length_le; simp at this; omega
        gi_wp2_with (refine ⟨trivial, ?_⟩; gi_at_call 22; refine (callsIn_wide.2 (A.out _)).mono ?_; rintro e W3 ⟨rfl, hb3⟩; have R3 := br.below hb3 (Nat.le_refl _); have c1 : W3.cell? ⟨w.heap.size + 1, 0, none⟩ = some (.bool false) := R3.cell 0; have f1 := R3.free 0)
        all_goals first
          | (exfalso; omega)
          | contradiction
          | (exfalso; simp_all; done)
          | (have hs3 := hb3.size
             have hK3 : (W3.setCell ⟨w.heap.size + 1, 0, none⟩ (.bool true)).heap[D]? = some (.deferred (some [])) := (KeepsOthers.setCell W3 ⟨w.heap.size + 1, 0, none⟩ (.bool true)).same D _ ((hb3.block D (Array.getElem?_eq_some_iff.1 hK).1).trans hK) rfl
             refine ⟨by simp, .inl ⟨_, _, rfl, run_takeDeferred hK3, ?_⟩⟩
             have c5 := cell_kept (World.cell?_setCell_same' W3 ⟨w.heap.size + 1, 0, none⟩ (.bool true) (by rw [c1]; rfl)) (grownBy_putObj' _ D (.deferred none)) (fun r e => by cases e; exact ⟨_, hK3, rfl⟩)
             refine ⟨_, by simp [results, Try.f4, go_sem, c5], rfl, ?_⟩
             exact ((hB.trans (hb3.mono hB.size)).setCell (p := ⟨w.heap.size + 1, 0, none⟩) (by simp) _).trans (belowK_b (w := w) (Nat.le_refl _) _ D _ _ (by omega) hK3 rfl rfl))
end Go.Proofs.Ytipnnogafanemaa
