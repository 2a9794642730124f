/- The walk of PressAlike. -/
import Derived.Test.YtejoecoenehooaaPr6
namespace Go.Proofs.Ytejoecoenehooaa
open Go.RowKit Nl

set_option maxRecDepth 100000 in
set_option maxHeartbeats 400000 in
theorem n_wrong (k : Int) (w : World) : Calls Try.prog 92 #[.pointer none, .int .i64 k] w fun e w' => e = .returned (.int .i64 1) ∧ w = w' := by
  go_enter Try.func92, Try.ntmps92
  go_wp2
  go_ret
  exact ⟨rfl, rfl⟩
set_option maxRecDepth 100000 in
set_option maxHeartbeats 400000 in
theorem n_Run (k : Int) (w : World) : Calls Try.prog 34 #[.pointer none, .int .i64 k] w fun e w' => e = .returned (.tuple #[.int .i64 0, .int .i64 1]) ∧ w = w' := by
  have W := hid (n_wrong k w)
  go_enter Try.func34, Try.ntmps34
  go_wp2_with fail
  refine W.out.mono ?_
  rintro e w' ⟨rfl, rfl⟩
  go_wp2_with fail
  go_ret2
  exact ⟨rfl, rfl⟩
set_option maxRecDepth 100000 in
set_option maxHeartbeats 400000 in
theorem n_Trace (k : Int) (w : World) : Calls Try.prog 60 #[.pointer none, .int .i64 k] w fun e w' => e = .returned (.tuple #[.slice none 0 0, .int .i64 1]) ∧ w = w' := by
  have W := hid (n_wrong k w)
  go_enter Try.func60, Try.ntmps60
  go_wp2_with fail
  refine W.out.mono ?_
  rintro e w' ⟨rfl, rfl⟩
  go_wp2_with fail
  go_ret2
  exact ⟨rfl, rfl⟩
set_option maxRecDepth 100000 in
set_option maxHeartbeats 400000 in
theorem n_Tight (k : Int) (w : World) : Calls Try.prog 40 #[.pointer none, .int .i64 k] w fun e w' => e = .returned (.bool false) ∧ w = w' := by
  have W := hid (n_wrong k w)
  go_enter Try.func40, Try.ntmps40
  go_wp2_with fail
  refine W.out.mono ?_
  rintro e w' ⟨rfl, rfl⟩
  go_wp2_with fail
  go_ret
  exact ⟨rfl, rfl⟩
set_option maxRecDepth 100000 in
set_option maxHeartbeats 400000 in
theorem n_Light (k : Int) (w : World) : Calls Try.prog 42 #[.pointer none, .int .i64 k] w fun e w' => e = .returned (.bool false) ∧ Below w.heap.size w w' := by
  have W := hid (fun W : World => n_wrong k W)
  have B1 : Blk ((w.alloc (.cells #[.pointer none] 38)).alloc (.cells #[.bool false] 4)) (w.heap.size + 1) #[.bool false] 4 := by
    have h := (Blk.new (w.alloc (.cells #[.pointer none] 38)) #[.bool false] 4)
    simpa using h
  have hba : Below w.heap.size w ((w.alloc (.cells #[.pointer none] 38)).alloc (.cells #[.bool false] 4)) := ((Below.refl _ _).alloc (Nat.le_refl _) _).alloc (by simp) _
  go_enter Try.func42, Try.ntmps42
  go_wp2_with fail
  refine (W.out _).mono ?_
  rintro e w' ⟨rfl, rfl⟩
  generalize ((w.alloc (.cells #[.pointer none] 38)).alloc (.cells #[.bool false] 4)) = w1 at *
  have c1 : w1.cell? ⟨w.heap.size + 1, 0, none⟩ = some (.bool false) := B1.cell 0
  have f1 := B1.free 0
  go_wp2_with fail
  have Z := B1.set 0 (.bool false)
  have z0 : World.cell? _ ⟨w.heap.size + 1, 0, none⟩ = some (.bool false) := Z.cell 0
  exact bodyPost_ret (v := .bool false) (by simp [results, Try.results42, go_sem, z0]) rfl ⟨rfl, hba.setCell (p := ⟨w.heap.size + 1, 0, none⟩) (by simp) _⟩

/-- What comes of press.Run, whatever k is: the pool then, and two numbers. -/
def PRunAny (q g h0 m : Nat) (kind l : Int) (n e0 : Int) (Z : List Nd) (w : World) (e : Ending) (w' : World) : Prop :=
  e = .returned (.tuple #[.int .i64 n, .int .i64 e0]) ∧ ∃ h, PoolV w' q g h kind l m Z ∧ (h = h0 ∨ w.heap.size ≤ h) ∧ ChB (PB q g h0) w w'
/-- What Run answers of nodes, and what is left. -/
def Nl.rnN (l k : Int) (zs : List Nd) : Int := if isK k then ((runR l (capV (sumL zs) k) zs).2.length : Int) else 0
def Nl.rnE (k : Int) : Int := if isK k then 0 else 2
def Nl.rnZ (l k : Int) (zs : List Nd) : List Nd := if isK k then (runR l (capV (sumL zs) k) zs).1 else zs
theorem p_Run_any {w : World} {q g h m : Nat} {kind l : Int} {zs : List Nd} (k : Int) (d : PoolV w q g h kind l m zs) (hm : m ≤ 100000) (hz : zs.length + 1 ≤ m) (hz2 : zs.length ≤ 2000) :
    Calls Try.prog 34 #[.pointer (some ⟨q, 0, none⟩), .int .i64 k] w (PRunAny q g h m kind l (rnN l k zs) (rnE k) (rnZ l k zs) w) := by
  cases hk : isK k
  · refine (p_Run_no q k hk w).mono fun e w' ⟨h1, h2⟩ => ?_
    subst h2
    simp only [rnN, rnE, rnZ, hk]
    exact ⟨h1, h, d, .inl rfl, ChB.refl _ _⟩
  · refine (p_Run k hk d hm hz hz2).mono fun e w' ⟨h1, h', h2, h3, h4⟩ => ?_
    simp only [rnN, rnE, rnZ, hk]
    exact ⟨h1, h', h2, h3, h4⟩

set_option maxRecDepth 100000 in
set_option maxHeartbeats 1000000 in
theorem PressAlike_walk (l : Int) (v : Value) (xs : List Nd) (k : Int) (w : World) (hl : -9223372036854775808 ≤ l) (hl1 : l ≤ 9223372036854775807) (ho : RdA w v xs) (_hk0 : -9223372036854775808 ≤ k) (_hk1 : k ≤ 9223372036854775807) :
    Calls Try.prog 10 #[.int .i64 l, v, .int .i64 k] w fun e w' => e = .returned (.bool true) ∧ Below w.heap.size w w' := by
  obtain ⟨hr, hn, hlen⟩ := ho
  obtain ⟨p, cap, rfl⟩ := hr.val
  have Is := hid (fun W (q : RdN W (.slice p xs.length cap) xs) => f_is 1 l W ⟨q, hn, hlen⟩ ⟨hl, hl1⟩)
  have A := hid (fun W : World => p_alive W)
  have N1 := hid (n_Run k w)
  have N2 := hid (n_Trace k w)
  have N3 := hid (n_Tight k w)
  have N4 := hid (n_Light k w)
  obtain ⟨F, eF⟩ : ∃ F, askB 1 l xs = F := ⟨_, rfl⟩
  rw [eF] at Is
  have EF := hid eF
  clear eF
  go_enter Try.func10, Try.ntmps10
  go_wp2_with fail
  refine N1.out.mono ?_
  rintro e w' ⟨rfl, rfl⟩
  go_wp2_with fail
  refine N2.out.mono ?_
  rintro e w' ⟨rfl, rfl⟩
  go_wp2_with fail
  refine N3.out.mono ?_
  rintro e w' ⟨rfl, rfl⟩
  go_wp2_with fail
  refine N4.out.mono ?_
  rintro e w1 ⟨rfl, hb1⟩
  have hr1 := hr.below hb1 (Nat.le_refl _)
  have hs1 := hb1.size
  clear N1 N2 N3 N4 hr
  go_wp2_with fail
  refine (Is.out w1 hr1).mono ?_
  rintro e w2 ⟨rfl, hb2⟩
  have hr2 := hr1.below hb2 (Nat.le_refl _)
  have hs2 := hb2.size
  have hB2 := hb1.trans (hb2.mono hs1)
  clear hr1 hb1 hb2 Is
  cases F
  · go_wp2_with fail
    refine (A.out w2).mono ?_
    rintro e w3 ⟨rfl, hb3⟩
    go_wp2_with fail
    go_ret
    exact ⟨rfl, hB2.trans (hb3.mono (by omega))⟩
  obtain ⟨e1, e2, e3, e4⟩ := few_parts EF.out
  have e2' : poolIs 2 l = true := by
    have hroll := rollB_iff.1 e4
    have := hroll.l1
    have := hroll.l2
    simp only [poolIs, decide_eq_true_eq] at e2 ⊢
    first | omega | (simp; omega)
  have M1 := hid (fun W (q : RdN W (.slice p xs.length cap) xs) => p_made 1 l W e2 e4 q hn (by omega))
  have M2 := hid (fun W (q : RdN W (.slice p xs.length cap) xs) => p_made 2 l W e2' e4 q hn (by omega))
  have R1 := hid (fun W q g h (x : PoolV W q g h 1 l (xs.length + 1) xs) => p_Run_any k x (by omega) (by omega) (by omega))
  have R2 := hid (fun W q g h (x : PoolV W q g h 2 l (xs.length + 1) xs) => p_Run_any k x (by omega) (by omega) (by omega))
  generalize rnN l k xs = rn at *
  generalize rnE k = re at *
  generalize rnZ l k xs = Z at *
  clear e2 e2' e3 e4 EF
  go_wp2_with fail
  refine (M1.out w2 hr2).mono ?_
  rintro e w3 ⟨q, g, h, rfl, d3, hq, hg, hh, hb3⟩
  have d3' := d3.mono (m' := xs.length + 1) (by omega)
  have hs3 := hb3.size
  have hb4 : Below w3.heap.size w3 (w3.alloc (.cells #[.int .i64 l, .slice p xs.length cap] 43)) := (Below.refl _ _).alloc (Nat.le_refl _) _
  have d4 := d3'.below hb4 (Nat.le_refl _)
  have hr4 := (hr2.below hb3 (Nat.le_refl _)).below hb4 (Nat.le_refl _)
  have hB4 := (hB2.trans (hb3.mono (by omega))).trans (hb4.mono (by omega))
  have hsz4 : (w3.alloc (.cells #[.int .i64 l, .slice p xs.length cap] 43)).heap.size = w3.heap.size + 1 := by simp
  obtain ⟨lq, lg, lh, _⟩ := d3.lt
  clear d3 d3' hb3 hb4 M1 hr2 hB2
  go_wp2_with fail
  generalize (w3.alloc (.cells #[.int .i64 l, .slice p xs.length cap] 43)) = w4 at *
  refine (M2.out w4 hr4).mono ?_
  rintro e w5 ⟨q2, g2, h2, rfl, d5, hq2, hg2, hh2, hb5⟩
  have d5' := d5.mono (m' := xs.length + 1) (by omega)
  have hs5 := hb5.size
  have hb6 : Below w5.heap.size w5 (w5.alloc (.cells #[.int .i64 l, .slice p xs.length cap] 43)) := (Below.refl _ _).alloc (Nat.le_refl _) _
  have b6 := d5'.below hb6 (Nat.le_refl _)
  have a6 := (d4.below hb5 (Nat.le_refl _)).below hb6 (Nat.le_refl _)
  have hB6 := (hB4.trans (hb5.mono (by omega))).trans (hb6.mono (by omega))
  have hsz6 : (w5.alloc (.cells #[.int .i64 l, .slice p xs.length cap] 43)).heap.size = w5.heap.size + 1 := by simp
  obtain ⟨lq2, lg2, lh2, _⟩ := d5.lt
  clear d5 d5' d4 hb5 hb6 M2 hr4 hB4
  go_wp2_with fail
  generalize (w5.alloc (.cells #[.int .i64 l, .slice p xs.length cap] 43)) = w6 at *
  refine (R1.out w6 q g h a6).mono ?_
  rintro e w7 ⟨rfl, h7, a7, hh7, c7⟩
  have b7 := b6.keepB (c7.off (fun j hj hp => by rcases hj with e | e | e <;> rcases hp with e' | e' | e' <;> omega))
  have hs7 := c7.size
  have hB7 := hB6.trans (c7.below (B := w.heap.size) (fun j _ hp => by rcases hp with e | e | e <;> omega) (by omega))
  clear a6 b6 hB6 c7 R1
  go_wp2_with fail
  refine (R2.out w7 q2 g2 h2 b7).mono ?_
  rintro e w8 ⟨rfl, h8, b8, hh8, c8⟩
  have a8 := a7.keepB (c8.off (fun j hj hp => by rcases hj with e | e | e <;> rcases hp with e' | e' | e' <;> omega))
  have hs8 := c8.size
  have hB8 := hB7.trans (c8.below (B := w.heap.size) (fun j _ hp => by rcases hp with e | e | e <;> omega) (by omega))
  have S := pl_same a8 b8 (by omega) (by omega)
  simp only [and_self, decide_true] at S
  have S := hid S
  have hrn : (rn == rn) = true := by simp
  have hre : (re == re) = true := by simp
  clear a7 b7 hB7 c8 R2 a8 b8
  go_wp2_with fail
  refine S.out.mono ?_
  rintro e w9 ⟨rfl, hb9⟩
  go_wp2_with fail
  refine (A.out w9).mono ?_
  rintro e w10 ⟨rfl, hb10⟩
  have hs9 := hb9.size
  go_wp2_with fail
  go_ret
  exact ⟨rfl, (hB8.trans (hb9.mono (by omega))).trans (hb10.mono (by omega))⟩
end Go.Proofs.Ytejoecoenehooaa
