/- The walk of WireWrites. -/
import Derived.Test.YtbbkfjbaocpknaaWr7
import Derived.Test.YtbbkfjbaocpknaaSh13
import Derived.Test.YtbbkfjbaocpknaaOpenLoaded
namespace Go.Proofs.Ytbbkfjbaocpknaa
open Go.RowKit Nl Vy

def aliveZw : List Nd := [(2, 5)]
theorem Vy.alive_load : loadE 2 1 2 aliveZw = 0 := by decide
theorem Vy.alive_enc : encL 1 2 (sumL aliveZw) (aliveZw.map (fun x => x.1)) (aliveZw.map (fun x => x.2)) = [68, 87, 80, 1, 1, 2, 5, 1, 2, 5, 8, 120, 0, 253] := by
  have e5 : sumL aliveZw = 5 := by decide
  have v (n : Nat) (h : n < 128) : vyL n = [UInt8.ofNat n] := vy_low h
  have v1 := v 1 (by decide)
  have v2 := v 2 (by decide)
  have v5 := v 5 (by decide)
  rw [e5]
  simp only [encL, headB, risesL, gapsL, wsL, aliveZw, List.map_cons, List.map_nil, List.length_cons, List.length_nil, Nat.zero_add, lastI, List.getD, List.getElem?_cons_zero, Option.getD_some, Int.sub_zero]
  simp only [show (1 : Int).toNat = 1 from rfl, show (2 : Int).toNat = 2 from rfl, show (5 : Int).toNat = 5 from rfl, v1, v2, v5]
  decide
set_option maxRecDepth 100000 in
set_option maxHeartbeats 1000000 in
theorem w_alive (w : World) : Calls Try.prog 18 #[] w fun e w' => e = .returned (.bool true) ∧ Below w.heap.size w w' := by
  have X1 : Blk (w.alloc (.cells #[.int .i64 2, .int .i64 5] 40)) w.heap.size #[.int .i64 2, .int .i64 5] 40 := Blk.new w _ _
  have hb1 : Below w.heap.size w (w.alloc (.cells #[.int .i64 2, .int .i64 5] 40)) := (Below.refl _ _).alloc (Nat.le_refl _) _
  have R1 : RdN (w.alloc (.cells #[.int .i64 2, .int .i64 5] 40)) (.slice (some ⟨w.heap.size, 0, none⟩) 1 1) aliveZw := .inr (.inr ⟨w.heap.size, 0, 1, rfl, X1.lt, by decide, fun k hk => by
    have hk : k < 1 := hk
    obtain rfl : k = 0 := by omega
    exact ⟨X1.cell 0, X1.cell 1⟩⟩)
  have LD := hid (dg_load 2 1 2 R1 (by intro x hx; simp [aliveZw] at hx; rcases hx with rfl; exact ⟨⟨by decide, by decide⟩, ⟨by decide, by decide⟩⟩) (by decide) alive_load)
  have TX := hid (fun (W : World) dg q g h (d : DgV W dg q g h 2 1 2 2000 aliveZw) => w_encode d (by decide) (by decide))
  rw [alive_enc] at TX
  clear X1 R1
  go_enter Try.func18, Try.ntmps18
  go_wp2_with fail
  refine LD.out.mono ?_
  rintro e w2 ⟨dg, q, g, h, rfl, d2, -, -, -, -, hb2⟩
  have hbw := hb1.trans (hb2.mono hb1.size)
  clear hb1 hb2 LD
  go_wp2_with fail
  refine (TX.out _ _ _ _ _ d2).mono ?_
  rintro e w3 ⟨rfl, hb3⟩
  clear TX d2
  go_wp2_with fail
  go_ret
  exact ⟨rfl, hbw.trans (hb3.mono hbw.size)⟩
set_option maxRecDepth 100000 in
set_option maxHeartbeats 2000000 in
theorem l_writes {w : World} {zs : List Nd} {p : Option Addr} {cap : Nat} (kind l k n : Int) (hr : RdN w (.slice p zs.length cap) zs) (hn : NB zs) (bl : In64 l) (bk : In64 k) (bd : In64 kind) (bn : In64 n) (hlen : zs.length ≤ 9223372036854775807) :
    Calls Try.prog 4 #[.agg #[.int .i64 l, .int .i64 k, .int .i64 kind, .slice p zs.length cap], .int .i64 n] w fun e w' => e = .returned (.bool true) ∧ Below w.heap.size w w' := by
  have X1 : Blk (w.alloc (.cells #[.int .i64 l, .int .i64 k, .int .i64 kind, .slice p zs.length cap] 48)) w.heap.size #[.int .i64 l, .int .i64 k, .int .i64 kind, .slice p zs.length cap] 48 := Blk.new w _ _
  have hb1 : Below w.heap.size w (w.alloc (.cells #[.int .i64 l, .int .i64 k, .int .i64 kind, .slice p zs.length cap] 48)) := (Below.refl _ _).alloc (Nat.le_refl _) _
  have r1 := hr.below hb1 (Nat.le_refl _)
  have TN := hid w_encode_nil
  have AL := hid w_alive
  have BW := hid (fun W => w_bound n W bn)
  have BR := hid (fun W => r_wbound n W bn)
  generalize boundV n = bv at *
  go_enter Try.func4, Try.ntmps4
  go_wp2_with fail
  generalize w.alloc (.cells #[.int .i64 l, .int .i64 k, .int .i64 kind, .slice p zs.length cap] 48) = w1 at *
  refine (TN.out _).mono ?_
  rintro e w' ⟨rfl, rfl⟩
  go_wp2_with fail
  refine (BW.out _).mono ?_
  rintro e w' ⟨rfl, rfl⟩
  go_wp2_with fail
  refine (BR.out _).mono ?_
  rintro e w' ⟨rfl, rfl⟩
  have x0 : w1.cell? ⟨w.heap.size, 0, none⟩ = some (.int .i64 l) := X1.cell 0
  have x1 : w1.cell? ⟨w.heap.size, 1, none⟩ = some (.int .i64 k) := X1.cell 1
  have x2 : w1.cell? ⟨w.heap.size, 2, none⟩ = some (.int .i64 kind) := X1.cell 2
  have x3 : w1.cell? ⟨w.heap.size, 3, none⟩ = some (.slice p zs.length cap) := X1.cell 3
  have LD := hid (s_loaded kind l k r1 hn bl bk bd hlen)
  clear X1 r1 hr TN BW BR
  go_wp2_with fail
  refine LD.out.mono ?_
  clear x0 x1 x2 x3 LD
  rintro e w2 (⟨rfl, hb2⟩ | ⟨dg, q, g, h, rfl, d2, r2, hz, hb2⟩)
  · have hbw := hb1.trans (hb2.mono hb1.size)
    have hbz := hbw.alloc (Nat.le_trans (Nat.le_refl _) hbw.size) (.cells #[.int .i64 0, .int .i64 0, .slice none 0 0] 55)
    go_wp2_with fail
    refine (AL.out _).mono ?_
    rintro e w3 ⟨rfl, hb3⟩
    go_wp2_with fail
    go_ret
    exact ⟨rfl, hbz.trans (hb3.mono hbz.size)⟩
  · have hbw := hb1.trans (hb2.mono hb1.size)
    have inv := d2.inv
    have hba : Below w2.heap.size w2 (w2.alloc (.cells #[.int .i64 k, .int .i64 l, .slice p zs.length cap] 55)) := (Below.refl _ _).alloc (Nat.le_refl _) _
    have T3 := Blk.new w2 #[.int .i64 k, .int .i64 l, .slice p zs.length cap] 55
    have d3 := d2.below hba (Nat.le_refl _)
    have r3 := r2.below hba (Nat.le_refl _)
    have hbz := hbw.trans (hba.mono hbw.size)
    have TX := hid (w_encode d3 (by decide) (by omega))
    have RX := hid (fun (W : World) (y : RdN W (.slice p zs.length cap) zs) => r_wencode y inv (by omega))
    have LN := hid (fun W (y : DgV W dg q g h kind l k 2000 zs) => dg_len y)
    have BZ := hid (fun W => w_bound (zs.length : Int) W ⟨by omega, by omega⟩)
    have hel := enc_len (l := l) (k := k) (n := sumL zs) (ids := zs.map (fun x => x.1)) (ws := zs.map (fun x => x.2)) inv.k2 (by have := inv.roll.most; omega) (fun j => (ids_cnt inv.roll j).2) (fun j => (ids_cnt inv.roll j).1) (by simp; omega) (fun j => (ws_cnt inv.roll j).2) (by simp)
    rw [List.length_map] at hel
    have hbv : boundV (zs.length : Int) = 32 + 18 * (zs.length : Int) := by unfold boundV; rw [if_neg (by omega), if_neg (by omega)]
    rw [hbv] at BZ
    obtain ⟨E9, hE9⟩ : ∃ E9, encL l k (sumL zs) (zs.map (fun x => x.1)) (zs.map (fun x => x.2)) = E9 := ⟨_, rfl⟩
    rw [hE9] at TX RX hel
    have hle : decide ((E9.length : Int) ≤ 32 + 18 * (zs.length : Int)) = true := decide_eq_true (by omega)
    clear d2 r2 hba hbw inv hb2 hb1 hE9 hbv hn
    go_wp2_with fail
    refine TX.out.mono ?_
    rintro e w4 ⟨rfl, hb4⟩
    have T4 := T3.below hb4 (Nat.le_refl _)
    have r4 := r3.below hb4 (Nat.le_refl _)
    have d4 := d3.below hb4 (Nat.le_refl _)
    have hb5 := hbz.trans (hb4.mono hbz.size)
    clear TX d3 r3 T3 hb4 hbz
    have t0 : w4.cell? ⟨w2.heap.size, 0, none⟩ = some (.int .i64 k) := T4.cell 0
    have t1 : w4.cell? ⟨w2.heap.size, 1, none⟩ = some (.int .i64 l) := T4.cell 1
    have t2 : w4.cell? ⟨w2.heap.size, 2, none⟩ = some (.slice p zs.length cap) := T4.cell 2
    generalize w2.heap.size = nb at *
    go_wp2_with fail
    refine (RX.out _ r4).mono ?_
    rintro e w5 ⟨rfl, hb6⟩
    have hb7 := hb5.trans (hb6.mono hb5.size)
    have d5 := d4.below hb6 (Nat.le_refl _)
    clear RX T4 r4 t0 t1 t2 hb6 hb5 d4
    go_wp2_with fail
    refine (LN.out _ d5).mono ?_
    rintro e w' ⟨rfl, rfl⟩
    go_wp2_with fail
    refine (BZ.out _).mono ?_
    rintro e w' ⟨rfl, rfl⟩
    go_wp2_with fail
    refine (AL.out _).mono ?_
    rintro e w6 ⟨rfl, hb8⟩
    go_wp2_with fail
    go_ret
    exact ⟨by simp, hb7.trans (hb8.mono hb7.size)⟩
theorem WireWrites_walk (v : Value) (x : Int × Int × Int × Value × List Nd) (n : Int) (w : World) (h : RdL w v x) (bn : In64 n) :
    Calls Try.prog 4 #[v, .int .i64 n] w fun e w' => e = .returned (.bool true) ∧ Below w.heap.size w w' := by
  obtain ⟨l, k, kind, vs, zs⟩ := x
  obtain ⟨rfl, ⟨h1, h2, h3⟩, hr, hn, hl⟩ := h
  obtain ⟨p, cap, hv⟩ := hr.val
  have hv : vs = .slice p zs.length cap := hv
  subst hv
  exact l_writes kind l k n hr hn (bd_i64 _ h1) (bd_i64 _ h2) (bd_i64 _ h3) bn hl
end Go.Proofs.Ytbbkfjbaocpknaa
