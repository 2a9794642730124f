/- The walk of SheetTells. -/
import Derived.Test.YthdljlclcepnhaaSh13
import Derived.Test.YthdljlclcepnhaaSh9
import Derived.Test.YthdljlclcepnhaaOpenLoaded
namespace Go.Proofs.Ythdljlclcepnhaa
open Go.RowKit Nl Sh

set_option maxRecDepth 100000 in
set_option maxHeartbeats 1000000 in
theorem l_tells {w : World} {zs : List Nd} {p : Option Addr} {cap : Nat} (kind l k : Int) (hr : RdN w (.slice p zs.length cap) zs) (hn : NB zs) (bl : In64 l) (bk : In64 k) (bd : In64 kind) (hlen : zs.length ≤ 9223372036854775807) :
    Calls Try.prog 3 #[.agg #[.int .i64 l, .int .i64 k, .int .i64 kind, .slice p zs.length cap]] w fun e w' => e = .returned (.bool true) ∧ Below w.heap.size w w' := by
  have X1 : Blk (w.alloc (.cells #[.int .i64 l, .int .i64 k, .int .i64 kind, .slice p zs.length cap] 26)) w.heap.size #[.int .i64 l, .int .i64 k, .int .i64 kind, .slice p zs.length cap] 26 := Blk.new w _ _
  have hb1 : Below w.heap.size w (w.alloc (.cells #[.int .i64 l, .int .i64 k, .int .i64 kind, .slice p zs.length cap] 26)) := (Below.refl _ _).alloc (Nat.le_refl _) _
  have r1 := hr.below hb1 (Nat.le_refl _)
  have TN := hid s_text_nil
  have AL := hid s_alive
  go_enter Try.func3, Try.ntmps3
  go_wp2_with fail
  generalize w.alloc (.cells #[.int .i64 l, .int .i64 k, .int .i64 kind, .slice p zs.length cap] 26) = w1 at *
  refine (TN.out _).mono ?_
  rintro e w' ⟨rfl, rfl⟩
  have x0 : w1.cell? ⟨w.heap.size, 0, none⟩ = some (.int .i64 l) := X1.cell 0
  have x1 : w1.cell? ⟨w.heap.size, 1, none⟩ = some (.int .i64 k) := X1.cell 1
  have x2 : w1.cell? ⟨w.heap.size, 2, none⟩ = some (.int .i64 kind) := X1.cell 2
  have x3 : w1.cell? ⟨w.heap.size, 3, none⟩ = some (.slice p zs.length cap) := X1.cell 3
  have LD := hid (s_loaded kind l k r1 hn bl bk bd hlen)
  clear X1 r1 hr TN
  go_wp2_with fail
  refine LD.out.mono ?_
  clear x0 x1 x2 x3 LD
  rintro e w2 (⟨rfl, hb2⟩ | ⟨dg, q, g, h, rfl, d2, r2, hz, hb2⟩)
  · have hbw := hb1.trans (hb2.mono hb1.size)
    have hbz := hbw.alloc (Nat.le_trans (Nat.le_refl _) hbw.size) (.cells #[.int .i64 0, .int .i64 0, .slice none 0 0] 34)
    go_wp2_with fail
    refine (AL.out _).mono ?_
    rintro e w3 ⟨rfl, hb3⟩
    go_wp2_with fail
    go_ret
    exact ⟨rfl, hbz.trans (hb3.mono hbz.size)⟩
  · have hbw := hb1.trans (hb2.mono hb1.size)
    have inv := d2.inv
    obtain ⟨u1, u2⟩ := inv.roll.sum
    have bs : In64 (sumL zs) := ⟨by omega, by omega⟩
    have bwt : ∀ x ∈ zs, In64 x.2 := fun x hx => (hn x hx).2
    have hba : Below w2.heap.size w2 (w2.alloc (.cells #[.int .i64 k, .int .i64 l, .slice p zs.length cap] 34)) := (Below.refl _ _).alloc (Nat.le_refl _) _
    have T3 := Blk.new w2 #[.int .i64 k, .int .i64 l, .slice p zs.length cap] 34
    have d3 := d2.below hba (Nat.le_refl _)
    have r3 := r2.below hba (Nat.le_refl _)
    have hbz := hbw.trans (hba.mono hbw.size)
    have TX := hid (s_text d3 (by decide) bl bk bs bwt)
    have RX := hid (fun (W : World) (y : RdN W (.slice p zs.length cap) zs) => r_text y inv (by omega) bl bk bs bwt)
    clear d2 r2 hba hbw inv u1 u2 hb2 hb1
    go_wp2_with fail
    refine TX.out.mono ?_
    rintro e w4 ⟨rfl, hb4⟩
    have T4 := T3.below hb4 (Nat.le_refl _)
    have r4 := r3.below hb4 (Nat.le_refl _)
    have hb5 := hbz.trans (hb4.mono hbz.size)
    clear TX d3 r3 T3 hb4 hbz
    have t0 : w4.cell? ⟨w2.heap.size, 0, none⟩ = some (.int .i64 k) := T4.cell 0
    have t1 : w4.cell? ⟨w2.heap.size, 1, none⟩ = some (.int .i64 l) := T4.cell 1
    have t2 : w4.cell? ⟨w2.heap.size, 2, none⟩ = some (.slice p zs.length cap) := T4.cell 2
    generalize w2.heap.size = nb at *
    go_wp2_with fail
    refine (RX.out _ r4).mono ?_
    rintro e w5 ⟨rfl, hb6⟩
    have hb7 := hb5.trans (hb6.mono hb5.size)
    clear RX T4 r4 t0 t1 t2 hb6 hb5
    go_wp2_with fail
    refine (AL.out _).mono ?_
    rintro e w6 ⟨rfl, hb8⟩
    go_wp2_with fail
    go_ret
    exact ⟨by simp, hb7.trans (hb8.mono hb7.size)⟩
theorem SheetTells_walk (v : Value) (x : Int × Int × Int × Value × List Nd) (w : World) (h : RdL w v x) :
    Calls Try.prog 3 #[v] w fun e w' => e = .returned (.bool true) ∧ Below w.heap.size w w' := by
  obtain ⟨l, k, kind, vs, zs⟩ := x
  obtain ⟨rfl, ⟨h1, h2, h3⟩, hr, hn, hl⟩ := h
  obtain ⟨p, cap, hv⟩ := hr.val
  have hv : vs = .slice p zs.length cap := hv
  subst hv
  exact l_tells kind l k hr hn (bd_i64 _ h1) (bd_i64 _ h2) (bd_i64 _ h3) hl
end Go.Proofs.Ythdljlclcepnhaa
