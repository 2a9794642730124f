/- The walk of DigestLoads. -/
import Derived.Test.YtejoecoenehooaaGreatDr5
namespace Go.Proofs.YtejoecoenehooaaGreat
open Go.RowKit Nl

set_option maxRecDepth 100000 in
set_option maxHeartbeats 4000000 in
theorem DigestLoads_walk (l k kind : Int) (v : Value) (zs : List Nd) (w : World) (bl : In64 l) (bk : In64 k) (_bkind : In64 kind) (ho : RdA w v zs) :
    Calls Tryz.prog 5 #[.agg #[.int .i64 l, .int .i64 k, .int .i64 kind], v] w fun e w' => e = .returned (.bool true) ∧ Below w.heap.size w w' := by
  have A := hid (fun W : World => d_alive W)
  obtain ⟨hr, hn, hlen⟩ := ho
  obtain ⟨p, cap, rfl⟩ := hr.val
  have hba : Below w.heap.size w (w.alloc (.cells #[.int .i64 l, .int .i64 k, .int .i64 kind] 44)) := (Below.refl _ _).alloc (Nat.le_refl _) _
  have X := Blk.new w #[.int .i64 l, .int .i64 k, .int .i64 kind] 44
  have hsx : (w.alloc (.cells #[.int .i64 l, .int .i64 k, .int .i64 kind] 44)).heap.size = w.heap.size + 1 := by simp
  have hr1 := hr.below hba (Nat.le_refl _)
  obtain ⟨l1, l2⟩ := id bl
  by_cases hbig : 100 < zs.length
  · go_enter Tryz.func5, Tryz.ntmps5
    go_wp2_with fail
    refine (A.out _).mono ?_
    rintro e w2 ⟨rfl, hb2⟩
    go_wp2_with fail
    go_ret
    exact ⟨rfl, hba.trans (hb2.mono (by omega))⟩
  by_cases hdl : kind = 1 ∧ 10 < l
  · obtain ⟨rfl, hl10⟩ := hdl
    go_enter Tryz.func5, Tryz.ntmps5
    go_wp2_with fail
    refine (A.out _).mono ?_
    rintro e w2 ⟨rfl, hb2⟩
    go_wp2_with fail
    go_ret
    exact ⟨rfl, hba.trans (hb2.mono (by omega))⟩
  by_cases h0 : loadE kind l k zs = 0
  · have L := hid (fun W (q : RdN W (.slice p zs.length cap) zs) => dg_load kind l k q hn (by omega) h0)
    have R := hid (fun W (q : RdN W (.slice p zs.length cap) zs) => r_dload kind l k q hn (by omega) bl h0)
    clear h0
    go_enter Tryz.func5, Tryz.ntmps5
    go_upto_region 1 with fail
    go_cut [21] (fun s wx => s = .bool false ∧ w.alloc (.cells #[.int .i64 l, .int .i64 k, .int .i64 kind] 44) = wx)
    case first =>
      rcases (show (kind == 1) = true ∧ l ≤ 10 ∨ (kind == 1) = false by
        by_cases e : kind = 1
        · left; exact ⟨by simp [e], by omega⟩
        · right; simpa using e) with ⟨hk1, hl10⟩ | hk1
      all_goals
        go_wp2_with fail
        go_meet
        exact ⟨by simp <;> omega, rfl⟩
    case rest =>
      obtain ⟨rfl, rfl⟩ := hcut
      clear hdl
      go_wp2_with fail
      refine (L.out _ hr1).mono ?_
      rintro e w2 ⟨dg, q, g, h, rfl, d, hdg, hq, hg, hh, hb2⟩
      generalize (w.alloc (.cells #[.int .i64 l, .int .i64 k, .int .i64 kind] 44)) = w1 at *
      have X2 := X.below hb2 (Nat.le_refl _)
      have hr2 := hr1.below hb2 (Nat.le_refl _)
      have hB2 := hba.trans (hb2.mono hba.size)
      have x0 : w2.cell? ⟨w.heap.size, 0, none⟩ = some (.int .i64 l) := X2.cell 0
      have x1 : w2.cell? ⟨w.heap.size, 1, none⟩ = some (.int .i64 k) := X2.cell 1
      have x2 : w2.cell? ⟨w.heap.size, 2, none⟩ = some (.int .i64 kind) := X2.cell 2
      go_wp2_with fail
      refine (R.out _ hr2).mono ?_
      rintro e w3 ⟨rfl, hb3⟩
      have X3 := X2.below hb3 (Nat.le_refl _)
      have hr3 := hr2.below hb3 (Nat.le_refl _)
      have d3 := d.below hb3 (Nat.le_refl _)
      have hB3 := hB2.trans (hb3.mono hB2.size)
      have hb4 : Below w3.heap.size w3 (w3.alloc (.cells #[.int .i64 k, .int .i64 l, .slice p zs.length cap] 52)) := (Below.refl _ _).alloc (Nat.le_refl _) _
      have X4 := X3.below hb4 (Nat.le_refl _)
      have Y4 := Blk.new w3 #[.int .i64 k, .int .i64 l, .slice p zs.length cap] 52
      have hr4 := hr3.below hb4 (Nat.le_refl _)
      have d4 := d3.below hb4 (Nat.le_refl _)
      have hB4 := hB3.trans (hb4.mono hB3.size)
      have LK := hid (d_like d4 (by decide) hr4 (by omega))
      have y0 : World.cell? _ ⟨w.heap.size, 0, none⟩ = some (.int .i64 l) := X4.cell 0
      have y1 : World.cell? _ ⟨w.heap.size, 1, none⟩ = some (.int .i64 k) := X4.cell 1
      have y2 : World.cell? _ ⟨w.heap.size, 2, none⟩ = some (.int .i64 kind) := X4.cell 2
      clear X2 hr2 d X3 hr3 d3 hb2 hb3 x0 x1 x2 X hr1 L R
      go_wp2_with fail
      refine LK.out.mono ?_
      rintro e w5 ⟨rfl, hb5⟩
      have hB5 := hB4.trans (hb5.mono hB4.size)
      go_wp2_with fail
      refine (A.out _).mono ?_
      rintro e w6 ⟨rfl, hb6⟩
      go_wp2_with fail
      go_ret
      exact ⟨rfl, hB5.trans (hb6.mono hB5.size)⟩
  · have L := hid (fun W (q : RdN W (.slice p zs.length cap) zs) => dg_load_no kind l k q hn (by omega) bl bk h0)
    have R := hid (fun W (q : RdN W (.slice p zs.length cap) zs) => r_dload_no kind l k q hn (by omega) bl h0)
    have e1 : (loadE kind l k zs != loadE kind l k zs) = false := by simp
    have e2 : (loadE kind l k zs != 0) = true := by simpa using h0
    generalize loadE kind l k zs = E at *
    clear h0
    go_enter Tryz.func5, Tryz.ntmps5
    go_upto_region 1 with fail
    go_cut [21] (fun s wx => s = .bool false ∧ w.alloc (.cells #[.int .i64 l, .int .i64 k, .int .i64 kind] 44) = wx)
    case first =>
      rcases (show (kind == 1) = true ∧ l ≤ 10 ∨ (kind == 1) = false by
        by_cases e : kind = 1
        · left; exact ⟨by simp [e], by omega⟩
        · right; simpa using e) with ⟨hk1, hl10⟩ | hk1
      all_goals
        go_wp2_with fail
        go_meet
        exact ⟨by simp <;> omega, rfl⟩
    case rest =>
      obtain ⟨rfl, rfl⟩ := hcut
      clear hdl
      go_wp2_with fail
      refine (L.out _ hr1).mono ?_
      rintro e w2 ⟨rfl, hb2⟩
      have X2 := X.below hb2 (Nat.le_refl _)
      have hr2 := hr1.below hb2 (Nat.le_refl _)
      have hB2 := hba.trans (hb2.mono hba.size)
      have x0 : w2.cell? ⟨w.heap.size, 0, none⟩ = some (.int .i64 l) := X2.cell 0
      have x1 : w2.cell? ⟨w.heap.size, 1, none⟩ = some (.int .i64 k) := X2.cell 1
      have x2 : w2.cell? ⟨w.heap.size, 2, none⟩ = some (.int .i64 kind) := X2.cell 2
      go_wp2_with fail
      refine (R.out _ hr2).mono ?_
      rintro e w3 ⟨rfl, hb3⟩
      have hB3 := (hB2.trans (hb3.mono hB2.size)).alloc (hB2.trans (hb3.mono hB2.size)).size (.cells #[.int .i64 0, .int .i64 0, .slice none 0 0] 52)
      go_wp2_with fail
      refine (A.out _).mono ?_
      rintro e w6 ⟨rfl, hb6⟩
      go_wp2_with fail
      go_ret
      exact ⟨rfl, hB3.trans (hb6.mono hB3.size)⟩
end Go.Proofs.YtejoecoenehooaaGreat
