/- The walk of SheetReads. -/
import Derived.Test.YthdljlclcepnhaaGreatSr12
import Derived.Test.YthdljlclcepnhaaGreatSr10
import Derived.Test.YthdljlclcepnhaaGreatBL2
namespace Go.Proofs.YthdljlclcepnhaaGreat
open Go.RowKit Nl Sh

theorem Sh.read_size {s : List UInt8} {L K : Int} {zs : List (Int × Int)} (h : readV s = .inr (L, K, zs)) : 2 * zs.length ≤ s.length := by
  unfold readV at h
  split at h
  · cases h
  · cases hr : runR (0, 0, 0, []) (linesF 1 s) with
    | inl n => rw [hr] at h; cases h
    | inr st =>
      have h1 := run_size hr
      rw [hr] at h
      simp only at h
      split at h
      · simp only [Sum.inr.injEq, Prod.mk.injEq] at h
        rw [← h.2.2]; exact h1
      · cases h
/-- What Read gives, by the one word of both. -/
def ReadBoth (kind : Int) (s : List UInt8) (w : World) (e : Ending) (w' : World) : Prop :=
  (∃ (n er : Int), readK kind s = .inl (n.toNat, er) ∧ 0 ≤ n ∧ er ≠ 0 ∧ e = .returned (.tuple #[.pointer none, .int .i64 n, .int .i64 er]) ∧ Below w.heap.size w w') ∨
  ∃ (L K : Int) (zs : List Nd) (dg q g h : Nat), readK kind s = .inr (L, K, zs) ∧ 2 * zs.length ≤ s.length ∧ e = .returned (.tuple #[.pointer (some ⟨dg, 0, none⟩), .int .i64 0, .int .i64 0]) ∧ DgV w' dg q g h kind L K 2000 zs ∧ Below w.heap.size w w'
theorem Sh.read_both {kind : Int} {s : List UInt8} {w w' : World} {e : Ending} (h : ReadSh kind s w e w') : ReadBoth kind s w e w' := by
  rcases h with ⟨n, er, hr, rfl, hb⟩ | ⟨L, K, zs, hr, (⟨hp, rfl, hb⟩ | ⟨hp, dg, q, g, h, rfl, d, -, -, -, -, hb⟩)⟩
  · refine .inl ⟨n, er, ?_, by omega, read_err hr, rfl, hb⟩
    unfold readK; rw [hr]; rfl
  · refine .inl ⟨0, 2, ?_, by omega, by decide, rfl, hb⟩
    unfold readK; rw [hr]; dsimp only; rw [if_neg (by rw [hp]; simp)]; rfl
  · refine .inr ⟨L, K, zs, dg, q, g, h, ?_, read_size hr, rfl, d, hb⟩
    unfold readK; rw [hr]; dsimp only; rw [if_pos hp]
set_option maxRecDepth 100000 in
set_option maxHeartbeats 8000000 in
theorem SheetReads_walk (s : ByteArray) (kind : Int) (w : World) (_hs : s.size ≤ maxLen) (bk : In64 kind) :
    Calls Tryz.prog 3 #[.string s, .int .i64 kind] w fun e w' => e = .returned (.bool true) ∧ Below w.heap.size w w' := by
  have A := hid (fun W : World => s_alive W)
  by_cases hT : 3000 < s.size
  · have z : decide ((3000 : Int) < (s.size : Int)) = true := decide_eq_true (by omega)
    have z2 : decide (3000 < s.size) = true := decide_eq_true hT
    clear _hs
    go_enter Tryz.func3, Tryz.ntmps3
    go_wp2_with fail
    refine (A.out _).mono ?_
    rintro e w3 ⟨rfl, hb3⟩
    go_wp2_with fail
    go_ret
    exact ⟨rfl, hb3⟩
  · have z : decide ((3000 : Int) < (s.size : Int)) = false := decide_eq_false (by omega)
    have z2 : decide (3000 < s.size) = false := decide_eq_false hT
    have RR := hid (r_read s kind w (by omega) bk)
    have RE := hid (fun W => (s_read s kind W (by omega) (fun st h => by
      have h1 := run_size h
      have hl : s.data.toList.length = s.size := by simp
      omega)).mono (fun e w' h => read_both h))
    have hsl : s.data.toList.length = s.size := by simp
    have HSL : Hid (∀ zs : List Nd, 2 * zs.length ≤ s.data.toList.length → zs.length ≤ 4000) := fun zs h => by omega
    clear _hs hT hsl
    go_enter Tryz.func3, Tryz.ntmps3
    go_wp2_with fail
    refine RR.out.mono ?_
    rintro e w2 (⟨n, er, hk, rfl, hb2⟩ | ⟨L, K, zs, v, hk, rfl, hr, hb2⟩)
    · have HK := hid hk
      have X3 := Blk.new w2 #[.int .i64 0, .int .i64 0, .slice none 0 0] 27
      have hb3 := hb2.alloc hb2.size (.cells #[.int .i64 0, .int .i64 0, .slice none 0 0] 27)
      clear hk hb2 RR z z2
      go_upto_region 4 with fail
      generalize w2.alloc (.cells #[.int .i64 0, .int .i64 0, .slice none 0 0] 27) = w3 at *
      have x1 : w3.cell? ⟨w2.heap.size, 1, none⟩ = some (.int .i64 0) := X3.cell 1
      go_cut [29] (fun b wx => b = .bool false ∧ w3 = wx)
      case first =>
        cases z1 : (kind == 1)
        all_goals
          go_wp2_with fail
          go_meet
          exact ⟨rfl, rfl⟩
      case rest =>
        obtain ⟨rfl, rfl⟩ := hcut
        clear x1 X3
        go_wp2_with fail
        refine (RE.out _).mono ?_
        rintro e w4 (⟨n', er', hk', hn', her, rfl, hb4⟩ | ⟨L, K, zs, dg, q, g, h, hk', -⟩)
        · have e1 := HK.out.symm.trans hk'
          simp only [Sum.inl.injEq, Prod.mk.injEq] at e1
          obtain ⟨e1, rfl⟩ := e1
          obtain rfl : n' = (n : Int) := by omega
          have z1 : (er != 0) = true := by simpa using her
          have hbw := hb3.trans (hb4.mono hb3.size)
          clear e1 hk' HK RE her
          go_wp2_with fail
          refine (A.out _).mono ?_
          rintro e w5 ⟨rfl, hb5⟩
          go_wp2_with fail
          go_ret
          exact ⟨rfl, hbw.trans (hb5.mono hbw.size)⟩
        · exact absurd (HK.out.symm.trans hk') (by simp)
    · have HK := hid hk
      obtain ⟨p, cap, rfl⟩ := hr.val
      have X3 := Blk.new w2 #[.int .i64 K, .int .i64 L, .slice p zs.length cap] 27
      have hbb : Below w2.heap.size w2 (w2.alloc (.cells #[.int .i64 K, .int .i64 L, .slice p zs.length cap] 27)) := (Below.refl _ _).alloc (Nat.le_refl _) _
      have hb3 := hb2.trans (hbb.mono hb2.size)
      have hr3 := hr.below hbb (Nat.le_refl _)
      clear hk hb2 RR z z2 hr hbb
      go_upto_region 4 with fail
      generalize w2.alloc (.cells #[.int .i64 K, .int .i64 L, .slice p zs.length cap] 27) = w3 at *
      have x1 : w3.cell? ⟨w2.heap.size, 1, none⟩ = some (.int .i64 L) := X3.cell 1
      obtain ⟨G, eG⟩ : ∃ G, ((kind == 1) && decide (12 < L)) = G := ⟨_, rfl⟩
      have HG := hid eG
      clear eG
      go_cut [29] (fun b wx => b = .bool G ∧ w3 = wx)
      case first =>
        cases z1 : (kind == 1) <;> cases z2 : decide (12 < L)
        all_goals
          have HE := HG.out
          rw [z1, z2] at HE
          have HE := hid HE
          clear HG
          go_wp2_with fail
          go_meet
          exact ⟨by rw [← HE.out]; rfl, rfl⟩
      case rest =>
        obtain ⟨rfl, rfl⟩ := hcut
        clear x1 HG
        cases G
        · go_wp2_with fail
          refine (RE.out _).mono ?_
          rintro e w4 (⟨n', er', hk', -⟩ | ⟨L', K', zs', dg, q, g, h, hk', hz, rfl, d, hb4⟩)
          · exact absurd (HK.out.symm.trans hk') (by simp)
          · have e1 := HK.out.symm.trans hk'
            simp only [Sum.inr.injEq, Prod.mk.injEq] at e1
            obtain ⟨rfl, rfl, rfl⟩ := e1
            have X4 := X3.below hb4 (Nat.le_refl _)
            have hr4 := hr3.below hb4 (Nat.le_refl _)
            have hbw := hb3.trans (hb4.mono hb3.size)
            have LK := hid (d_like14 d (by decide) hr4 (HSL.out _ hz))
            have x0 : w4.cell? ⟨w2.heap.size, 0, none⟩ = some (.int .i64 K) := X4.cell 0
            have x1 : w4.cell? ⟨w2.heap.size, 1, none⟩ = some (.int .i64 L) := X4.cell 1
            have x2 : w4.cell? ⟨w2.heap.size, 2, none⟩ = some (.slice p zs.length cap) := X4.cell 2
            clear hk' HK RE hz d hr4 hr3 X3 X4 hb4
            go_wp2_with fail
            refine LK.out.mono ?_
            rintro e w5 ⟨rfl, hb5⟩
            have hbw5 := hbw.trans (hb5.mono hbw.size)
            go_wp2_with fail
            refine (A.out _).mono ?_
            rintro e w6 ⟨rfl, hb6⟩
            go_wp2_with fail
            go_ret
            exact ⟨rfl, hbw5.trans (hb6.mono hbw5.size)⟩
        · go_wp2_with fail
          refine (A.out _).mono ?_
          rintro e w6 ⟨rfl, hb6⟩
          go_wp2_with fail
          go_ret
          exact ⟨rfl, hb3.trans (hb6.mono hb3.size)⟩
end Go.Proofs.YthdljlclcepnhaaGreat
