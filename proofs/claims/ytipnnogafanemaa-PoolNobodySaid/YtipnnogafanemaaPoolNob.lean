/- The walk of PoolNobody. -/
import Derived.Test.YtipnnogafanemaaPoolNil
import Derived.Test.YtipnnogafanemaaPool8
namespace Go.Proofs.Ytipnnogafanemaa
open Go.RowKit Nl

attribute [local go_sem] Oper.semAt_some

set_option maxRecDepth 100000 in
set_option maxHeartbeats 2000000 in
/-- The iterator of a pool that is nil: no round. -/
theorem each_nil_stops {w : World} {Kp : World → World → Prop} (n : Nat) (hn : 1 ≤ n) (b : Nat) (hb : b < w.heap.size) (hc : w.cell? ⟨b, 0, none⟩ = some (.pointer none)) :
    SeqStopsK Fence.wide n Try.prog 62 #[.pointer (some ⟨b, 0, none⟩)] (fun x : Empty => x.elim) Kp (fun _ => True) (fun _ => False) 0 w := fun l0 J Jx W hW hJ hJx hY h0 => by
  have hc' := (hW.cell (p := ⟨b, 0, none⟩) hb).trans hc
  have SN := hid (nl_snap W)
  clear hJ hJx hY
  refine callsIn_of_wp Try.func62 rfl trivial ?_ rfl
  simp only [Try.ntmps62, List.size_toArray, List.length_cons, List.length_nil, Nat.reduceAdd, Nat.reduceSub, Array.replicate_succ, Array.replicate_zero, List.push_toArray, List.append_toArray, List.nil_append, List.cons_append]
  gi_wp2_with (refine ⟨trivial, ?_⟩; gi_at_call 28; refine (callsIn_wide.2 SN.out).mono ?_; rintro e W1 ⟨rfl, rfl⟩)
  gi_loopw [8] (fun i wr => i = .int .i64 0 ∧ J [] wr) (fun _ _ => 0)
  case atStart => exact ⟨rfl, h0⟩
  case round =>
    obtain ⟨rfl, hJs⟩ := hrel
    gi_wp2
    go_end0
    exact ⟨⟨_, rfl⟩, .inl ⟨[], trivial, hJs⟩⟩

set_option maxRecDepth 100000 in
set_option maxHeartbeats 4000000 in
theorem PoolNobody_walk (kind id c : Int) (w : World) (_hk0 : -9223372036854775808 ≤ kind) (_hk1 : kind ≤ 9223372036854775807) (_hi0 : -9223372036854775808 ≤ id) (_hi1 : id ≤ 9223372036854775807) (_hc0 : -9223372036854775808 ≤ c) (_hc1 : c ≤ 9223372036854775807) :
    Calls Try.prog 10 #[.int .i64 kind, .int .i64 id, .int .i64 c] w fun e w' => e = .returned (.bool true) ∧ Below w.heap.size w w' := by
  have A := hid (fun W : World => p9_alive W)
  have R := Blk.new w #[.bool false] 4
  have hb0 : Below w.heap.size w (w.alloc (.cells #[.bool false] 4)) := (Below.refl _ _).alloc (Nat.le_refl _) _
  have hs0 : (w.alloc (.cells #[.bool false] 4)).heap.size = w.heap.size + 1 := by simp
  have N := hid (fun W => pl_new 2 9 W (by decide))
  refine (callsIn_wide (n := 5)).1 ?_
  refine callsIn_of_wp_marks Try.func10 rfl trivial ?_ rfl
  simp only [Try.ntmps10, List.size_toArray, List.length_cons, List.length_nil, Nat.reduceAdd, Nat.reduceSub, Array.replicate_succ, Array.replicate_zero, List.push_toArray, List.append_toArray, List.nil_append, List.cons_append]
  gi_wp2_with fail
  refine ⟨trivial, ?_⟩
  gi_at_call 44
  refine (callsIn_wide.2 (nl_turn kind _)).mono ?_
  rintro e w' ⟨rfl, rfl⟩
  gi_wp2_with fail
  refine ⟨trivial, ?_⟩
  gi_at_call 24
  refine (callsIn_wide.2 (N.out _)).mono ?_
  rintro e W1 ⟨q, g, h, rfl, d1, hq, hg, hh, hb1⟩
  have hs1 := hb1.size
  have R1 := R.below hb1 (Nat.le_refl _)
  gi_wp2_with fail
  refine ⟨trivial, ?_⟩
  gi_at_call 26
  refine (callsIn_wide.2 (nl_same _)).mono ?_
  rintro e w' ⟨rfl, rfl⟩
  gi_wp2_with fail
  refine ⟨trivial, ?_⟩
  gi_at_call 26
  refine (callsIn_wide.2 (nl_same1 q _)).mono ?_
  rintro e w' ⟨rfl, rfl⟩
  gi_wp2_with fail
  refine ⟨trivial, ?_⟩
  gi_at_call 26
  refine (callsIn_wide.2 (nl_same2 q _)).mono ?_
  rintro e w' ⟨rfl, rfl⟩
  gi_wp2_with fail
  refine ⟨trivial, ?_⟩
  gi_at_call 23
  refine (callsIn_wide.2 (pl_each none _)).mono ?_
  rintro e w' ⟨rfl, rfl⟩
  have hfn := run_func_nil (P := Try.prog) (T := 44) Try.underlying44 (.func 62) #[] #[.pointer (some ⟨W1.heap.size, 0, none⟩)] (W1.alloc (.cells #[.pointer none] 29))
  gi_wp2_with fail
  have hbw1 : Below w.heap.size w W1 := hb0.trans (hb1.mono (by omega))
  have hsz0 : (W1.alloc (.cells #[.pointer none] 29)).heap.size = W1.heap.size + 1 := by simp
  have P0 := Blk.new W1 #[.pointer none] 29
  have hb2 : Below W1.heap.size W1 (W1.alloc (.cells #[.pointer none] 29)) := (Below.refl _ _).alloc (Nat.le_refl _) _
  have hbw2 := hbw1.trans (hb2.mono (by omega))
  have R2 := R1.below hb2 (Nat.le_refl _)
  clear hfn N d1
  generalize (W1.alloc (.cells #[.pointer none] 29)) = w0 at *
  have p0 : w0.cell? ⟨W1.heap.size, 0, none⟩ = some (.pointer none) := P0.cell 0
  have st : Steady (fun _ _ => False) := fun _ _ _ _ _ _ _ h => h
  refine wpIn_rangeFunc_ownG (F := Fence.wide) rfl (by decide) (gf := 62) (lb := #[.pointer (some ⟨W1.heap.size, 0, none⟩)]) rfl trivial (enters_of Try.func62 (by kernel_rfl) rfl)
    (each_nil_stops (Kp := KpS (fun _ _ => False)) 4 (by decide) W1.heap.size (by omega) p0) (fun h k => h.trans k) (fun W l o o' _ h hc _ => KpS.putObj st W l o o' h hc) (Below.refl _ _) (fun x => x.elim)
    (fun _ W => Blk W w.heap.size #[.bool false] 4 ∧ Below w.heap.size w W)
    (fun _ _ _ => False)
    (OwnFrom.and (Own.from (fun s A B row hs hg hr => (grownBy_keeps_cells hg hr hs rfl).trans hs) _) (ownFrom_below (Nat.le_refl _) (by omega)))
    (fun _ _ _ _ _ hs _ _ => hs)
    ⟨R2, hbw2⟩
    (fun x => x.elim) ?assign ?body ?done ?stop
  case assign => exact fun _ x => x.elim
  case body => exact fun _ _ x => x.elim
  case stop => exact fun _ _ _ _ _ _ h => h.elim
  case done =>
    rintro D ys W hD - ⟨br, hB⟩ hK
    gi_wp2_with (first
      | (refine ⟨trivial, ?_⟩; gi_at_call 45; refine (callsIn_wide.2 (nl_kind _)).mono ?_; rintro e w' ⟨rfl, rfl⟩)
      | (refine ⟨trivial, ?_⟩; gi_at_call 46; refine (callsIn_wide.2 (nl_l _)).mono ?_; rintro e w' ⟨rfl, rfl⟩)
      | (refine ⟨trivial, ?_⟩; gi_at_call 32; refine (callsIn_wide.2 (nl_len _)).mono ?_; rintro e w' ⟨rfl, rfl⟩)
      | (refine ⟨trivial, ?_⟩; gi_at_call 29; refine (callsIn_wide.2 (nl_total _)).mono ?_; rintro e w' ⟨rfl, rfl⟩)
      | (refine ⟨trivial, ?_⟩; gi_at_call 33; refine (callsIn_wide.2 (nl_get _ _)).mono ?_; rintro e w' ⟨rfl, rfl⟩)
      | (refine ⟨trivial, ?_⟩; gi_at_call 47; refine (callsIn_wide.2 (nl_add _ _ _)).mono ?_; rintro e w' ⟨rfl, rfl⟩)
      | (refine ⟨trivial, ?_⟩; gi_at_call 48; refine (callsIn_wide.2 (nl_take _ _)).mono ?_; rintro e w' ⟨rfl, rfl⟩)
      | (refine ⟨trivial, ?_⟩; gi_at_call 28; refine (callsIn_wide.2 (nl_snap _)).mono ?_; rintro e w' ⟨rfl, rfl⟩)
      | (refine ⟨trivial, ?_⟩; gi_at_call 49; refine (callsIn_wide.2 (nl_clone _)).mono ?_; rintro e w' ⟨rfl, rfl⟩)
      | (refine ⟨trivial, ?_⟩; gi_at_call 22; refine (callsIn_wide.2 (A.out _)).mono ?_; rintro e W3 ⟨rfl, hb3⟩; have R3 := br.below hb3 (Nat.le_refl _); have c1 : W3.cell? ⟨w.heap.size, 0, none⟩ = some (.bool false) := R3.cell 0; have f1 := R3.free 0))
    have hs3 := hb3.size
    have hK3 : (W3.setCell ⟨w.heap.size, 0, none⟩ (.bool true)).heap[D]? = some (.deferred (some [])) := (KeepsOthers.setCell W3 ⟨w.heap.size, 0, none⟩ (.bool true)).same D _ ((hb3.block D (Array.getElem?_eq_some_iff.1 hK).1).trans hK) rfl
    refine ⟨by simp, .inl ⟨_, _, rfl, run_takeDeferred hK3, ?_⟩⟩
    have c5 := cell_kept (World.cell?_setCell_same' W3 ⟨w.heap.size, 0, none⟩ (.bool true) (by rw [c1]; rfl)) (grownBy_putObj' _ D (.deferred none)) (fun r e => by cases e; exact ⟨_, hK3, rfl⟩)
    refine ⟨_, by simp [results, Try.f10, go_sem, c5], rfl, ?_⟩
    exact ((hB.trans (hb3.mono hB.size)).setCell (p := ⟨w.heap.size, 0, none⟩) (Nat.le_refl _) _).trans (belowK_b (w := w) (Nat.le_refl _) _ D _ _ (by omega) hK3 rfl rfl)
end Go.Proofs.Ytipnnogafanemaa
