/- The walk of pool.Turn. -/
import Derived.Test.YtipnnogafanemaaTurn1
namespace Go.Proofs.Ytipnnogafanemaa
open Go.RowKit Nl

attribute [local go_sem] Oper.semAt_some

/-- What stands between two rounds: the new pool has what has come. -/
def TurnI (q g b lo : Nat) (kind l : Int) (pre : List N64) (W : World) : Prop :=
  (∃ h, PoolV W q g h kind l pre.length (addAll l (pre.map (·.1))) ∧ lo ≤ h ∧ h ≠ b) ∧ Blk W b #[.pointer (some ⟨q, 0, none⟩)] 29 ∧ (addAll l (pre.map (·.1))).length ≤ pre.length
theorem TurnI.own (q g b lo : Nat) (kind l : Int) : Own (TurnI q g b lo kind l) := fun _ _ _ _ ⟨⟨h, d, h1⟩, h2, h3⟩ hg hr => ⟨⟨h, d.grown hg hr, h1⟩, (grownBy_keeps_cells hg hr h2 rfl).trans h2, h3⟩
theorem TurnI.next {q g b lo h h' : Nat} {kind l : Int} {pre : List N64} {x : N64} {W W' : World} (d : PoolV W q g h kind l pre.length (addAll l (pre.map (·.1)))) (hl : (addAll l (pre.map (·.1))).length ≤ pre.length)
    (d' : PoolV W' q g h' kind l (pre.length + 1) (stAdd l (addAll l (pre.map (·.1))) x.1.1 x.1.2).1) (hh : lo ≤ h' ∧ h' ≠ b) (bb : Blk W' b #[.pointer (some ⟨q, 0, none⟩)] 29) : TurnI q g b lo kind l (pre ++ [x]) W' := by
  have e : addAll l ((pre ++ [x]).map (·.1)) = (stAdd l (addAll l (pre.map (·.1))) x.1.1 x.1.2).1 := by
    rw [List.map_append]; exact addAll_snoc l _ _
  have := d.roll.add_len x.1.1 x.1.2
  refine ⟨⟨h', ?_, hh⟩, bb, ?_⟩
  · rw [e, List.length_append]; exact d'
  · rw [e, List.length_append]; simp only [List.length_singleton]; omega

set_option maxRecDepth 100000 in
set_option maxHeartbeats 4000000 in
theorem pl_turn {w : World} {q g h m : Nat} {kind l : Int} {zs : List Nd} (kind2 : Int) (d : PoolV w q g h kind l m zs) (hm : m ≤ 100000) (hz : zs.length ≤ 100000) (hk : poolIs kind2 l = true) :
    Calls Try.prog 44 #[.pointer (some ⟨q, 0, none⟩), .int .i64 kind2] w (PoolNew kind2 l zs.length zs w) := by
  have hroll := d.roll
  have N := hid (pl_new kind2 l w hk)
  have L := hid (pl_l d)
  refine (callsIn_wide (n := 5)).1 ?_
  refine callsIn_of_wp_marks Try.func44 rfl trivial ?_ rfl
  simp only [Try.ntmps44, List.size_toArray, List.length_cons, List.length_nil, Nat.reduceAdd, Nat.reduceSub, Array.replicate_succ, Array.replicate_zero, List.push_toArray, List.append_toArray, List.nil_append, List.cons_append]
  gi_wp2_with (first
    | (refine ⟨trivial, ?_⟩; gi_at_call 46; refine (callsIn_wide.2 L.out).mono ?_; rintro e w' ⟨rfl, rfl⟩)
    | (refine ⟨trivial, ?_⟩; gi_at_call 24; refine (callsIn_wide.2 N.out).mono ?_; rintro e W1 ⟨q', g', h', rfl, d1, hq, hg, hh, hb1⟩)
    | (refine ⟨trivial, ?_⟩; gi_at_call 23; refine (callsIn_wide.2 (pl_each _ _)).mono ?_; rintro e W2 ⟨rfl, rfl⟩))
  have hs1 := hb1.size
  have hsz0 : ((W1.alloc (.cells #[.pointer (some ⟨q', 0, none⟩)] 29)).alloc (.cells #[.pointer (some ⟨q, 0, none⟩)] 29)).heap.size = W1.heap.size + 2 := by simp
  have N0 := (Blk.new W1 #[.pointer (some ⟨q', 0, none⟩)] 29).alloc (.cells #[.pointer (some ⟨q, 0, none⟩)] 29)
  have P0 := Blk.new (W1.alloc (.cells #[.pointer (some ⟨q', 0, none⟩)] 29)) #[.pointer (some ⟨q, 0, none⟩)] 29
  rw [World.size_alloc] at P0
  have hb2 : Below W1.heap.size W1 ((W1.alloc (.cells #[.pointer (some ⟨q', 0, none⟩)] 29)).alloc (.cells #[.pointer (some ⟨q, 0, none⟩)] 29)) := ((Below.refl _ _).alloc (Nat.le_refl _) _).alloc (by simp) _
  have hbw2 : Below w.heap.size w ((W1.alloc (.cells #[.pointer (some ⟨q', 0, none⟩)] 29)).alloc (.cells #[.pointer (some ⟨q, 0, none⟩)] 29)) := hb1.trans (hb2.mono hs1)
  have d2 := (d.below hb1 (Nat.le_refl _)).below hb2 (Nat.le_refl _)
  have e2 := d1.below hb2 (Nat.le_refl _)
  obtain ⟨lq, lg, lh, _⟩ := d1.lt
  clear N L d
  generalize ((W1.alloc (.cells #[.pointer (some ⟨q', 0, none⟩)] 29)).alloc (.cells #[.pointer (some ⟨q, 0, none⟩)] 29)) = w0 at *
  have p0 : w0.cell? ⟨W1.heap.size + 1, 0, none⟩ = some (.pointer (some ⟨q, 0, none⟩)) := P0.cell 0
  refine wpIn_rangeFunc_ownG (F := Fence.wide) rfl (by decide) (gf := 62) (lb := #[.pointer (some ⟨W1.heap.size + 1, 0, none⟩)]) rfl trivial (enters_of Try.func62 (by kernel_rfl) rfl)
    (each_stops (Safe := SafeP q' g' kind2) 4 (by decide) (W1.heap.size + 1) (by omega) p0 d2 hm (SafeP.steady q' g' kind2) (fun W hW k hk _ => (e2.below hW (Nat.le_refl _)).safe (by omega) (by omega) (by omega))) (fun h k => h.trans k) (fun W l o o' _ h hc _ => KpS.putObj (SafeP.steady q' g' kind2) W l o o' h hc) (Below.refl _ _) (fun _ => rfl)
    (fun pre W => TurnI q' g' W1.heap.size w.heap.size kind2 l pre W ∧ Below w.heap.size w W)
    (fun _ _ _ => False)
    (OwnFrom.and (Own.from (TurnI.own q' g' W1.heap.size w.heap.size kind2 l) _) (ownFrom_below (Nat.le_refl _) (by omega)))
    (fun _ _ _ _ _ hs _ _ => hs)
    ⟨⟨⟨h', e2, hh, by omega⟩, N0, by simp [addAll]⟩, hbw2⟩
    (fun x : N64 => { tmps := #[.pointer (some ⟨q, 0, none⟩), .int .i64 kind2, undef, undef, .pointer none, .int .i64 0, .pointer (some ⟨W1.heap.size, 0, none⟩), .int .i64 0, .int .i64 x.1.1, .int .i64 x.1.2, .pointer (some ⟨q, 0, none⟩), .bool false,
      .tuple #[.pointer (some ⟨q', 0, none⟩), .int .i64 0], .int .i64 kind2, .pointer (some ⟨q, 0, none⟩), .int .i64 l, .tuple #[.pointer (some ⟨q', 0, none⟩), .int .i64 0], .pointer (some ⟨q', 0, none⟩), .int .i64 0, .int .i64 0, .bool false, undef, .pointer (some ⟨q, 0, none⟩),
      .func (.func 62) #[] #[.pointer (some ⟨W1.heap.size + 1, 0, none⟩)], .int .i64 x.1.1, .int .i64 x.1.2, undef, undef, undef, undef, undef], defers := [] }) ?assign ?body ?done ?stop
  case assign =>
    intro l x W K hK
    gi_wp2
    exact hK
  case body =>
    rintro l0 pre ⟨⟨a, c⟩, hx⟩ W ⟨⟨⟨hc, dq, hlo, hcb⟩, bb, hl⟩, hB⟩ hpl
    have b0 : W.cell? ⟨W1.heap.size, 0, none⟩ = some (.pointer (some ⟨q', 0, none⟩)) := bb.cell 0
    have Ad := hid (pl_add (pre.length + 1) a c dq (by omega) (by omega) (by omega) hx.1 hx.2)
    have hsB := hB.size
    dsimp only
    gi_wp2_with (refine ⟨trivial, ?_⟩; gi_at_call 47; refine (CallsIn.inRound l0 (callsIn_wide.2 Ad.out)).mono ?_; rintro e W3 ⟨rfl, hc', d3, hh', tc⟩)
    have hbl := bb.lt
    refine ⟨(dq.others tc).from _, dq.kpS tc d3 hh', TurnI.next (x := ⟨(a, c), hx⟩) dq hl d3 ⟨?_, ?_⟩ (bb.tch tc (by omega) (by omega)), hB.trans (tc.below (by omega) hlo hsB)⟩
    · rcases hh' with rfl | e
      · exact hlo
      · omega
    · rcases hh' with rfl | e
      · exact hcb
      · omega
  case done =>
    rintro D ys W hD hys ⟨⟨⟨hc, dq, hlo, hcb⟩, bb, hl⟩, hB⟩ hK
    have b0 : W.cell? ⟨W1.heap.size, 0, none⟩ = some (.pointer (some ⟨q', 0, none⟩)) := bb.cell 0
    gi_wp2
    have ey : addAll l (ys.map (·.1)) = zs := by
      have e : ys.map (·.1) = zs := hys
      rw [e]; exact addAll_roll hroll
    have eyl : ys.length = zs.length := by
      have e : ys.map (·.1) = zs := hys
      have := congrArg List.length e
      simpa using this
    rw [ey, eyl] at dq
    refine ⟨by simp, .inl ⟨_, _, rfl, run_takeDeferred hK, ?_⟩⟩
    refine ⟨_, by simp [results, Try.f44, go_sem], q', g', hc, rfl, ?_, by omega, by omega, hlo, ?_⟩
    · exact dq.grown (grownBy_putObj' _ D (.deferred none)) (fun r e => by cases e; exact ⟨_, hK, rfl⟩)
    · exact hB.trans (belowK_b (w := w) (Nat.le_refl _) W D _ _ (by omega) hK rfl rfl)
  case stop => exact fun _ _ _ _ _ _ h => h.elim

set_option maxRecDepth 100000 in
set_option maxHeartbeats 1000000 in
theorem pl_turn_no {w : World} {q g h m : Nat} {kind l : Int} {zs : List Nd} (kind2 : Int) (d : PoolV w q g h kind l m zs) (hk : poolIs kind2 l = false) :
    Calls Try.prog 44 #[.pointer (some ⟨q, 0, none⟩), .int .i64 kind2] w fun e w' => e = .returned (.tuple #[.pointer none, .int .i64 2]) ∧ Below w.heap.size w w' := by
  have N := hid (pl_new_no kind2 l w hk)
  have L := hid (pl_l d)
  go_enter Try.func44, Try.ntmps44
  go_wp2_with fail
  refine L.out.mono ?_
  rintro e w' ⟨rfl, rfl⟩
  go_wp2_with fail
  refine N.out.mono ?_
  rintro e w1 ⟨rfl, hb⟩
  go_wp2_with fail
  go_ret2
  exact ⟨rfl, hb.alloc hb.size _⟩
end Go.Proofs.Ytipnnogafanemaa
