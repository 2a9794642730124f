/- The walks of package digest: what a digest is; New, N, Len, Cap, Room, Nodes, Conf, Compress. -/
import Derived.Test.YthdljlclcepnhaaGreatDgTwig
namespace Go.Proofs.YthdljlclcepnhaaGreat
open Go.RowKit Nl

/-- A digest: its block dg, its pool's blocks; its kind, bits, k; its nodes. -/
def DgV (w : World) (dg q g h : Nat) (kind l k : Int) (m : Nat) (zs : List Nd) : Prop :=
  Blk w dg #[.int .i64 k, .pointer (some ⟨q, 0, none⟩)] 104 ∧ PoolV w q g h kind l m zs ∧ dg ≠ q ∧ dg ≠ g ∧ dg ≠ h ∧ Dg l k zs
/-- The blocks of a digest. -/
def DB (dg q g h k : Nat) : Prop := k = dg ∨ PB q g h k
section
variable {w w' : World} {dg q g h m B : Nat} {kind l k : Int} {zs : List Nd}
theorem DgV.ltB (d : DgV w dg q g h kind l k m zs) : ∀ j, DB dg q g h j → j < w.heap.size := fun j hj => by
  rcases hj with e | e
  · rw [e]; exact d.1.lt
  · exact d.2.1.ltB j e
theorem DgV.keepB (d : DgV w dg q g h kind l k m zs) (hk : ∀ j, j < w.heap.size → DB dg q g h j → w'.heap[j]? = w.heap[j]?) : DgV w' dg q g h kind l k m zs :=
  ⟨d.1.keep (hk dg d.1.lt (.inl rfl)), d.2.1.keepB (fun j h1 h2 => hk j h1 (.inr h2)), d.2.2⟩
theorem DgV.below (d : DgV w dg q g h kind l k m zs) (hb : Below B w w') (hB : w.heap.size ≤ B) : DgV w' dg q g h kind l k m zs := d.keepB (fun j h1 _ => hb.block j (by omega))
theorem DgV.inv (d : DgV w dg q g h kind l k m zs) : Dg l k zs := d.2.2.2.2.2
theorem DgV.apart (d : DgV w dg q g h kind l k m zs) (hp : PB q g h dg) : False := by
  obtain ⟨_, _, n1, n2, n3, _⟩ := d
  rcases hp with e | e | e
  · exact n1 e
  · exact n2 e
  · exact n3 e
theorem DgV.pool (d : DgV w dg q g h kind l k m zs) : PoolV w q g h kind l m zs := d.2.1
end

/-- What comes of a call that may turn a digest. -/
def DgPost (dg q g h0 : Nat) (kind l k : Int) (m : Nat) (R : List Nd × Int) (w : World) (e : Ending) (w' : World) : Prop :=
  e = .returned (.int .i64 R.2) ∧ ∃ h, DgV w' dg q g h kind l k m R.1 ∧ (h = h0 ∨ w.heap.size ≤ h) ∧ ChB (DB dg q g h0) w w'
/-- A new digest. -/
def DgNew (kind l k : Int) (m : Nat) (zs : List Nd) (w : World) (e : Ending) (w' : World) : Prop :=
  ∃ dg q g h, e = .returned (.tuple #[.pointer (some ⟨dg, 0, none⟩), .int .i64 0]) ∧ DgV w' dg q g h kind l k m zs ∧ w.heap.size ≤ dg ∧ w.heap.size ≤ q ∧ w.heap.size ≤ g ∧ w.heap.size ≤ h ∧ Below w.heap.size w w'

/-- A digest whose pool was turned. -/
theorem DgV.turned {w w2 : World} {dg q g h m h' : Nat} {kind l k n : Int} {zs Z : List Nd} (d : DgV w dg q g h kind l k m zs) (c : ChB (PB q g h) w w2) (dp : PoolV w2 q g h' kind l m Z) (hh : h' = h ∨ w.heap.size ≤ h') (i : Dg l k Z) :
    DgPost dg q g h kind l k m (Z, n) w (.returned (.int .i64 n)) w2 := by
  obtain ⟨b, _, n1, n2, n3, _⟩ := d
  refine ⟨rfl, h', ⟨b.keep (c.block dg b.lt (fun hp => ?_)), dp, n1, n2, ?_, i⟩, hh, c.mono (fun _ _ hp => .inr hp)⟩
  · rcases hp with e | e | e
    · exact n1 e
    · exact n2 e
    · exact n3 e
  · have := b.lt
    rcases hh with e | e
    · rw [e]; exact n3
    · omega

section
variable {w : World} {dg q g h m : Nat} {kind l k : Int} {zs : List Nd}
set_option maxRecDepth 100000 in
set_option maxHeartbeats 400000 in
theorem dg_n (d : DgV w dg q g h kind l k m zs) :
    Calls Tryz.prog 27 #[.pointer (some ⟨dg, 0, none⟩)] w fun e w' => e = .returned (.int .i64 (sumL zs)) ∧ w = w' := by
  have T := hid (pl_total d.pool)
  have c0 : w.cell? ⟨dg, 0, none⟩ = some (.int .i64 k) := d.1.cell 0
  have c1 : w.cell? ⟨dg, 1, none⟩ = some (.pointer (some ⟨q, 0, none⟩)) := d.1.cell 1
  clear d
  go_enter Tryz.func27, Tryz.ntmps27
  go_wp2_with fail
  refine T.out.mono ?_
  rintro e w' ⟨rfl, rfl⟩
  go_wp2_with fail
  go_ret
  exact ⟨rfl, rfl⟩
set_option maxRecDepth 100000 in
set_option maxHeartbeats 400000 in
theorem dg_len (d : DgV w dg q g h kind l k m zs) :
    Calls Tryz.prog 99 #[.pointer (some ⟨dg, 0, none⟩)] w fun e w' => e = .returned (.int .i64 zs.length) ∧ w = w' := by
  have T := hid (pl_len d.pool)
  have c0 : w.cell? ⟨dg, 0, none⟩ = some (.int .i64 k) := d.1.cell 0
  have c1 : w.cell? ⟨dg, 1, none⟩ = some (.pointer (some ⟨q, 0, none⟩)) := d.1.cell 1
  clear d
  go_enter Tryz.func99, Tryz.ntmps99
  go_wp2_with fail
  refine T.out.mono ?_
  rintro e w' ⟨rfl, rfl⟩
  go_wp2_with fail
  go_ret
  exact ⟨rfl, rfl⟩
set_option maxRecDepth 100000 in
set_option maxHeartbeats 400000 in
theorem dg_nodes (d : DgV w dg q g h kind l k m zs) (hm : m ≤ 100000) :
    Calls Tryz.prog 26 #[.pointer (some ⟨dg, 0, none⟩)] w (IsNodes zs w) := by
  have T := hid (pl_snap d.pool hm)
  have c0 : w.cell? ⟨dg, 0, none⟩ = some (.int .i64 k) := d.1.cell 0
  have c1 : w.cell? ⟨dg, 1, none⟩ = some (.pointer (some ⟨q, 0, none⟩)) := d.1.cell 1
  clear d
  go_enter Tryz.func26, Tryz.ntmps26
  go_wp2_with fail
  refine T.out.mono ?_
  rintro e w' hN
  obtain ⟨v, rfl, hr, hb⟩ := hN
  go_wp2_with fail
  go_ret
  exact ⟨v, rfl, hr, hb⟩
set_option maxRecDepth 100000 in
set_option maxHeartbeats 400000 in
theorem dg_made_room (k1 : 1 ≤ k) (k2 : k ≤ 1048576) (w : World) :
    Calls Tryz.prog 100 #[.agg #[.int .i64 k]] w fun e w' => e = .returned (.int .i64 (8 * k)) ∧ Below w.heap.size w w' := by
  go_enter Tryz.func100, Tryz.ntmps100
  go_wp2_with fail
  go_ret
  exact ⟨rfl, (Below.refl _ _).alloc (Nat.le_refl _) _⟩
set_option maxRecDepth 100000 in
set_option maxHeartbeats 1000000 in
theorem dg_compress (d : DgV w dg q g h kind l k m zs) (hm : m ≤ 100000) (hz : zs.length + 1 ≤ m) (hz2 : zs.length ≤ 2000) :
    Calls Tryz.prog 60 #[.pointer (some ⟨dg, 0, none⟩)] w (DgPost dg q g h kind l k m ((comL l k zs).1, ((comL l k zs).2.length : Int)) w) := by
  have k1 := d.inv.k1
  have k2 := d.inv.k2
  have eK : isK k = true := by simp [isK]; omega
  have U := hid (fun n => p_Run k eK (d.keepB (w' := w.drewN n) (fun _ _ _ => rfl)).pool hm hz hz2)
  have dc := d.inv.com.1
  unfold comL at dc
  have c0 : w.cell? ⟨dg, 0, none⟩ = some (.int .i64 k) := d.1.cell 0
  have c1 : w.cell? ⟨dg, 1, none⟩ = some (.pointer (some ⟨q, 0, none⟩)) := d.1.cell 1
  unfold comL
  generalize runR l (capV (sumL zs) k) zs = R at *
  obtain ⟨Z, st⟩ := R
  simp only at dc
  have hst : Hid (((Z, st) : List Nd × List Int).2.length = st.length) := rfl
  clear eK
  go_enter Tryz.func60, Tryz.ntmps60
  go_wp2_with fail
  go_region_held3 (fun w' => w'.cell? ⟨dg, 0, none⟩ = some (.int .i64 k) ∧ w'.cell? ⟨dg, 1, none⟩ = some (.pointer (some ⟨q, 0, none⟩)))
    (first | exact ⟨c0, c1⟩ | exact ⟨z0, z1⟩)
    ((go_at_call 96; refine (U.out _).mono ?_; rintro e w2 ⟨rfl, h', dp, hh, ch⟩
      have D2 := hid (d.turned (n := (st.length : Int)) ⟨ch.os, ch.tape, ch.output, ch.size, ch.block⟩ dp hh dc)
      have b2 := d.1.keep (ch.block dg d.1.lt (fun hp => d.apart hp))
      have z0 : w2.cell? ⟨dg, 0, none⟩ = some (.int .i64 k) := b2.cell 0
      have z1 : w2.cell? ⟨dg, 1, none⟩ = some (.pointer (some ⟨q, 0, none⟩)) := b2.cell 1
      clear dp hh ch b2))
  go_wp2_with fail
  go_ret
  exact D2.out
end
end Go.Proofs.YthdljlclcepnhaaGreat
