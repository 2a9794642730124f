/- The walks of package digest: what a digest is; New, N, Len, Cap, Room, Nodes, Conf, Compress. -/
import Derived.Test.YtbbkfjbaocpknaaDgTwig
namespace Go.Proofs.Ytbbkfjbaocpknaa
open Go.RowKit Nl

/-- A digest: its block dg, its pool's blocks; its kind, bits, k; its nodes. -/
def DgV (w : World) (dg q g h : Nat) (kind l k : Int) (m : Nat) (zs : List Nd) : Prop :=
  Blk w dg #[.int .i64 k, .pointer (some ⟨q, 0, none⟩)] 92 ∧ PoolV w q g h kind l m zs ∧ dg ≠ q ∧ dg ≠ g ∧ dg ≠ h ∧ Dg l k zs
/-- The blocks of a digest. -/
def DB (dg q g h k : Nat) : Prop := k = dg ∨ PB q g h k
section
variable {w w' : World} {dg q g h m B : Nat} {kind l k : Int} {zs : List Nd}
theorem DgV.ltB (d : DgV w dg q g h kind l k m zs) : ∀ j, DB dg q g h j → j < w.heap.size := fun j hj => by
  rcases hj with e | e
  · rw [e]; exact d.1.lt
  · exact d.2.1.ltB j e
theorem DgV.keepB (d : DgV w dg q g h kind l k m zs) (hk : ∀ j, j < w.heap.size → DB dg q g h j → w'.heap[j]? = w.heap[j]?) : DgV w' dg q g h kind l k m zs :=
  ⟨d.1.keep (hk dg d.1.lt (.inl rfl)), d.2.1.keepB (fun j h1 h2 => hk j h1 (.inr h2)), d.2.2⟩
theorem DgV.below (d : DgV w dg q g h kind l k m zs) (hb : Below B w w') (hB : w.heap.size ≤ B) : DgV w' dg q g h kind l k m zs := d.keepB (fun j h1 _ => hb.block j (by omega))
theorem DgV.inv (d : DgV w dg q g h kind l k m zs) : Dg l k zs := d.2.2.2.2.2
theorem DgV.apart (d : DgV w dg q g h kind l k m zs) (hp : PB q g h dg) : False := by
  obtain ⟨_, _, n1, n2, n3, _⟩ := d
  rcases hp with e | e | e
  · exact n1 e
  · exact n2 e
  · exact n3 e
theorem DgV.pool (d : DgV w dg q g h kind l k m zs) : PoolV w q g h kind l m zs := d.2.1
end

/-- What comes of a call that may turn a digest. -/
def DgPost (dg q g h0 : Nat) (kind l k : Int) (m : Nat) (R : List Nd × Int) (w : World) (e : Ending) (w' : World) : Prop :=
  e = .returned (.int .i64 R.2) ∧ ∃ h, DgV w' dg q g h kind l k m R.1 ∧ (h = h0 ∨ w.heap.size ≤ h) ∧ ChB (DB dg q g h0) w w'
/-- A new digest. -/
def DgNew (kind l k : Int) (m : Nat) (zs : List Nd) (w : World) (e : Ending) (w' : World) : Prop :=
  ∃ dg q g h, e = .returned (.tuple #[.pointer (some ⟨dg, 0, none⟩), .int .i64 0]) ∧ DgV w' dg q g h kind l k m zs ∧ w.heap.size ≤ dg ∧ w.heap.size ≤ q ∧ w.heap.size ≤ g ∧ w.heap.size ≤ h ∧ Below w.heap.size w w'

/-- A digest whose pool was turned. -/
theorem DgV.turned {w w2 : World} {dg q g h m h' : Nat} {kind l k n : Int} {zs Z : List Nd} (d : DgV w dg q g h kind l k m zs) (c : ChB (PB q g h) w w2) (dp : PoolV w2 q g h' kind l m Z) (hh : h' = h ∨ w.heap.size ≤ h') (i : Dg l k Z) :
    DgPost dg q g h kind l k m (Z, n) w (.returned (.int .i64 n)) w2 := by
  obtain ⟨b, _, n1, n2, n3, _⟩ := d
  refine ⟨rfl, h', ⟨b.keep (c.block dg b.lt (fun hp => ?_)), dp, n1, n2, ?_, i⟩, hh, c.mono (fun _ _ hp => .inr hp)⟩
  · rcases hp with e | e | e
    · exact n1 e
    · exact n2 e
    · exact n3 e
  · have := b.lt
    rcases hh with e | e
    · rw [e]; exact n3
    · omega

section
variable {w : World} {dg q g h m : Nat} {kind l k : Int} {zs : List Nd}
set_option maxRecDepth 100000 in
set_option maxHeartbeats 400000 in
theorem dg_n (d : DgV w dg q g h kind l k m zs) :
    Calls Try.prog 35 #[.pointer (some ⟨dg, 0, none⟩)] w fun e w' => e = .returned (.int .i64 (sumL zs)) ∧ w = w' := by
  have T := hid (pl_total d.pool)
  have c0 : w.cell? ⟨dg, 0, none⟩ = some (.int .i64 k) := d.1.cell 0
  have c1 : w.cell? ⟨dg, 1, none⟩ = some (.pointer (some ⟨q, 0, none⟩)) := d.1.cell 1
  clear d
  go_enter Try.func35, Try.ntmps35
  go_wp2_with fail
  refine T.out.mono ?_
  rintro e w' ⟨rfl, rfl⟩
  go_wp2_with fail
  go_ret
  exact ⟨rfl, rfl⟩
set_option maxRecDepth 100000 in
set_option maxHeartbeats 400000 in
theorem dg_len (d : DgV w dg q g h kind l k m zs) :
    Calls Try.prog 20 #[.pointer (some ⟨dg, 0, none⟩)] w fun e w' => e = .returned (.int .i64 zs.length) ∧ w = w' := by
  have T := hid (pl_len d.pool)
  have c0 : w.cell? ⟨dg, 0, none⟩ = some (.int .i64 k) := d.1.cell 0
  have c1 : w.cell? ⟨dg, 1, none⟩ = some (.pointer (some ⟨q, 0, none⟩)) := d.1.cell 1
  clear d
  go_enter Try.func20, Try.ntmps20
  go_wp2_with fail
  refine T.out.mono ?_
  rintro e w' ⟨rfl, rfl⟩
  go_wp2_with fail
  go_ret
  exact ⟨rfl, rfl⟩
set_option maxRecDepth 100000 in
set_option maxHeartbeats 400000 in
theorem dg_nodes (d : DgV w dg q g h kind l k m zs) (hm : m ≤ 100000) :
    Calls Try.prog 33 #[.pointer (some ⟨dg, 0, none⟩)] w (IsNodes zs w) := by
  have T := hid (pl_snap d.pool hm)
  have c0 : w.cell? ⟨dg, 0, none⟩ = some (.int .i64 k) := d.1.cell 0
  have c1 : w.cell? ⟨dg, 1, none⟩ = some (.pointer (some ⟨q, 0, none⟩)) := d.1.cell 1
  clear d
  go_enter Try.func33, Try.ntmps33
  go_wp2_with fail
  refine T.out.mono ?_
  rintro e w' hN
  obtain ⟨v, rfl, hr, hb⟩ := hN
  go_wp2_with fail
  go_ret
  exact ⟨v, rfl, hr, hb⟩
end
end Go.Proofs.Ytbbkfjbaocpknaa
