/- digest.Same, of two digests of one k. -/
import Derived.Test.YthdljlclcepnhaaGreatDg6
import Derived.Laws.StructEq
import Derived.BigQuiet
namespace Go.Proofs.YthdljlclcepnhaaGreat
open Go.RowKit Nl
set_option maxRecDepth 100000 in
set_option maxHeartbeats 1000000 in
theorem dg_same {w : World} {dg q g h m dg' q' g' h' m' : Nat} {kind l k kind' l' : Int} {zs zs' : List Nd} (d : DgV w dg q g h kind l k m zs) (d' : DgV w dg' q' g' h' kind' l' k m' zs') (hm : m ≤ 100000) (hm' : m' ≤ 100000) :
    Calls Tryz.prog 12 #[.pointer (some ⟨dg, 0, none⟩), .pointer (some ⟨dg', 0, none⟩)] w fun e w' => e = .returned (.bool (decide (l = l' ∧ zs = zs'))) ∧ Below w.heap.size w w' := by
  have S := hid (fun W (x : PoolV W q g h kind l m zs) (y : PoolV W q' g' h' kind' l' m' zs') => pl_same x y hm hm')
  have c0 : w.cell? ⟨dg, 0, none⟩ = some (.int .i64 k) := d.1.cell 0
  have c1 : w.cell? ⟨dg, 1, none⟩ = some (.pointer (some ⟨q, 0, none⟩)) := d.1.cell 1
  have e0 : w.cell? ⟨dg', 0, none⟩ = some (.int .i64 k) := d'.1.cell 0
  have e1 : w.cell? ⟨dg', 1, none⟩ = some (.pointer (some ⟨q', 0, none⟩)) := d'.1.cell 1
  have HX : Hid (∀ W, W.heap = w.heap → PoolV W q g h kind l m zs) := fun W e => d.pool.keepB (fun j _ _ => by rw [e])
  have HY : Hid (∀ W, W.heap = w.heap → PoolV W q' g' h' kind' l' m' zs') := fun W e => d'.pool.keepB (fun j _ _ => by rw [e])
  have bd := d.1
  have be := d'.1
  have hdl := bd.lt
  have hel := be.lt
  clear d d'
  go_enter Tryz.func12, Tryz.ntmps12
  have hq : (k == k) = true := by simp
  have HE : Hid ((decide (l = l') && decide (zs = zs')) = decide (l = l' ∧ zs = zs')) := by show _ = _; simp
  have hB0 := Below.refl w.heap.size w
  go_wp2_with fail
  go_region_held3 (fun w' => w'.cell? ⟨dg, 0, none⟩ = some (.int .i64 k) ∧ w'.cell? ⟨dg, 1, none⟩ = some (.pointer (some ⟨q, 0, none⟩)) ∧ w'.cell? ⟨dg', 0, none⟩ = some (.int .i64 k) ∧ w'.cell? ⟨dg', 1, none⟩ = some (.pointer (some ⟨q', 0, none⟩)) ∧ Below w.heap.size w w')
    (first | exact ⟨c0, c1, e0, e1, below_drewN hB0 1⟩ | exact ⟨(bd.below' hb6 hdl).cell 0, (bd.below' hb6 hdl).cell 1, (be.below' hb6 hel).cell 0, (be.below' hb6 hel).cell 1, hb6⟩)
    ((go_at_call 38; refine (S.out _ (HX.out _ (by rfl)) (HY.out _ (by rfl))).mono ?_; rintro e w5 ⟨rfl, hb5⟩; have hb6 : Below w.heap.size w w5 := (below_drewN hB0 1).trans hb5))
  go_wp2_with fail
  go_ret
  refine ⟨?_, hb6⟩
  rw [← HE.out]; rfl
end Go.Proofs.YthdljlclcepnhaaGreat
