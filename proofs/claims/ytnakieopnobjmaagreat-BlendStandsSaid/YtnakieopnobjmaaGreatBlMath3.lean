/- What is merged stands for what both were told (no program in sight). -/
import Derived.Test.YtnakieopnobjmaaGreatBlMath2
import Derived.Test.YtnakieopnobjmaaGreatMade2
namespace Go.Proofs.YtnakieopnobjmaaGreat
open Go.RowKit
namespace Nl

theorem merge_comm {l k K K' : Int} {zs zs' : List (Int × Int)} (d : Dg l K zs) (d' : Dg l K' zs') (h1 : 1 ≤ k) (h2 : k ≤ K) (h3 : k ≤ K') (hs : sumL zs + sumL zs' ≤ 72057594037927935) : mergeL l k zs' zs = mergeL l k zs zs' := by
  obtain ⟨a1, a2, _, _⟩ := low_spec d h1 h2
  obtain ⟨b1, b2, _, _⟩ := low_spec d' h1 h3
  exact join_comm b1.roll a1.roll (by omega)
theorem merge_stands {l k K K' : Int} {zs zs' its its' : List (Int × Int)} (d : Dg l K zs) (d' : Dg l K' zs') (s : Stands l zs its) (s' : Stands l zs' its') (h1 : 1 ≤ k) (h2 : k ≤ K) (h3 : k ≤ K') (hs : sumL zs + sumL zs' ≤ 72057594037927935)
    (id : Int) (hid : 1 ≤ id) : belowV id (mergeL l k zs zs') ≤ heldV l id its + heldV l id its' ∧ heldV l id its + heldV l id its' ≤ belowV id (mergeL l k zs zs') + aboveV id (mergeL l k zs zs') := by
  obtain ⟨_, _, _, _, hg⟩ := merge_spec d d' h1 h2 h3 hs
  have e1 : belowV id (mergeL l k zs zs') = belowV id (lowL l k zs) + belowV id (lowL l k zs') := hg (belowF id) (fun i a b => by unfold belowF; split <;> omega)
  have e2 : aboveV id (mergeL l k zs zs') = aboveV id (lowL l k zs) + aboveV id (lowL l k zs') := hg (aboveF id) (fun i a b => by unfold aboveF; split <;> omega)
  have t1 := Stands.run (most := capV (sumL zs) k) d.roll s id hid
  have t2 := Stands.run (most := capV (sumL zs') k) d'.roll s' id hid
  rw [e1, e2]
  unfold lowL
  omega
end Nl
end Go.Proofs.YtnakieopnobjmaaGreat
