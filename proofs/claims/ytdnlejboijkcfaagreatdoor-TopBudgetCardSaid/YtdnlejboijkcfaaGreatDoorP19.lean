/- Texts laid together. -/
import Derived.Test.YtdnlejboijkcfaaGreatDoorP12
import Derived.Test.YtdnlejboijkcfaaGreatDoorP13
import Derived.Deep.CutBlock
import Derived.Deep.LoopGhost
import Derived.Test.YtdnlejboijkcfaaGreatDoorP18
/- The walks of digest.Clone, and of DigestBounds. -/
namespace Go.Proofs.YtdnlejboijkcfaaGreatDoor
set_option maxHeartbeats 8000000
set_option maxRecDepth 100000
open Go.RowKit Nl
def DgClone (kind l k : Int) (m : Nat) (zs : List Nd) (w : World) (e : Ending) (w' : World) : Prop :=
  ∃ dg q g h, e = .returned (.pointer (some ⟨dg, 0, none⟩)) ∧ DgV w' dg q g h kind l k m zs ∧ w.heap.size ≤ dg ∧ w.heap.size ≤ q ∧ w.heap.size ≤ g ∧ w.heap.size ≤ h ∧ Below w.heap.size w w'
section
variable {w : World} {dg q g h m : Nat} {kind l k : Int} {zs : List Nd}
theorem dg_clone (d : DgV w dg q g h kind l k m zs) (hm : m ≤ 100000) :
    Calls Tryz.prog 97 #[.pointer (some ⟨dg, 0, none⟩)] w (DgClone kind l k m zs w) := by
  have C := hid (fun W (x : PoolV W q g h kind l m zs) => pl_clone x hm)
  have dp := d.pool
  have inv := hid d.inv
  have bd := d.1
  have hdl := bd.lt
  have c0 : w.cell? ⟨dg, 0, none⟩ = some (.int .i64 k) := bd.cell 0
  have c1 : w.cell? ⟨dg, 1, none⟩ = some (.pointer (some ⟨q, 0, none⟩)) := bd.cell 1
  have hB0 := Below.refl w.heap.size w
  clear d
  go_enter Tryz.func97, Tryz.ntmps97
  go_wp2_with fail
  go_region_held3 (fun w' => w'.cell? ⟨dg, 0, none⟩ = some (.int .i64 k) ∧ w'.cell? ⟨dg, 1, none⟩ = some (.pointer (some ⟨q, 0, none⟩)) ∧ Below w.heap.size w w')
    (first
      | exact ⟨c0, c1, below_drewN hB0 1⟩
      | exact ⟨(bd.below' hBn hdl).cell 0, (bd.below' hBn hdl).cell 1, hBn⟩
      | exact ⟨(bd.below' hBm hdl).cell 0, (bd.below' hBm hdl).cell 1, hBm⟩)
    ((go_at_call 152; have hBa := (‹_ ∧ _ ∧ Below w.heap.size w _›).2.2; refine (C.out _ (dp.below hBa nlr)).mono ?_; rintro e w5 ⟨q5, g5, h5, rfl, d5, hq5, hg5, hh5, hb5⟩
      have hBn := hBa.trans (hb5.mono hBa.size)
      have hsa := hBa.size
      have hBm := hBn.alloc hBn.size (.cells #[.int .i64 k, .pointer (some ⟨q5, 0, none⟩)] 99)))
  have Y := Blk.new w5 #[.int .i64 k, .pointer (some ⟨q5, 0, none⟩)] 99
  have d6 := d5.below ((Below.refl w5.heap.size w5).alloc nlr (.cells #[.int .i64 k, .pointer (some ⟨q5, 0, none⟩)] 99)) nlr
  have lt5 := d5.lt
  have hs5 := hBn.size
  go_wp2_with fail
  go_ret
  exact ⟨w5.heap.size, q5, g5, h5, rfl, ⟨Y, d6, by omega, by omega, by omega, inv.out⟩, by omega, by omega, by omega, by omega, hBm⟩
end
end Go.Proofs.YtdnlejboijkcfaaGreatDoor

/- A sensor in memory: Put, Ready, Digest, Cover. -/
namespace Go.Proofs.YtdnlejboijkcfaaGreatDoor
set_option maxHeartbeats 8000000
set_option maxRecDepth 100000
open Go.RowKit Nl Tb
def Tb.Sn.B (s : Sn) (j : Nat) : Prop := j = s.b ∨ DB s.dg s.q s.g s.h j
structure SnV (W : World) (kind l k wait : Int) (ep i : Nat) (s : Sn) : Prop where
  blk : Blk W s.b #[.int .i64 l, .int .i64 k, .int .i64 kind, .int .i64 i, .int .u64 s.kids, .int .i64 wait, .int .i64 ep, .int .i64 0, .int .u64 s.heard, .int .u64 s.cover, .bool s.sent, .pointer (some ⟨s.dg, 0, none⟩)] 148
  d : DgV W s.dg s.q s.g s.h kind l k 20000 s.zs
  nb : ¬ DB s.dg s.q s.g s.h s.b
  wt : 1 ≤ wait
section
variable {w w' : World} {kind l k wait : Int} {ep i : Nat} {s : Sn}
theorem SnV.ltB (S : SnV w kind l k wait ep i s) : ∀ j, s.B j → j < w.heap.size := fun j hj => by
  rcases hj with e | e
  · rw [e]; exact S.blk.lt
  · exact S.d.ltB j e
theorem SnV.keepB (S : SnV w kind l k wait ep i s) (hk : ∀ j, j < w.heap.size → s.B j → w'.heap[j]? = w.heap[j]?) : SnV w' kind l k wait ep i s :=
  ⟨S.blk.keep (hk _ S.blk.lt (.inl rfl)), S.d.keepB (fun j h1 h2 => hk j h1 (.inr h2)), S.nb, S.wt⟩
theorem SnV.below (S : SnV w kind l k wait ep i s) (b : Below w.heap.size w w') : SnV w' kind l k wait ep i s := S.keepB fun j h1 _ => b.block j h1
theorem SnV.turned {h' : Nat} {zs its : List Nd} (S : SnV w kind l k wait ep i s) (c : ChB (DB s.dg s.q s.g s.h) w w') (d : DgV w' s.dg s.q s.g h' kind l k 20000 zs) (hh : h' = s.h ∨ w.heap.size ≤ h') :
    SnV w' kind l k wait ep i { s with h := h', zs := zs, its := its } := by
  have hb := S.blk.lt
  refine ⟨S.blk.keep (c.block _ hb S.nb), d, fun q => ?_, S.wt⟩
  rcases q with q | q | q | q
  · exact S.nb (.inl q)
  · exact S.nb (.inr (.inl q))
  · exact S.nb (.inr (.inr (.inl q)))
  · rcases hh with e | e
    · exact S.nb (.inr (.inr (.inr (by rw [← e]; exact q))))
    · have q : s.b = h' := q
      omega
end
def SnTurn (kind l k wait : Int) (ep i : Nat) (s : Sn) (zs : List Nd) (w w' : World) : Prop :=
  ∃ h', (∀ its, SnV w' kind l k wait ep i { s with h := h', zs := zs, its := its }) ∧ (h' = s.h ∨ w.heap.size ≤ h') ∧ ChB s.B w w'
theorem sn_put {w : World} {kind l k wait : Int} {ep i : Nat} {s : Sn} (S : SnV w kind l k wait ep i s) (hs : s.sent = false) (x wt : Int) (bx : In64 x) (bw : In64 wt) (hz : s.zs.length ≤ 19999) :
    Calls Tryz.prog 34 #[.pointer (some ⟨s.b, 0, none⟩), .int .i64 x, .int .i64 wt] w fun e w' => e = .returned (.int .i64 (dgIns l k s.zs x wt).2) ∧ SnTurn kind l k wait ep i s (dgIns l k s.zs x wt).1 w w' := by
  have IN := hid (dg_insert S.d x wt (by decide) (by omega) (by omega) bx bw)
  have HS := hid S
  have c10 : w.cell? ⟨s.b, 10, none⟩ = some (.bool false) := by rw [← hs]; exact S.blk.cell 10
  have c11 : w.cell? ⟨s.b, 11, none⟩ = some (.pointer (some ⟨s.dg, 0, none⟩)) := S.blk.cell 11
  obtain ⟨b, hb⟩ : ∃ b, s.b = b := ⟨_, rfl⟩
  obtain ⟨dg, hdg⟩ : ∃ b, s.dg = b := ⟨_, rfl⟩
  obtain ⟨Z, n, eZ⟩ : ∃ a b, dgIns l k s.zs x wt = (a, b) := ⟨_, _, rfl⟩
  rw [hb] at c10 c11 ⊢
  rw [eZ] at IN ⊢
  rw [hdg] at c11
  unfold DgPost at IN
  have ED := hid hdg
  have IN : Hid (Calls Tryz.prog 24 #[.pointer (some ⟨dg, 0, none⟩), .int .i64 x, .int .i64 wt] w (DgPost s.dg s.q s.g s.h kind l k 20000 (Z, n) w)) := by
    rw [← ED.out]; exact IN
  clear S hs hb hdg eZ
  go_enter Tryz.func34, Tryz.ntmps34
  go_wp2_with fail
  refine IN.out.mono ?_
  rintro e w2 ⟨rfl, h', d2, hh, ch⟩
  have P : Hid (SnTurn kind l k wait ep i s Z w w2) := ⟨h', fun its => HS.out.turned ch d2 hh, hh, ch.mono (fun j _ q => .inr q)⟩
  clear d2 hh ch
  go_wp2_with fail
  go_ret
  exact ⟨rfl, P.out⟩
theorem sn_cover {w : World} {kind l k wait : Int} {ep i : Nat} {s : Sn} (S : SnV w kind l k wait ep i s) :
    Calls Tryz.prog 44 #[.pointer (some ⟨s.b, 0, none⟩)] w (Rt (.int .u64 s.cover) w) := by
  have c9 : w.cell? ⟨s.b, 9, none⟩ = some (.int .u64 s.cover) := S.blk.cell 9
  clear S
  go_enter Tryz.func44, Tryz.ntmps44
  go_wp2_with fail
  go_ret
  exact ⟨rfl, rfl⟩
theorem sn_digest {w : World} {kind l k wait : Int} {ep i : Nat} {s : Sn} (S : SnV w kind l k wait ep i s) :
    Calls Tryz.prog 43 #[.pointer (some ⟨s.b, 0, none⟩)] w (DgClone kind l k 20000 s.zs w) := by
  have CL := hid (dg_clone S.d (by decide))
  have c11 : w.cell? ⟨s.b, 11, none⟩ = some (.pointer (some ⟨s.dg, 0, none⟩)) := S.blk.cell 11
  clear S
  go_enter Tryz.func43, Tryz.ntmps43
  go_wp2_with fail
  refine CL.out.mono ?_
  rintro e w2 ⟨dg, q, g, h, rfl, hd⟩
  have HD := hid hd
  clear hd
  go_wp2_with fail
  go_ret
  exact ⟨dg, q, g, h, rfl, HD.out⟩
def Tb.Sn.rdy (s : Sn) : Bool := !s.sent && decide (s.heard = s.kids)
theorem Tb.Sn.rdy_iff (s : Sn) : s.rdy = true ↔ s.ready := by unfold Sn.rdy Sn.ready; simp
theorem sn_ready {w : World} {kind l k wait : Int} {ep i : Nat} {s : Sn} (S : SnV w kind l k wait ep i s) :
    Calls Tryz.prog 85 #[.pointer (some ⟨s.b, 0, none⟩)] w fun e w' => e = .returned (.bool s.rdy) ∧ ∃ n, w' = w.drewN n := by
  have c4 : w.cell? ⟨s.b, 4, none⟩ = some (.int .u64 s.kids) := S.blk.cell 4
  have c5 : w.cell? ⟨s.b, 5, none⟩ = some (.int .i64 wait) := S.blk.cell 5
  have c7 : w.cell? ⟨s.b, 7, none⟩ = some (.int .i64 0) := S.blk.cell 7
  have c8 : w.cell? ⟨s.b, 8, none⟩ = some (.int .u64 s.heard) := S.blk.cell 8
  have c10 : w.cell? ⟨s.b, 10, none⟩ = some (.bool s.sent) := S.blk.cell 10
  have hw : decide (wait ≤ 0) = false := decide_eq_false (by have := S.wt; omega)
  have er : s.rdy = (!s.sent && decide (s.heard = s.kids)) := rfl
  rw [er]
  clear S er
  generalize s.sent = st at *
  generalize s.heard = hd at *
  generalize s.kids = kd at *
  generalize s.b = b at *
  cases st
  · by_cases h : hd = kd
    · subst h
      have z : ((hd : Int) == (hd : Int)) = true := by simp
      have z2 : decide (hd = hd) = true := by simp
      rw [z2]
      go_enter Tryz.func85, Tryz.ntmps85
      go_wp2_with fail
      go_quiet (fail)
      go_wp2_with fail
      go_ret
      exact ⟨rfl, _, rfl⟩
    · have z : ((hd : Int) == (kd : Int)) = false := by simp; omega
      have z2 : decide (hd = kd) = false := by simp [h]
      rw [z2]
      clear h
      go_enter Tryz.func85, Tryz.ntmps85
      go_wp2_with fail
      go_quiet (fail)
      go_wp2_with fail
      go_ret
      exact ⟨rfl, _, rfl⟩
  · go_enter Tryz.func85, Tryz.ntmps85
    go_wp2_with fail
    go_quiet (fail)
    go_wp2_with fail
    go_ret
    exact ⟨rfl, _, rfl⟩
end Go.Proofs.YtdnlejboijkcfaaGreatDoor
