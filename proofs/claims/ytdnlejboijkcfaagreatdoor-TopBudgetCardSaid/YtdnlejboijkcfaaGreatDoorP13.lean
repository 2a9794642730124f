/- Texts laid together. -/
import Derived.Test.YtdnlejboijkcfaaGreatDoorP01
import Derived.Deep.Fields
import Derived.Deep.Slices
import Derived.Test.YtdnlejboijkcfaaGreatDoorP12
import Derived.Laws.StructEq
import Derived.Deep.LoopGhost
/- Texts laid together: OpenStru, OpenConf, OpenDop, OpenSide. -/
/- An argument that is a struct of ints, by value. -/
namespace Go.Proofs.YtdnlejboijkcfaaGreatDoor
open Go.RowKit Go.ChangeShapes Go.WideShapes Go.ChangeAt
def intOf0 (v : Value) : Int := match v with | .int _ z => z | _ => 0
section
variable {H : Type} {enc : TypeId × Value → H} {P : Program} {w : World} {base b0 : Nat} {spare : Nat → Bool} {held : Bool} {r : Reach} {t I : TypeId} {v : Value} {d : DataW H} {ps : List MemPlace}
theorem open_stru {n : Nat} {fs : Array Field} (ht : P.underlying t = some (.struct fs)) (hI : P.underlying I = some (.int .i64)) (hn : fs.size = n) (hone : Deep.oneCellFields P fs = true) (hC : P.cellsOf t = n)
    (hfs : ∀ j, j < n → ∃ f, fs[j]? = some f ∧ f.type = I)
    (hv : Value.okWide P w r b0 t v) (h : DataW.Trod enc P w base spare held t v d ps) :
    ∃ zs : List Int, zs.length = n ∧ v = .agg (zs.map (Value.int .i64)).toArray ∧ ∀ z ∈ zs, (Lit.int .i64 z).wf = true := by
  unfold Value.okWide at hv
  rw [ht] at hv
  obtain ⟨cs, rfl, _, _⟩ := hv
  obtain ⟨fuel, hf⟩ := h
  simp only [Value.cells] at hf
  obtain ⟨ys, n2, _, _, hcl, hyl, hff⟩ := DataW.trod_struct ht hf
  rw [hC] at hcl
  have key : ∀ j (hj : j < cs.toList.length), cs.toList[j]'hj = .int .i64 (intOf0 (cs.toList[j]'hj)) ∧ (Lit.int .i64 (intOf0 (cs.toList[j]'hj))).wf = true := by
    intro j hj
    obtain ⟨f, hfj, hfI⟩ := hfs j (by omega)
    obtain ⟨ho, hk1⟩ := Deep.hone_of hone j f hfj
    have h1 := hff j f hfj
    rw [ho, hk1, hfI] at h1
    have hd : (cs.toList.drop j).take 1 = [cs.toList[j]'hj] := by rw [List.drop_eq_getElem_cons hj]; rfl
    rw [hd, List.getElem?_eq_getElem (show j < ys.length by omega)] at h1
    obtain ⟨z, hz, _, hw⟩ := DataW.trod_int hI h1
    simp only [List.cons.injEq, and_true] at hz
    rw [hz]
    exact ⟨rfl, hw⟩
  refine ⟨cs.toList.map intOf0, by simpa using hcl, ?_, ?_⟩
  · congr 1
    apply Array.toList_inj.1
    apply List.ext_getElem
    · simp
    · intro j h1 h2
      simp only [List.getElem_map]
      exact (key j h1).1
  · intro z hz
    obtain ⟨c, hc, rfl⟩ := List.mem_map.1 hz
    obtain ⟨j, hj, rfl⟩ := List.getElem_of_mem hc
    exact (key j hj).2
end
end Go.Proofs.YtdnlejboijkcfaaGreatDoor
/- An argument that is a conf. -/
namespace Go.Proofs.YtdnlejboijkcfaaGreatDoor
open Go.RowKit Go.ChangeShapes Go.WideShapes Go.ChangeAt
end Go.Proofs.YtdnlejboijkcfaaGreatDoor
/- An argument that is a slice of calls of a digest. -/
namespace Go.Proofs.YtdnlejboijkcfaaGreatDoor
open Go.ChangeShapes Go.WideShapes Go.ChangeAt Go.RowKit
end Go.Proofs.YtdnlejboijkcfaaGreatDoor
/- An argument that is a side: a conf, and calls of a digest. -/
namespace Go.Proofs.YtdnlejboijkcfaaGreatDoor
open Go.RowKit Go.ChangeShapes Go.WideShapes Go.ChangeAt
end Go.Proofs.YtdnlejboijkcfaaGreatDoor

/- Texts laid together: NotD, Dr3, Dr4. -/
/- A slice of nodes that lies in none of some blocks. -/
namespace Go.Proofs.YtdnlejboijkcfaaGreatDoor
open Go.RowKit Nl
def NotD (v : Value) (xs : List Nd) (S : Nat → Prop) : Prop := xs = [] ∨ ∀ j, v.ownBlock = some j → ¬ S j
end Go.Proofs.YtdnlejboijkcfaaGreatDoor
/- The walks of the statements' like and Few, and of DigestPlays. -/
namespace Go.Proofs.YtdnlejboijkcfaaGreatDoor
open Go.RowKit Nl
end Go.Proofs.YtdnlejboijkcfaaGreatDoor
/- The walks of the statements' Few, and of DigestPlays. -/
namespace Go.Proofs.YtdnlejboijkcfaaGreatDoor
open Go.RowKit Nl
end Go.Proofs.YtdnlejboijkcfaaGreatDoor

/- The walks of digest.Load, of its reference, and of DigestLoads. -/
namespace Go.Proofs.YtdnlejboijkcfaaGreatDoor
set_option maxHeartbeats 8000000
set_option maxRecDepth 100000
open Go.RowKit Nl
namespace Nl
def loadE (kind l k : Int) (zs : List (Int × Int)) : Int :=
  if (poolIs kind l && isK k) = false then 2 else if rollB l zs = false then 10
  else if 8 * k < (zs.length : Int) ∨ lightB l zs (capV (sumL zs) k) = false then 13 else 0
theorem load_ok {kind l k : Int} {zs : List (Int × Int)} (h : loadE kind l k zs = 0) : poolIs kind l = true ∧ isK k = true ∧ rollB l zs = true ∧ (zs.length : Int) ≤ 8 * k ∧ lightB l zs (capV (sumL zs) k) = true := by
  unfold loadE at h
  split at h
  · omega
  · rename_i h1
    split at h
    · omega
    · rename_i h2
      split at h
      · omega
      · rename_i h3
        simp only [Bool.not_eq_false, Bool.and_eq_true] at h1 h2
        refine ⟨h1.1, h1.2, h2, ?_, ?_⟩
        · by_cases hc : 8 * k < (zs.length : Int)
          · exact absurd (.inl hc) h3
          · omega
        · cases hc : lightB l zs (capV (sumL zs) k)
          · exact absurd (.inr hc) h3
          · rfl
theorem load_inv {kind l k : Int} {zs : List (Int × Int)} (h : loadE kind l k zs = 0) : Dg l k zs := by
  obtain ⟨h1, h2, h3, h4, h5⟩ := load_ok h
  simp only [isK, decide_eq_true_eq] at h2
  exact ⟨rollB_iff.1 h3, h2.1, h2.2, h5, h4⟩
theorem load_dg {l k : Int} {zs : List (Int × Int)} (d : Dg l k zs) : loadE 2 l k zs = 0 := by
  have h1 := d.roll.l1
  have h2 := d.roll.l2
  have h3 : isK k = true := decide_eq_true ⟨d.k1, d.k2⟩
  have h4 : poolIs 2 l = true := by unfold poolIs; simp; omega
  have h5 := rollB_iff.2 d.roll
  have h6 := d.light
  have h7 := d.room
  unfold loadE
  rw [h3, h4, h5, h6]
  simp
  omega
theorem load_kind {kind l k : Int} {zs : List (Int × Int)} (h : loadE 2 l k zs = 0) : loadE kind l k zs = if poolIs kind l then 0 else 2 := by
  obtain ⟨h1, h2, h3, h4, h5⟩ := load_ok h
  unfold loadE
  rw [h2, h3, h5]
  cases poolIs kind l
  · simp
  · simp; omega
end Nl
theorem dg_load {w : World} {v : Value} {zs : List Nd} (kind l k : Int) (hr : RdN w v zs) (hn : NB zs) (hl : zs.length ≤ 19999) (h0 : loadE kind l k zs = 0) :
    Calls Tryz.prog 179 #[.agg #[.int .i64 l, .int .i64 k, .int .i64 kind], v] w (DgNew kind l k 20000 zs w) := by
  obtain ⟨p, cap, rfl⟩ := hr.val
  have X1 := Blk.new w #[.int .i64 l, .int .i64 k, .int .i64 kind] 24
  have hB1 : Below w.heap.size w (w.alloc (.cells #[.int .i64 l, .int .i64 k, .int .i64 kind] 24)) := (Below.refl _ _).alloc nlr _
  have hsx : (w.alloc (.cells #[.int .i64 l, .int .i64 k, .int .i64 kind] 24)).heap.size = w.heap.size + 1 := by simp
  have hr1 := hr.below hB1 nlr
  obtain ⟨e1, e2, e3, e4, e5⟩ := load_ok h0
  have inv := hid (load_inv h0)
  have hroll := rollB_iff.1 e3
  have bl : In64 l := ⟨by have := hroll.l1; omega, by have := hroll.l2; omega⟩
  have k1 := inv.out.k1
  have k2 := inv.out.k2
  have NW := hid (fun W : World => dg_new kind l k W e1 e2)
  have RT0 := fun W (q : RdN W (.slice p zs.length cap) zs) => o_right l W q hn (by omega) bl
  simp only [e3] at RT0
  have RT := hid RT0
  have LD := hid (fun W (q : RdN W (.slice p zs.length cap) zs) => pl_load kind l W e1 e3 q hn (by omega))
  have LG0 := fun W q g h (x : PoolV W q g h kind l zs.length zs) => p_Light k e2 x (by omega)
  simp only [e5] at LG0
  have LG := hid LG0
  have hnf : decide (8 * k < (zs.length : Int)) = false := by simpa using e4
  clear RT0 LG0 e1 e2 e3 e5 h0 hroll hr
  go_enter Tryz.func179, Tryz.ntmps179
  go_wp2_with fail
  refine (NW.out _).mono ?_
  rintro e w2 ⟨dg0, q0, g0, h0, rfl, d0, -, -, -, -, hb2⟩
  have X2 := X1.below hb2 nlr
  have hr2 := hr1.below hb2 nlr
  have hs2 := hb2.size
  have hB2 := hB1.trans (hb2.mono hB1.size)
  have x0 : w2.cell? ⟨w.heap.size, 0, none⟩ = some (.int .i64 l) := X2.cell 0
  have x1 : w2.cell? ⟨w.heap.size, 1, none⟩ = some (.int .i64 k) := X2.cell 1
  have x2 : w2.cell? ⟨w.heap.size, 2, none⟩ = some (.int .i64 kind) := X2.cell 2
  go_wp2_with fail
  refine (RT.out _ hr2).mono ?_
  rintro e w3 ⟨rfl, hb3⟩
  have X3 := X2.below hb3 nlr
  have hr3 := hr2.below hb3 nlr
  have hs3 := hb3.size
  have hB3 := hB2.trans (hb3.mono hB2.size)
  have y0 : w3.cell? ⟨w.heap.size, 0, none⟩ = some (.int .i64 l) := X3.cell 0
  have y1 : w3.cell? ⟨w.heap.size, 1, none⟩ = some (.int .i64 k) := X3.cell 1
  have y2 : w3.cell? ⟨w.heap.size, 2, none⟩ = some (.int .i64 kind) := X3.cell 2
  go_wp2_with fail
  refine (LD.out _ hr3).mono ?_
  rintro e w4 ⟨q, g, h, rfl, d4, hq, hg, hh, hb4⟩
  have X4 := X3.below hb4 nlr
  have hr4 := hr3.below hb4 nlr
  have hs4 := hb4.size
  have hB4 := hB3.trans (hb4.mono hB3.size)
  have z0 : w4.cell? ⟨w.heap.size, 0, none⟩ = some (.int .i64 l) := X4.cell 0
  have z1 : w4.cell? ⟨w.heap.size, 1, none⟩ = some (.int .i64 k) := X4.cell 1
  have z2 : w4.cell? ⟨w.heap.size, 2, none⟩ = some (.int .i64 kind) := X4.cell 2
  have d4' := d4.mono (m' := 20000) (by omega)
  go_wp2_with fail
  refine (LG.out _ _ _ _ d4).mono ?_
  rintro e w5 ⟨rfl, hb5⟩
  have X5 := X4.below hb5 nlr
  have d5 := d4'.below hb5 nlr
  have hs5 := hb5.size
  have hB5 := hB4.trans (hb5.mono hB4.size)
  have lt4 := d4.lt
  have s0 : w5.cell? ⟨w.heap.size, 0, none⟩ = some (.int .i64 l) := X5.cell 0
  have s1 : w5.cell? ⟨w.heap.size, 1, none⟩ = some (.int .i64 k) := X5.cell 1
  have s2 : w5.cell? ⟨w.heap.size, 2, none⟩ = some (.int .i64 kind) := X5.cell 2
  have d6 := d5.below ((Below.refl w5.heap.size w5).alloc nlr (.cells #[.int .i64 k, .pointer (some ⟨q, 0, none⟩)] 99)) nlr
  have Y := Blk.new w5 #[.int .i64 k, .pointer (some ⟨q, 0, none⟩)] 99
  have hB6 := hB5.alloc hB5.size (.cells #[.int .i64 k, .pointer (some ⟨q, 0, none⟩)] 99)
  have hsb := hB3.size
  go_wp2_with fail
  go_ret2
  exact ⟨w5.heap.size, q, g, h, rfl, ⟨Y, d6, by omega, by omega, by omega, inv.out⟩, by omega, by omega, by omega, by omega, hB6⟩
theorem dg_load_no {w : World} {v : Value} {zs : List Nd} (kind l k : Int) (hr : RdN w v zs) (hn : NB zs) (hl : zs.length ≤ 19999) (bl : In64 l) (bk : In64 k) (h0 : loadE kind l k zs ≠ 0) :
    Calls Tryz.prog 179 #[.agg #[.int .i64 l, .int .i64 k, .int .i64 kind], v] w fun e w' => e = .returned (.tuple #[.pointer none, .int .i64 (loadE kind l k zs)]) ∧ Below w.heap.size w w' := by
  obtain ⟨p, cap, rfl⟩ := hr.val
  have X1 := Blk.new w #[.int .i64 l, .int .i64 k, .int .i64 kind] 24
  have hB1 : Below w.heap.size w (w.alloc (.cells #[.int .i64 l, .int .i64 k, .int .i64 kind] 24)) := (Below.refl _ _).alloc nlr _
  have hsx : (w.alloc (.cells #[.int .i64 l, .int .i64 k, .int .i64 kind] 24)).heap.size = w.heap.size + 1 := by simp
  have hr1 := hr.below hB1 nlr
  cases e1 : (poolIs kind l && isK k)
  · have ec : loadE kind l k zs = 2 := by unfold loadE; rw [if_pos e1]
    have NN := hid (fun W : World => dg_new_no kind l k W bk e1)
    rw [ec]
    clear ec e1 h0
    go_enter Tryz.func179, Tryz.ntmps179
    go_wp2_with fail
    refine (NN.out _).mono ?_
    rintro e w2 ⟨rfl, hb2⟩
    have X2 := X1.below hb2 nlr
    have hr2 := hr1.below hb2 nlr
    have hs2 := hb2.size
    have hB2 := hB1.trans (hb2.mono hB1.size)
    have x0 : w2.cell? ⟨w.heap.size, 0, none⟩ = some (.int .i64 l) := X2.cell 0
    have x1 : w2.cell? ⟨w.heap.size, 1, none⟩ = some (.int .i64 k) := X2.cell 1
    have x2 : w2.cell? ⟨w.heap.size, 2, none⟩ = some (.int .i64 kind) := X2.cell 2
    go_wp2_with fail
    go_ret2
    exact ⟨rfl, hB2⟩
  have e1' := e1
  simp only [Bool.and_eq_true] at e1'
  have NW := hid (fun W : World => dg_new kind l k W e1'.1 e1'.2)
  have kk := e1'.2
  simp only [isK, decide_eq_true_eq] at kk
  obtain ⟨k1, k2⟩ := kk
  cases e3 : rollB l zs
  · have ec : loadE kind l k zs = 10 := by unfold loadE; rw [if_neg (by rw [e1]; simp), if_pos e3]
    have RT0 := fun W (q : RdN W (.slice p zs.length cap) zs) => o_right l W q hn (by omega) bl
    simp only [e3] at RT0
    have RT := hid RT0
    rw [ec]
    clear ec e1 e1' e3 h0 RT0
    go_enter Tryz.func179, Tryz.ntmps179
    go_wp2_with fail
    refine (NW.out _).mono ?_
    rintro e w2 ⟨dg0, q0, g0, h0, rfl, d0, -, -, -, -, hb2⟩
    have X2 := X1.below hb2 nlr
    have hr2 := hr1.below hb2 nlr
    have hs2 := hb2.size
    have hB2 := hB1.trans (hb2.mono hB1.size)
    have x0 : w2.cell? ⟨w.heap.size, 0, none⟩ = some (.int .i64 l) := X2.cell 0
    have x1 : w2.cell? ⟨w.heap.size, 1, none⟩ = some (.int .i64 k) := X2.cell 1
    have x2 : w2.cell? ⟨w.heap.size, 2, none⟩ = some (.int .i64 kind) := X2.cell 2
    go_wp2_with fail
    refine (RT.out _ hr2).mono ?_
    rintro e w3 ⟨rfl, hb3⟩
    have X3 := X2.below hb3 nlr
    have hr3 := hr2.below hb3 nlr
    have hs3 := hb3.size
    have hB3 := hB2.trans (hb3.mono hB2.size)
    have y0 : w3.cell? ⟨w.heap.size, 0, none⟩ = some (.int .i64 l) := X3.cell 0
    have y1 : w3.cell? ⟨w.heap.size, 1, none⟩ = some (.int .i64 k) := X3.cell 1
    have y2 : w3.cell? ⟨w.heap.size, 2, none⟩ = some (.int .i64 kind) := X3.cell 2
    go_wp2_with fail
    go_ret2
    exact ⟨rfl, hB3⟩
  have RT0 := fun W (q : RdN W (.slice p zs.length cap) zs) => o_right l W q hn (by omega) bl
  simp only [e3] at RT0
  have RT := hid RT0
  by_cases e4 : 8 * k < (zs.length : Int)
  · have ec : loadE kind l k zs = 13 := by unfold loadE; rw [if_neg (by rw [e1]; simp), if_neg (by rw [e3]; simp), if_pos (.inl e4)]
    rw [ec]
    clear ec e1 e1' e3 h0 RT0
    go_enter Tryz.func179, Tryz.ntmps179
    go_wp2_with fail
    refine (NW.out _).mono ?_
    rintro e w2 ⟨dg0, q0, g0, h0, rfl, d0, -, -, -, -, hb2⟩
    have X2 := X1.below hb2 nlr
    have hr2 := hr1.below hb2 nlr
    have hs2 := hb2.size
    have hB2 := hB1.trans (hb2.mono hB1.size)
    have x0 : w2.cell? ⟨w.heap.size, 0, none⟩ = some (.int .i64 l) := X2.cell 0
    have x1 : w2.cell? ⟨w.heap.size, 1, none⟩ = some (.int .i64 k) := X2.cell 1
    have x2 : w2.cell? ⟨w.heap.size, 2, none⟩ = some (.int .i64 kind) := X2.cell 2
    go_wp2_with fail
    refine (RT.out _ hr2).mono ?_
    rintro e w3 ⟨rfl, hb3⟩
    have X3 := X2.below hb3 nlr
    have hr3 := hr2.below hb3 nlr
    have hs3 := hb3.size
    have hB3 := hB2.trans (hb3.mono hB2.size)
    have y0 : w3.cell? ⟨w.heap.size, 0, none⟩ = some (.int .i64 l) := X3.cell 0
    have y1 : w3.cell? ⟨w.heap.size, 1, none⟩ = some (.int .i64 k) := X3.cell 1
    have y2 : w3.cell? ⟨w.heap.size, 2, none⟩ = some (.int .i64 kind) := X3.cell 2
    go_wp2_with fail
    go_ret2
    exact ⟨rfl, hB3⟩
  have e5 : lightB l zs (capV (sumL zs) k) = false := by
    cases hc : lightB l zs (capV (sumL zs) k)
    · rfl
    · exact absurd (by unfold loadE; rw [if_neg (by rw [e1]; simp), if_neg (by rw [e3]; simp), if_neg (by rw [hc]; simp; omega)]) h0
  have ec : loadE kind l k zs = 13 := by unfold loadE; rw [if_neg (by rw [e1]; simp), if_neg (by rw [e3]; simp), if_pos (.inr e5)]
  have LD := hid (fun W (q : RdN W (.slice p zs.length cap) zs) => pl_load kind l W e1'.1 e3 q hn (by omega))
  have LG0 := fun W q g h (x : PoolV W q g h kind l zs.length zs) => p_Light k e1'.2 x (by omega)
  simp only [e5] at LG0
  have LG := hid LG0
  have hnf : decide (8 * k < (zs.length : Int)) = false := by simpa using e4
  rw [ec]
  clear ec e1 e1' e3 e5 h0 RT0 LG0
  go_enter Tryz.func179, Tryz.ntmps179
  go_wp2_with fail
  refine (NW.out _).mono ?_
  rintro e w2 ⟨dg0, q0, g0, h0, rfl, d0, -, -, -, -, hb2⟩
  have X2 := X1.below hb2 nlr
  have hr2 := hr1.below hb2 nlr
  have hs2 := hb2.size
  have hB2 := hB1.trans (hb2.mono hB1.size)
  have x0 : w2.cell? ⟨w.heap.size, 0, none⟩ = some (.int .i64 l) := X2.cell 0
  have x1 : w2.cell? ⟨w.heap.size, 1, none⟩ = some (.int .i64 k) := X2.cell 1
  have x2 : w2.cell? ⟨w.heap.size, 2, none⟩ = some (.int .i64 kind) := X2.cell 2
  go_wp2_with fail
  refine (RT.out _ hr2).mono ?_
  rintro e w3 ⟨rfl, hb3⟩
  have X3 := X2.below hb3 nlr
  have hr3 := hr2.below hb3 nlr
  have hs3 := hb3.size
  have hB3 := hB2.trans (hb3.mono hB2.size)
  have y0 : w3.cell? ⟨w.heap.size, 0, none⟩ = some (.int .i64 l) := X3.cell 0
  have y1 : w3.cell? ⟨w.heap.size, 1, none⟩ = some (.int .i64 k) := X3.cell 1
  have y2 : w3.cell? ⟨w.heap.size, 2, none⟩ = some (.int .i64 kind) := X3.cell 2
  go_wp2_with fail
  refine (LD.out _ hr3).mono ?_
  rintro e w4 ⟨q, g, h, rfl, d4, hq, hg, hh, hb4⟩
  have X4 := X3.below hb4 nlr
  have hr4 := hr3.below hb4 nlr
  have hs4 := hb4.size
  have hB4 := hB3.trans (hb4.mono hB3.size)
  have z0 : w4.cell? ⟨w.heap.size, 0, none⟩ = some (.int .i64 l) := X4.cell 0
  have z1 : w4.cell? ⟨w.heap.size, 1, none⟩ = some (.int .i64 k) := X4.cell 1
  have z2 : w4.cell? ⟨w.heap.size, 2, none⟩ = some (.int .i64 kind) := X4.cell 2
  have d4' := d4.mono (m' := 20000) (by omega)
  go_wp2_with fail
  refine (LG.out _ _ _ _ d4).mono ?_
  rintro e w5 ⟨rfl, hb5⟩
  have X5 := X4.below hb5 nlr
  have d5 := d4'.below hb5 nlr
  have hs5 := hb5.size
  have hB5 := hB4.trans (hb5.mono hB4.size)
  have lt4 := d4.lt
  have s0 : w5.cell? ⟨w.heap.size, 0, none⟩ = some (.int .i64 l) := X5.cell 0
  have s1 : w5.cell? ⟨w.heap.size, 1, none⟩ = some (.int .i64 k) := X5.cell 1
  have s2 : w5.cell? ⟨w.heap.size, 2, none⟩ = some (.int .i64 kind) := X5.cell 2
  go_wp2_with fail
  go_ret2
  exact ⟨rfl, hB5⟩
end Go.Proofs.YtdnlejboijkcfaaGreatDoor
