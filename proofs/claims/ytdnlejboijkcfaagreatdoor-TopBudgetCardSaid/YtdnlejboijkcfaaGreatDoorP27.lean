/- Texts laid together. -/
import Derived.Test.YtdnlejboijkcfaaGreatDoorP26
import Derived.Test.YtdnlejboijkcfaaGreatDoorP16
/- The walks of wire.Right and wire.Decode. -/
namespace Go.Proofs.YtdnlejboijkcfaaGreatDoor
set_option maxHeartbeats 8000000
set_option maxRecDepth 100000
open Go.RowKit Nl Vy
theorem Vy.enc_inj {l k l' k' : Int} {zs zs' : List Nd} (h : loadE 2 l k zs = 0) (h' : loadE 2 l' k' zs' = 0) (e : encB l k zs = encB l' k' zs') : l = l' ∧ k = k' ∧ zs = zs' := by
  obtain ⟨t, q, a1, a2, a3, a4, -, a6⟩ := good_chain h rfl
  obtain ⟨t', q', b1, b2, b3, b4, -, b6⟩ := good_chain (s := encB l k zs) h' e
  rw [a1] at b1
  obtain rfl := Option.some.inj b1
  rw [a4] at b4
  obtain ⟨e1, rfl⟩ : zs.map (·.1) = zs'.map (·.1) ∧ q = q' := by simpa using b4
  rw [e1] at a6
  rw [a6] at b6
  have e2 : zs.map (·.2) = zs'.map (·.2) := by simpa using b6
  exact ⟨by omega, by omega, by rw [← zip_map zs, ← zip_map zs', e1, e2]⟩
def DecP (s : List UInt8) (kind : Int) (w : World) (e : Ending) (w' : World) : Prop :=
  (∃ er : Int, e = .returned (.tuple #[.pointer none, .int .i64 er]) ∧ Below w.heap.size w w' ∧ 1 ≤ er ∧ er ≤ 100 ∧ Dead s) ∨
  ∃ (l k : Int) (zs : List Nd), loadE 2 l k zs = 0 ∧ s = encB l k zs ∧
    ((poolIs kind l = false ∧ e = .returned (.tuple #[.pointer none, .int .i64 2]) ∧ Below w.heap.size w w') ∨ (poolIs kind l = true ∧ DgNew kind l k 20000 zs w e w'))
theorem w_decode (s : ByteArray) (kind : Int) (w : World) (hs : s.size ≤ 200000) (hz : ∀ (l k : Int) (zs : List Nd), loadE 2 l k zs = 0 → s.data.toList = encB l k zs → zs.length ≤ 19999) :
    Calls Tryz.prog 150 #[.string s, .int .i64 kind] w (DecP s.data.toList kind w) := by
  have RD := hid (w_read s w hs)
  have HZ := hid hz
  clear hz
  go_enter Tryz.func150, Tryz.ntmps150
  go_wp2_with fail
  refine RD.out.mono ?_
  rintro e w2 ⟨hb, (⟨er, rfl, h1, h2, h3⟩ | ⟨l, k, zs, v, rfl, h1, h2, own, hz⟩)⟩
  · have H := hid h3
    have hb2 := hb.alloc hb.size (.cells (PartC 0 0 0 0 (.slice none 0 0)) 234)
    unfold PartC at hb2 ⊢
    have z : (er != 0) = true := by simp; omega
    clear h3 RD
    go_wp2_with fail
    go_ret2
    exact .inl ⟨er, rfl, hb2, h1, h2, H.out⟩
  · have H := hid (And.intro h1 h2)
    have hzl := HZ.out _ _ _ h1 h2
    have inv := load_inv h1
    have nb := hid (Nl.Roll.nb2 inv.roll)
    have bl : In64 l := ⟨by have := inv.roll.l1; omega, by have := inv.roll.l2; omega⟩
    have bk : In64 k := ⟨by have := inv.k1; omega, by have := inv.k2; omega⟩
    have LK := hid (load_kind (kind := kind) h1)
    have hb2 : Below w.heap.size w (w2.alloc (.cells (PartC l k kind (sumL zs) v) 234)) := hb.alloc hb.size _
    have own2 : RdN (w2.alloc (.cells (PartC l k kind (sumL zs) v) 234)) v zs := own.rd.alloc _
    obtain ⟨p, c, rfl⟩ := own.val
    have LD : Hid (Calls Tryz.prog 179 #[.agg #[.int .i64 l, .int .i64 k, .int .i64 kind], .slice p zs.length c] (w2.alloc (.cells (PartC l k kind (sumL zs) (.slice p zs.length c)) 234)) (DecP s.data.toList kind w)) := by
      refine hid ?_
      by_cases hp : poolIs kind l = true
      · refine (dg_load kind l k own2 nb.out hzl (by rw [LK.out, hp]; rfl)).mono ?_
        rintro e w3 ⟨dg, q, g, h, rfl, d, e1, e2, e3, e4, hb3⟩
        have hsz := hb2.size
        exact .inr ⟨l, k, zs, H.out.1, H.out.2, .inr ⟨hp, dg, q, g, h, rfl, d, by omega, by omega, by omega, by omega, hb2.trans (hb3.mono hsz)⟩⟩
      · simp only [Bool.not_eq_true] at hp
        have e2 : loadE kind l k zs = 2 := by rw [LK.out, hp]; rfl
        refine (dg_load_no kind l k own2 nb.out hzl bl bk (by rw [e2]; decide)).mono ?_
        rintro e w3 ⟨rfl, hb3⟩
        exact .inr ⟨l, k, zs, H.out.1, H.out.2, .inl ⟨hp, by rw [e2], hb2.trans (hb3.mono hb2.size)⟩⟩
    have hs2 : w2.heap.size < (w2.alloc (.cells (PartC l k kind (sumL zs) (.slice p zs.length c)) 234)).heap.size := by simp
    unfold PartC at LD ⊢
    generalize sumL zs = S at *
    clear h1 h2 RD own own2 inv hb2 LK nb HZ hs2
    go_wp2_with fail
    refine LD.out.mono ?_
    intro e w3 hD
    obtain ⟨a, er, rfl⟩ : ∃ a er, e = .returned (.tuple #[.pointer a, .int .i64 er]) := by
      rcases hD with ⟨er, rfl, -⟩ | ⟨_, _, _, -, -, (⟨-, rfl, -⟩ | ⟨-, _, _, _, _, rfl, -⟩)⟩
      · exact ⟨_, _, rfl⟩
      · exact ⟨_, _, rfl⟩
      · exact ⟨_, _, rfl⟩
    have HD := hid hD
    clear hD LD
    go_wp2_with fail
    go_ret2
    exact HD.out
end Go.Proofs.YtdnlejboijkcfaaGreatDoor

/- wire.Peek of a digest's bytes. -/
namespace Go.Proofs.YtdnlejboijkcfaaGreatDoor
set_option maxHeartbeats 8000000
set_option maxRecDepth 100000
open Go.RowKit Nl Vy
theorem w_peek {l k : Int} {zs : List Nd} (s : ByteArray) (w : World) (hs : s.size ≤ 200000) (h : loadE 2 l k zs = 0) (es : s.data.toList = encB l k zs) :
    Calls Tryz.prog 149 #[.string s] w fun e w' => (∃ n m : Int, e = .returned (.tuple #[.agg #[.int .i64 l, .int .i64 k, .int .i64 0], .int .i64 n, .int .i64 m, .int .i64 0])) ∧ Below w.heap.size w w' := by
  have RD := hid (w_read s (w.alloc (.cells #[.int .i64 0, .int .i64 0, .int .i64 0] 24)) hs)
  have X1 := Blk.new w #[.int .i64 0, .int .i64 0, .int .i64 0] 24
  have hb1 : Below w.heap.size w (w.alloc (.cells #[.int .i64 0, .int .i64 0, .int .i64 0] 24)) := (Below.refl _ _).alloc nlr _
  have H := hid (And.intro h es)
  clear h es
  go_enter Tryz.func149, Tryz.ntmps149
  go_wp2_with fail
  refine RD.out.mono ?_
  rintro e w2 ⟨hb, (⟨er, rfl, h1, h2, h3⟩ | ⟨l', k', zs', v, rfl, h1, h2, own, hz⟩)⟩
  · exact absurd H.out.2 (h3 l k zs H.out.1)
  · obtain ⟨rfl, rfl, rfl⟩ := enc_inj H.out.1 h1 (H.out.2.symm.trans h2)
    obtain ⟨p, c, rfl⟩ := own.val
    have X2 := X1.below hb nlr
    have hb2 := hb1.trans (hb.mono hb1.size)
    have hxl := X2.lt
    have X3 := X2.alloc (.cells (PartC l k 0 (sumL zs) (.slice p zs.length c)) 234)
    have Y3 := Blk.new w2 (PartC l k 0 (sumL zs) (.slice p zs.length c)) 234
    have hb3 := hb2.alloc hb2.size (.cells (PartC l k 0 (sumL zs) (.slice p zs.length c)) 234)
    unfold PartC at X3 Y3 hb3 ⊢
    generalize sumL zs = S at *
    generalize zs.length = N at *
    clear RD h1 h2 own hb hb1 H X1 X2
    have hxy : w.heap.size ≠ w2.heap.size := by omega
    go_upto_region 2 with fail
    generalize hW : w2.alloc (.cells #[.int .i64 l, .int .i64 k, .int .i64 0, .int .i64 S, .slice p N c] 234) = w3 at *
    clear hW
    generalize w2.heap.size = y at *
    have y0 : w3.cell? ⟨y, 0, none⟩ = some (.int .i64 l) := Y3.cell 0
    have y1 : w3.cell? ⟨y, 1, none⟩ = some (.int .i64 k) := Y3.cell 1
    have y2 : w3.cell? ⟨y, 2, none⟩ = some (.int .i64 0) := Y3.cell 2
    have y3 : w3.cell? ⟨y, 3, none⟩ = some (.int .i64 S) := Y3.cell 3
    have y4 : w3.cell? ⟨y, 4, none⟩ = some (.slice p N c) := Y3.cell 4
    have x0 : w3.cell? ⟨w.heap.size, 0, none⟩ = some (.int .i64 0) := X3.cell 0
    have x1 : w3.cell? ⟨w.heap.size, 1, none⟩ = some (.int .i64 0) := X3.cell 1
    have x2 : w3.cell? ⟨w.heap.size, 2, none⟩ = some (.int .i64 0) := X3.cell 2
    have f0 := X3.free 0
    have f1 := X3.free 1
    have f2 := X3.free 2
    have xl := X3.lt
    go_region
    go_wp2_with fail
    have hbz := below_drewN (((hb3.setCell (p := ⟨w.heap.size, 0, none⟩) nlr (.int .i64 l)).setCell (p := ⟨w.heap.size, 1, none⟩) nlr (.int .i64 k)).setCell (p := ⟨w.heap.size, 2, none⟩) nlr (.int .i64 0)) 1
    have z0 : (w3.setCell ⟨w.heap.size, 0, none⟩ (.int .i64 l)).cell? ⟨w.heap.size, 0, none⟩ = some (.int .i64 l) := (X3.set 0 (.int .i64 l)).cell 0
    have z1 : ((w3.setCell ⟨w.heap.size, 0, none⟩ (.int .i64 l)).setCell ⟨w.heap.size, 1, none⟩ (.int .i64 k)).cell? ⟨w.heap.size, 1, none⟩ = some (.int .i64 k) := ((X3.set 0 (.int .i64 l)).set 1 (.int .i64 k)).cell 1
    have z2 : (((w3.setCell ⟨w.heap.size, 0, none⟩ (.int .i64 l)).setCell ⟨w.heap.size, 1, none⟩ (.int .i64 k)).setCell ⟨w.heap.size, 2, none⟩ (.int .i64 0)).cell? ⟨w.heap.size, 2, none⟩ = some (.int .i64 0) := (((X3.set 0 (.int .i64 l)).set 1 (.int .i64 k)).set 2 (.int .i64 0)).cell 2
    clear x0 x1 x2 y0 y1 y2 y3 y4 f0 f1 f2 Y3 X3
    exact bodyPost_ret (v := .tuple #[.agg #[.int .i64 l, .int .i64 k, .int .i64 0], .int .i64 S, .int .i64 N, .int .i64 0]) (by simp [results, Tryz.results149, go_sem, z0, z1, z2]) rfl ⟨⟨_, _, rfl⟩, hbz⟩
end Go.Proofs.YtdnlejboijkcfaaGreatDoor
