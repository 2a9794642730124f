/- The walks of wire.Right and wire.Decode. -/
import Derived.Test.YtbbkfjbaocpknaaGreatRv7
namespace Go.Proofs.YtbbkfjbaocpknaaGreat
open Go.RowKit Nl Vy

/-- A digest may be loaded to a table. -/
theorem Nl.load_dg {l k : Int} {zs : List (Int × Int)} (d : Dg l k zs) : loadE 2 l k zs = 0 := by
  have h1 := d.roll.l1
  have h2 := d.roll.l2
  have h3 : isK k = true := decide_eq_true ⟨d.k1, d.k2⟩
  have h4 : poolIs 2 l = true := by unfold poolIs; simp; omega
  have h5 := rollB_iff.2 d.roll
  have h6 := d.light
  have h7 := d.room
  unfold loadE
  rw [h3, h4, h5, h6]
  simp
  omega
theorem Nl.load_kind {kind l k : Int} {zs : List (Int × Int)} (h : loadE 2 l k zs = 0) : loadE kind l k zs = if poolIs kind l then 0 else 2 := by
  obtain ⟨h1, h2, h3, h4, h5⟩ := load_ok h
  unfold loadE
  rw [h2, h3, h5]
  cases poolIs kind l
  · simp
  · simp; omega
theorem Vy.enc_inj {l k l' k' : Int} {zs zs' : List Nd} (h : loadE 2 l k zs = 0) (h' : loadE 2 l' k' zs' = 0) (e : encB l k zs = encB l' k' zs') : l = l' ∧ k = k' ∧ zs = zs' := by
  obtain ⟨t, q, a1, a2, a3, a4, -, a6⟩ := good_chain h rfl
  obtain ⟨t', q', b1, b2, b3, b4, -, b6⟩ := good_chain (s := encB l k zs) h' e
  rw [a1] at b1
  obtain rfl := Option.some.inj b1
  rw [a4] at b4
  obtain ⟨e1, rfl⟩ : zs.map (·.1) = zs'.map (·.1) ∧ q = q' := by simpa using b4
  rw [e1] at a6
  rw [a6] at b6
  have e2 : zs.map (·.2) = zs'.map (·.2) := by simpa using b6
  exact ⟨by omega, by omega, by rw [← zip_map zs, ← zip_map zs', e1, e2]⟩
/-- What Right tells. -/
def RightP (s : List UInt8) (w : World) (e : Ending) (w' : World) : Prop :=
  ∃ er : Int, e = .returned (.int .i64 er) ∧ Below w.heap.size w w' ∧ ((er = 0 ∧ ∃ (l k : Int) (zs : List Nd), loadE 2 l k zs = 0 ∧ s = encB l k zs) ∨ (1 ≤ er ∧ er ≤ 100 ∧ Dead s))
set_option maxRecDepth 100000 in
set_option maxHeartbeats 1000000 in
theorem w_right' (s : ByteArray) (w : World) (hs : s.size ≤ 200000) : Calls Tryz.prog 23 #[.string s] w (RightP s.data.toList w) := by
  have RD := hid (w_read s w hs)
  go_enter Tryz.func23, Tryz.ntmps23
  go_wp2_with fail
  refine RD.out.mono ?_
  rintro e w2 ⟨hb, (⟨er, rfl, h1, h2, h3⟩ | ⟨l, k, zs, v, rfl, h1, h2, own, hz⟩)⟩
  · have H := hid h3
    have hb2 := hb.alloc hb.size (.cells (PartC 0 0 0 0 (.slice none 0 0)) 120)
    unfold PartC at hb2 ⊢
    clear h3 RD
    go_wp2_with fail
    go_ret
    exact ⟨er, rfl, hb2, .inr ⟨h1, h2, H.out⟩⟩
  · have H := hid (And.intro h1 h2)
    obtain ⟨p, c, rfl⟩ := own.val
    have hb2 := hb.alloc hb.size (.cells (PartC l k 0 (sumL zs) (.slice p zs.length c)) 120)
    unfold PartC at hb2 ⊢
    generalize sumL zs = S at *
    clear h1 h2 RD own
    go_wp2_with fail
    go_ret
    exact ⟨0, rfl, hb2, .inl ⟨rfl, l, k, zs, H.out.1, H.out.2⟩⟩
/-- What Decode gives. -/
def DecP (s : List UInt8) (kind : Int) (w : World) (e : Ending) (w' : World) : Prop :=
  (∃ er : Int, e = .returned (.tuple #[.pointer none, .int .i64 er]) ∧ Below w.heap.size w w' ∧ 1 ≤ er ∧ er ≤ 100 ∧ Dead s) ∨
  ∃ (l k : Int) (zs : List Nd), loadE 2 l k zs = 0 ∧ s = encB l k zs ∧
    ((poolIs kind l = false ∧ e = .returned (.tuple #[.pointer none, .int .i64 2]) ∧ Below w.heap.size w w') ∨ (poolIs kind l = true ∧ DgNew kind l k 2000 zs w e w'))
set_option maxRecDepth 100000 in
set_option maxHeartbeats 2000000 in
theorem w_decode (s : ByteArray) (kind : Int) (w : World) (hs : s.size ≤ 200000) (hz : ∀ (l k : Int) (zs : List Nd), loadE 2 l k zs = 0 → s.data.toList = encB l k zs → zs.length ≤ 1999) :
    Calls Tryz.prog 25 #[.string s, .int .i64 kind] w (DecP s.data.toList kind w) := by
  have RD := hid (w_read s w hs)
  have HZ := hid hz
  clear hz
  go_enter Tryz.func25, Tryz.ntmps25
  go_wp2_with fail
  refine RD.out.mono ?_
  rintro e w2 ⟨hb, (⟨er, rfl, h1, h2, h3⟩ | ⟨l, k, zs, v, rfl, h1, h2, own, hz⟩)⟩
  · have H := hid h3
    have hb2 := hb.alloc hb.size (.cells (PartC 0 0 0 0 (.slice none 0 0)) 120)
    unfold PartC at hb2 ⊢
    have z : (er != 0) = true := by simp; omega
    clear h3 RD
    go_wp2_with fail
    go_ret2
    exact .inl ⟨er, rfl, hb2, h1, h2, H.out⟩
  · have H := hid (And.intro h1 h2)
    have hzl := HZ.out _ _ _ h1 h2
    have inv := load_inv h1
    have nb := hid (Nl.Roll.nb2 inv.roll)
    have bl : In64 l := ⟨by have := inv.roll.l1; omega, by have := inv.roll.l2; omega⟩
    have bk : In64 k := ⟨by have := inv.k1; omega, by have := inv.k2; omega⟩
    have LK := hid (load_kind (kind := kind) h1)
    have hb2 : Below w.heap.size w (w2.alloc (.cells (PartC l k kind (sumL zs) v) 120)) := hb.alloc hb.size _
    have own2 : RdN (w2.alloc (.cells (PartC l k kind (sumL zs) v) 120)) v zs := own.rd.alloc _
    obtain ⟨p, c, rfl⟩ := own.val
    have LD : Hid (Calls Tryz.prog 60 #[.agg #[.int .i64 l, .int .i64 k, .int .i64 kind], .slice p zs.length c] (w2.alloc (.cells (PartC l k kind (sumL zs) (.slice p zs.length c)) 120)) (DecP s.data.toList kind w)) := by
      refine hid ?_
      by_cases hp : poolIs kind l = true
      · refine (dg_load kind l k own2 nb.out hzl (by rw [LK.out, hp]; rfl)).mono ?_
        rintro e w3 ⟨dg, q, g, h, rfl, d, e1, e2, e3, e4, hb3⟩
        have hsz := hb2.size
        exact .inr ⟨l, k, zs, H.out.1, H.out.2, .inr ⟨hp, dg, q, g, h, rfl, d, by omega, by omega, by omega, by omega, hb2.trans (hb3.mono hsz)⟩⟩
      · simp only [Bool.not_eq_true] at hp
        have e2 : loadE kind l k zs = 2 := by rw [LK.out, hp]; rfl
        refine (dg_load_no kind l k own2 nb.out hzl bl bk (by rw [e2]; decide)).mono ?_
        rintro e w3 ⟨rfl, hb3⟩
        exact .inr ⟨l, k, zs, H.out.1, H.out.2, .inl ⟨hp, by rw [e2], hb2.trans (hb3.mono hb2.size)⟩⟩
    have hs2 : w2.heap.size < (w2.alloc (.cells (PartC l k kind (sumL zs) (.slice p zs.length c)) 120)).heap.size := by simp
    unfold PartC at LD ⊢
    generalize sumL zs = S at *
    clear h1 h2 RD own own2 inv hb2 LK nb HZ hs2
    go_wp2_with fail
    refine LD.out.mono ?_
    intro e w3 hD
    obtain ⟨a, er, rfl⟩ : ∃ a er, e = .returned (.tuple #[.pointer a, .int .i64 er]) := by
      rcases hD with ⟨er, rfl, -⟩ | ⟨_, _, _, -, -, (⟨-, rfl, -⟩ | ⟨-, _, _, _, _, rfl, -⟩)⟩
      · exact ⟨_, _, rfl⟩
      · exact ⟨_, _, rfl⟩
      · exact ⟨_, _, rfl⟩
    have HD := hid hD
    clear hD LD
    go_wp2_with fail
    go_ret2
    exact HD.out
end Go.Proofs.YtbbkfjbaocpknaaGreat
