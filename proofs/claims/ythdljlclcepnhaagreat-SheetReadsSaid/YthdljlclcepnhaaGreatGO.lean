/- Texts laid together: OpenStru, OpenConf, OpenDop, OpenSide. -/
import Derived.Test.YthdljlclcepnhaaGreatBA
import Derived.Deep.Fields
import Derived.Deep.Slices
/- An argument that is a struct of ints, by value. -/
namespace Go.Proofs.YthdljlclcepnhaaGreat
open Go.RowKit Go.ChangeShapes Go.WideShapes Go.ChangeAt

def intOf0 (v : Value) : Int := match v with | .int _ z => z | _ => 0
section
variable {H : Type} {enc : TypeId × Value → H} {P : Program} {w : World} {base b0 : Nat} {spare : Nat → Bool} {held : Bool} {r : Reach} {t I : TypeId} {v : Value} {d : DataW H} {ps : List MemPlace}
/-- Its cells are ints. -/
theorem open_stru {n : Nat} {fs : Array Field} (ht : P.underlying t = some (.struct fs)) (hI : P.underlying I = some (.int .i64)) (hn : fs.size = n) (hone : Deep.oneCellFields P fs = true) (hC : P.cellsOf t = n)
    (hfs : ∀ j, j < n → ∃ f, fs[j]? = some f ∧ f.type = I)
    (hv : Value.okWide P w r b0 t v) (h : DataW.Trod enc P w base spare held t v d ps) :
    ∃ zs : List Int, zs.length = n ∧ v = .agg (zs.map (Value.int .i64)).toArray ∧ ∀ z ∈ zs, (Lit.int .i64 z).wf = true := by
  unfold Value.okWide at hv
  rw [ht] at hv
  obtain ⟨cs, rfl, _, _⟩ := hv
  obtain ⟨fuel, hf⟩ := h
  simp only [Value.cells] at hf
  obtain ⟨ys, n2, _, _, hcl, hyl, hff⟩ := DataW.trod_struct ht hf
  rw [hC] at hcl
  have key : ∀ j (hj : j < cs.toList.length), cs.toList[j]'hj = .int .i64 (intOf0 (cs.toList[j]'hj)) ∧ (Lit.int .i64 (intOf0 (cs.toList[j]'hj))).wf = true := by
    intro j hj
    obtain ⟨f, hfj, hfI⟩ := hfs j (by omega)
    obtain ⟨ho, hk1⟩ := Deep.hone_of hone j f hfj
    have h1 := hff j f hfj
    rw [ho, hk1, hfI] at h1
    have hd : (cs.toList.drop j).take 1 = [cs.toList[j]'hj] := by rw [List.drop_eq_getElem_cons hj]; rfl
    rw [hd, List.getElem?_eq_getElem (show j < ys.length by omega)] at h1
    obtain ⟨z, hz, _, hw⟩ := DataW.trod_int hI h1
    simp only [List.cons.injEq, and_true] at hz
    rw [hz]
    exact ⟨rfl, hw⟩
  refine ⟨cs.toList.map intOf0, by simpa using hcl, ?_, ?_⟩
  · congr 1
    apply Array.toList_inj.1
    apply List.ext_getElem
    · simp
    · intro j h1 h2
      simp only [List.getElem_map]
      exact (key j h1).1
  · intro z hz
    obtain ⟨c, hc, rfl⟩ := List.mem_map.1 hz
    obtain ⟨j, hj, rfl⟩ := List.getElem_of_mem hc
    exact (key j hj).2
end
end Go.Proofs.YthdljlclcepnhaaGreat

/- An argument that is a conf. -/
namespace Go.Proofs.YthdljlclcepnhaaGreat
open Go.RowKit Go.ChangeShapes Go.WideShapes Go.ChangeAt

set_option maxRecDepth 100000 in
theorem open_conf {H : Type} {enc : TypeId × Value → H} {w : World} {base b0 : Nat} {spare : Nat → Bool} {held : Bool} {r : Reach} {v : Value} {d : DataW H} {ps : List MemPlace}
    (hv : Value.okWide Tryz.prog w r b0 37 v) (h : DataW.Trod enc Tryz.prog w base spare held 37 v d ps) :
    ∃ a b c : Int, v = .agg #[.int .i64 a, .int .i64 b, .int .i64 c] ∧ (Lit.int .i64 a).wf = true ∧ (Lit.int .i64 b).wf = true ∧ (Lit.int .i64 c).wf = true := by
  obtain ⟨zs, hl, rfl, hw⟩ := open_stru (n := 3) (I := 3) Tryz.underlying37 Tryz.underlying3 (by decide) (by kernel_rfl) (by kernel_rfl)
    (fun j hj => match j, hj with | 0, _ => ⟨_, rfl, rfl⟩ | 1, _ => ⟨_, rfl, rfl⟩ | 2, _ => ⟨_, rfl, rfl⟩) hv h
  match zs, hl with
  | [a, b, c], _ => exact ⟨a, b, c, rfl, hw a (by simp), hw b (by simp), hw c (by simp)⟩
end Go.Proofs.YthdljlclcepnhaaGreat

/- An argument that is a slice of calls of a digest. -/
namespace Go.Proofs.YthdljlclcepnhaaGreat
open Go.ChangeShapes Go.WideShapes Go.ChangeAt Go.RowKit

set_option maxRecDepth 100000 in
theorem open_dops {H : Type} {enc : TypeId × Value → H} {w : World} {base b0 : Nat} {spare : Nat → Bool} {held : Bool} {r : Reach} {v : Value} {d : DataW H} {ps : List MemPlace}
    (hv : Value.okWide Tryz.prog w r b0 38 v) (h : DataW.Trod enc Tryz.prog w base spare held 38 v d ps) : ∃ os, RdO w v os := by
  obtain ⟨p, len, cap, F, rfl, hl, hF⟩ := open_recs (n := 3) (I := 3) Tryz.underlying38 Tryz.underlying94 Tryz.underlying3 (by decide) (by kernel_rfl) (by kernel_rfl)
    (fun j hj => match j, hj with | 0, _ => ⟨_, rfl, rfl⟩ | 1, _ => ⟨_, rfl, rfl⟩ | 2, _ => ⟨_, rfl, rfl⟩) hv h
  have hlen : ((List.range len).map fun k => (F k 0, F k 1, F k 2)).length = len := by simp
  refine ⟨(List.range len).map fun k => (F k 0, F k 1, F k 2), p, cap, by rw [hlen], by rw [hlen]; unfold maxLen at hl; omega, fun k hk => ?_⟩
  rw [hlen] at hk
  have e : ((List.range len).map fun k => (F k 0, F k 1, F k 2)).getD k (0, 0, 0) = (F k 0, F k 1, F k 2) := by
    simp [List.getD, hk]
  rw [e]
  obtain ⟨g, off, hp, c0, w0⟩ := hF k hk 0 (by omega)
  obtain ⟨g1, off1, hp1, c1, w1⟩ := hF k hk 1 (by omega)
  obtain ⟨g2, off2, hp2, c2, w2⟩ := hF k hk 2 (by omega)
  rw [hp] at hp1 hp2
  simp only [Option.some.injEq, Addr.mk.injEq, and_true] at hp1 hp2
  obtain ⟨rfl, rfl⟩ := hp1
  obtain ⟨rfl, rfl⟩ := hp2
  exact ⟨g, off, hp, World.block_lt_of_cell? w _ c0, c0, by rwa [← Nat.add_assoc] at c1, by rwa [← Nat.add_assoc] at c2, bd_i64 _ w0, bd_i64 _ w1, bd_i64 _ w2⟩
end Go.Proofs.YthdljlclcepnhaaGreat

/- An argument that is a side: a conf, and calls of a digest. -/
namespace Go.Proofs.YthdljlclcepnhaaGreat
open Go.RowKit Go.ChangeShapes Go.WideShapes Go.ChangeAt

/-- A struct of two fields: three cells of one type, one cell that is a slice. -/
theorem open_pair {H : Type} {enc : TypeId × Value → H} {P : Program} {w : World} {base b0 : Nat} {spare : Nat → Bool} {held : Bool} {r : Reach} {t I c e e' : TypeId} {v : Value} {d : DataW H} {ps : List MemPlace} {f0 f1 : Field} {gs : Array Field}
    (ht : P.underlying t = some (.struct #[f0, f1])) (e0 : f0.type = c) (e1 : f1.type = e) (ho0 : f0.offset = 0) (ho1 : f1.offset = 3) (hc : P.underlying c = some (.struct gs)) (he : P.underlying e = some (.slice e'))
    (hc0 : P.cellsOf c = 3) (hc1 : P.cellsOf e = 1) (hct : P.cellsOf t = 4) (hts : P.cellTypes P.depth t = some [I, I, I, e]) (hts0 : P.cellTypes P.depth c = some [I, I, I])
    (hv : Value.okWide P w r b0 t v) (h : DataW.Trod enc P w base spare held t v d ps) :
    ∃ v0 v1 v2 v3, v = .agg #[v0, v1, v2, v3] ∧ (Value.okWide P w r b0 c (.agg #[v0, v1, v2]) ∧ ∃ d ps, DataW.Trod enc P w base spare held c (.agg #[v0, v1, v2]) d ps) ∧ (Value.okWide P w r b0 e v3 ∧ ∃ d ps, DataW.Trod enc P w base spare held e v3 d ps) := by
  subst e0 e1
  simp only [Value.okWide, ht] at hv
  obtain ⟨cs, rfl, hsz, ts, hts', _, hrow⟩ := hv
  obtain rfl : [I, I, I, f1.type] = ts := by rw [hts] at hts'; exact Option.some.inj hts'
  obtain ⟨fuel, hf⟩ := h
  simp only [Value.cells] at hf
  obtain ⟨y0, y1, n, _, _, h0, h1⟩ := trod_struct2 ht hf
  rw [hct] at hsz
  rw [ho0, hc0] at h0
  rw [ho1, hc1] at h1
  obtain ⟨l⟩ := cs
  match l, hsz with
  | [v0, v1, v2, v3], _ =>
    refine ⟨v0, v1, v2, v3, rfl, ⟨?_, y0.1, y0.2, n, h0⟩, ?_⟩
    · simp only [Value.okWide, hc]
      refine ⟨#[v0, v1, v2], rfl, by rw [hc0]; rfl, [I, I, I], hts0, ⟨1, rfl⟩, ?_⟩
      intro i u hu
      have hi : i = 0 ∨ i = 1 ∨ i = 2 := by
        have := (Array.getElem?_eq_some_iff.1 hu).1
        have h3 : (#[v0, v1, v2] : Array Value).size = 3 := rfl
        omega
      rcases hi with rfl | rfl | rfl
      · exact hrow 0 u (by simpa using hu)
      · exact hrow 1 u (by simpa using hu)
      · exact hrow 2 u (by simpa using hu)
    · have hok : Value.okWide P w r b0 f1.type v3 := by
        obtain ⟨u, hu, hk⟩ := hrow 3 v3 rfl
        have hue : u = f1.type := by simpa using hu.symm
        subst hue
        simp only [Value.okWide, he]; exact hk
      obtain ⟨p, len, cap, hs⟩ := okWide_slice he hok
      refine ⟨hok, y1.1, y1.2, n, ?_⟩
      rw [hs] at h1 ⊢
      exact h1

set_option maxRecDepth 100000 in
theorem open_side {H : Type} {enc : TypeId × Value → H} {w : World} {base b0 : Nat} {spare : Nat → Bool} {held : Bool} {r : Reach} {v : Value} {d : DataW H} {ps : List MemPlace}
    (hv : Value.okWide Tryz.prog w r b0 40 v) (h : DataW.Trod enc Tryz.prog w base spare held 40 v d ps) :
    ∃ x : Int × Int × Int × Value × List Op3, v = .agg #[.int .i64 x.1, .int .i64 x.2.1, .int .i64 x.2.2.1, x.2.2.2.1] ∧ ((Lit.int .i64 x.1).wf = true ∧ (Lit.int .i64 x.2.1).wf = true ∧ (Lit.int .i64 x.2.2.1).wf = true) ∧ RdO w x.2.2.2.1 x.2.2.2.2 := by
  obtain ⟨v0, v1, v2, v3, rfl, ⟨ok0, d0, p0, t0⟩, ok1, d1, p1, t1⟩ := open_pair (I := 3) (c := 37) (e := 38) Tryz.underlying40 rfl rfl rfl rfl Tryz.underlying37 Tryz.underlying38 (by kernel_rfl) (by kernel_rfl) (by kernel_rfl) (by kernel_rfl) (by kernel_rfl) hv h
  obtain ⟨a, b, c, hq, wa, wb, wc⟩ := open_conf ok0 t0
  obtain ⟨os, hos⟩ := open_dops ok1 t1
  simp only [Value.agg.injEq, Array.mk.injEq, List.cons.injEq, and_true] at hq
  obtain ⟨rfl, rfl, rfl⟩ := hq
  exact ⟨(a, b, c, v3, os), rfl, ⟨wa, wb, wc⟩, hos⟩
end Go.Proofs.YthdljlclcepnhaaGreat
