/- An argument that is a side: a conf, and calls of a digest. -/
import Derived.Test.YtnakieopnobjmaaGreatOpenConf
import Derived.Test.YtnakieopnobjmaaGreatOpenDop
namespace Go.Proofs.YtnakieopnobjmaaGreat
open Go.RowKit Go.ChangeShapes Go.WideShapes Go.ChangeAt

/-- A struct of two fields: three cells of one type, one cell that is a slice. -/
theorem open_pair {H : Type} {enc : TypeId × Value → H} {P : Program} {w : World} {base b0 : Nat} {spare : Nat → Bool} {held : Bool} {r : Reach} {t I c e e' : TypeId} {v : Value} {d : DataW H} {ps : List MemPlace} {f0 f1 : Field} {gs : Array Field}
    (ht : P.underlying t = some (.struct #[f0, f1])) (e0 : f0.type = c) (e1 : f1.type = e) (ho0 : f0.offset = 0) (ho1 : f1.offset = 3) (hc : P.underlying c = some (.struct gs)) (he : P.underlying e = some (.slice e'))
    (hc0 : P.cellsOf c = 3) (hc1 : P.cellsOf e = 1) (hct : P.cellsOf t = 4) (hts : P.cellTypes P.depth t = some [I, I, I, e]) (hts0 : P.cellTypes P.depth c = some [I, I, I])
    (hv : Value.okWide P w r b0 t v) (h : DataW.Trod enc P w base spare held t v d ps) :
    ∃ v0 v1 v2 v3, v = .agg #[v0, v1, v2, v3] ∧ (Value.okWide P w r b0 c (.agg #[v0, v1, v2]) ∧ ∃ d ps, DataW.Trod enc P w base spare held c (.agg #[v0, v1, v2]) d ps) ∧ (Value.okWide P w r b0 e v3 ∧ ∃ d ps, DataW.Trod enc P w base spare held e v3 d ps) := by
  subst e0 e1
  simp only [Value.okWide, ht] at hv
  obtain ⟨cs, rfl, hsz, ts, hts', _, hrow⟩ := hv
  obtain rfl : [I, I, I, f1.type] = ts := by rw [hts] at hts'; exact Option.some.inj hts'
  obtain ⟨fuel, hf⟩ := h
  simp only [Value.cells] at hf
  obtain ⟨y0, y1, n, _, _, h0, h1⟩ := trod_struct2 ht hf
  rw [hct] at hsz
  rw [ho0, hc0] at h0
  rw [ho1, hc1] at h1
  obtain ⟨l⟩ := cs
  match l, hsz with
  | [v0, v1, v2, v3], _ =>
    refine ⟨v0, v1, v2, v3, rfl, ⟨?_, y0.1, y0.2, n, h0⟩, ?_⟩
    · simp only [Value.okWide, hc]
      refine ⟨#[v0, v1, v2], rfl, by rw [hc0]; rfl, [I, I, I], hts0, ⟨1, rfl⟩, ?_⟩
      intro i u hu
      have hi : i = 0 ∨ i = 1 ∨ i = 2 := by
        have := (Array.getElem?_eq_some_iff.1 hu).1
        have h3 : (#[v0, v1, v2] : Array Value).size = 3 := rfl
        omega
      rcases hi with rfl | rfl | rfl
      · exact hrow 0 u (by simpa using hu)
      · exact hrow 1 u (by simpa using hu)
      · exact hrow 2 u (by simpa using hu)
    · have hok : Value.okWide P w r b0 f1.type v3 := by
        obtain ⟨u, hu, hk⟩ := hrow 3 v3 rfl
        have hue : u = f1.type := by simpa using hu.symm
        subst hue
        simp only [Value.okWide, he]; exact hk
      obtain ⟨p, len, cap, hs⟩ := okWide_slice he hok
      refine ⟨hok, y1.1, y1.2, n, ?_⟩
      rw [hs] at h1 ⊢
      exact h1

set_option maxRecDepth 100000 in
theorem open_side {H : Type} {enc : TypeId × Value → H} {w : World} {base b0 : Nat} {spare : Nat → Bool} {held : Bool} {r : Reach} {v : Value} {d : DataW H} {ps : List MemPlace}
    (hv : Value.okWide Tryz.prog w r b0 26 v) (h : DataW.Trod enc Tryz.prog w base spare held 26 v d ps) :
    ∃ x : Int × Int × Int × Value × List Op3, v = .agg #[.int .i64 x.1, .int .i64 x.2.1, .int .i64 x.2.2.1, x.2.2.2.1] ∧ ((Lit.int .i64 x.1).wf = true ∧ (Lit.int .i64 x.2.1).wf = true ∧ (Lit.int .i64 x.2.2.1).wf = true) ∧ RdO w x.2.2.2.1 x.2.2.2.2 := by
  obtain ⟨v0, v1, v2, v3, rfl, ⟨ok0, d0, p0, t0⟩, ok1, d1, p1, t1⟩ := open_pair (I := 3) (c := 23) (e := 24) Tryz.underlying26 rfl rfl rfl rfl Tryz.underlying23 Tryz.underlying24 (by kernel_rfl) (by kernel_rfl) (by kernel_rfl) (by kernel_rfl) (by kernel_rfl) hv h
  obtain ⟨a, b, c, hq, wa, wb, wc⟩ := open_conf ok0 t0
  obtain ⟨os, hos⟩ := open_dops ok1 t1
  simp only [Value.agg.injEq, Array.mk.injEq, List.cons.injEq, and_true] at hq
  obtain ⟨rfl, rfl, rfl⟩ := hq
  exact ⟨(a, b, c, v3, os), rfl, ⟨wa, wb, wc⟩, hos⟩
end Go.Proofs.YtnakieopnobjmaaGreat
