/- Texts laid together: OpenStru, OpenConf, OpenDop, OpenSide. -/
import Derived.Test.YtbbkfjbaocpknaaBA
import Derived.Deep.Fields
import Derived.Deep.Slices
/- An argument that is a struct of ints, by value. -/
namespace Go.Proofs.Ytbbkfjbaocpknaa
open Go.RowKit Go.ChangeShapes Go.WideShapes Go.ChangeAt

def intOf0 (v : Value) : Int := match v with | .int _ z => z | _ => 0
section
variable {H : Type} {enc : TypeId × Value → H} {P : Program} {w : World} {base b0 : Nat} {spare : Nat → Bool} {held : Bool} {r : Reach} {t I : TypeId} {v : Value} {d : DataW H} {ps : List MemPlace}
/-- Its cells are ints. -/
theorem open_stru {n : Nat} {fs : Array Field} (ht : P.underlying t = some (.struct fs)) (hI : P.underlying I = some (.int .i64)) (hn : fs.size = n) (hone : Deep.oneCellFields P fs = true) (hC : P.cellsOf t = n)
    (hfs : ∀ j, j < n → ∃ f, fs[j]? = some f ∧ f.type = I)
    (hv : Value.okWide P w r b0 t v) (h : DataW.Trod enc P w base spare held t v d ps) :
    ∃ zs : List Int, zs.length = n ∧ v = .agg (zs.map (Value.int .i64)).toArray ∧ ∀ z ∈ zs, (Lit.int .i64 z).wf = true := by
  unfold Value.okWide at hv
  rw [ht] at hv
  obtain ⟨cs, rfl, _, _⟩ := hv
  obtain ⟨fuel, hf⟩ := h
  simp only [Value.cells] at hf
  obtain ⟨ys, n2, _, _, hcl, hyl, hff⟩ := DataW.trod_struct ht hf
  rw [hC] at hcl
  have key : ∀ j (hj : j < cs.toList.length), cs.toList[j]'hj = .int .i64 (intOf0 (cs.toList[j]'hj)) ∧ (Lit.int .i64 (intOf0 (cs.toList[j]'hj))).wf = true := by
    intro j hj
    obtain ⟨f, hfj, hfI⟩ := hfs j (by omega)
    obtain ⟨ho, hk1⟩ := Deep.hone_of hone j f hfj
    have h1 := hff j f hfj
    rw [ho, hk1, hfI] at h1
    have hd : (cs.toList.drop j).take 1 = [cs.toList[j]'hj] := by rw [List.drop_eq_getElem_cons hj]; rfl
    rw [hd, List.getElem?_eq_getElem (show j < ys.length by omega)] at h1
    obtain ⟨z, hz, _, hw⟩ := DataW.trod_int hI h1
    simp only [List.cons.injEq, and_true] at hz
    rw [hz]
    exact ⟨rfl, hw⟩
  refine ⟨cs.toList.map intOf0, by simpa using hcl, ?_, ?_⟩
  · congr 1
    apply Array.toList_inj.1
    apply List.ext_getElem
    · simp
    · intro j h1 h2
      simp only [List.getElem_map]
      exact (key j h1).1
  · intro z hz
    obtain ⟨c, hc, rfl⟩ := List.mem_map.1 hz
    obtain ⟨j, hj, rfl⟩ := List.getElem_of_mem hc
    exact (key j hj).2
end
end Go.Proofs.Ytbbkfjbaocpknaa

/- An argument that is a conf. -/
namespace Go.Proofs.Ytbbkfjbaocpknaa
open Go.RowKit Go.ChangeShapes Go.WideShapes Go.ChangeAt

set_option maxRecDepth 100000 in
theorem open_conf {H : Type} {enc : TypeId × Value → H} {w : World} {base b0 : Nat} {spare : Nat → Bool} {held : Bool} {r : Reach} {v : Value} {d : DataW H} {ps : List MemPlace}
    (hv : Value.okWide Try.prog w r b0 46 v) (h : DataW.Trod enc Try.prog w base spare held 46 v d ps) :
    ∃ a b c : Int, v = .agg #[.int .i64 a, .int .i64 b, .int .i64 c] ∧ (Lit.int .i64 a).wf = true ∧ (Lit.int .i64 b).wf = true ∧ (Lit.int .i64 c).wf = true := by
  obtain ⟨zs, hl, rfl, hw⟩ := open_stru (n := 3) (I := 3) Try.underlying46 Try.underlying3 (by decide) (by kernel_rfl) (by kernel_rfl)
    (fun j hj => match j, hj with | 0, _ => ⟨_, rfl, rfl⟩ | 1, _ => ⟨_, rfl, rfl⟩ | 2, _ => ⟨_, rfl, rfl⟩) hv h
  match zs, hl with
  | [a, b, c], _ => exact ⟨a, b, c, rfl, hw a (by simp), hw b (by simp), hw c (by simp)⟩
end Go.Proofs.Ytbbkfjbaocpknaa

/- An argument that is a slice of calls of a digest. -/
namespace Go.Proofs.Ytbbkfjbaocpknaa
open Go.ChangeShapes Go.WideShapes Go.ChangeAt Go.RowKit

end Go.Proofs.Ytbbkfjbaocpknaa

/- An argument that is a side: a conf, and calls of a digest. -/
namespace Go.Proofs.Ytbbkfjbaocpknaa
open Go.RowKit Go.ChangeShapes Go.WideShapes Go.ChangeAt

/-- A struct of two fields: three cells of one type, one cell that is a slice. -/
theorem open_pair {H : Type} {enc : TypeId × Value → H} {P : Program} {w : World} {base b0 : Nat} {spare : Nat → Bool} {held : Bool} {r : Reach} {t I c e e' : TypeId} {v : Value} {d : DataW H} {ps : List MemPlace} {f0 f1 : Field} {gs : Array Field}
    (ht : P.underlying t = some (.struct #[f0, f1])) (e0 : f0.type = c) (e1 : f1.type = e) (ho0 : f0.offset = 0) (ho1 : f1.offset = 3) (hc : P.underlying c = some (.struct gs)) (he : P.underlying e = some (.slice e'))
    (hc0 : P.cellsOf c = 3) (hc1 : P.cellsOf e = 1) (hct : P.cellsOf t = 4) (hts : P.cellTypes P.depth t = some [I, I, I, e]) (hts0 : P.cellTypes P.depth c = some [I, I, I])
    (hv : Value.okWide P w r b0 t v) (h : DataW.Trod enc P w base spare held t v d ps) :
    ∃ v0 v1 v2 v3, v = .agg #[v0, v1, v2, v3] ∧ (Value.okWide P w r b0 c (.agg #[v0, v1, v2]) ∧ ∃ d ps, DataW.Trod enc P w base spare held c (.agg #[v0, v1, v2]) d ps) ∧ (Value.okWide P w r b0 e v3 ∧ ∃ d ps, DataW.Trod enc P w base spare held e v3 d ps) := by
  subst e0 e1
  simp only [Value.okWide, ht] at hv
  obtain ⟨cs, rfl, hsz, ts, hts', _, hrow⟩ := hv
  obtain rfl : [I, I, I, f1.type] = ts := by rw [hts] at hts'; exact Option.some.inj hts'
  obtain ⟨fuel, hf⟩ := h
  simp only [Value.cells] at hf
  obtain ⟨y0, y1, n, _, _, h0, h1⟩ := trod_struct2 ht hf
  rw [hct] at hsz
  rw [ho0, hc0] at h0
  rw [ho1, hc1] at h1
  obtain ⟨l⟩ := cs
  match l, hsz with
  | [v0, v1, v2, v3], _ =>
    refine ⟨v0, v1, v2, v3, rfl, ⟨?_, y0.1, y0.2, n, h0⟩, ?_⟩
    · simp only [Value.okWide, hc]
      refine ⟨#[v0, v1, v2], rfl, by rw [hc0]; rfl, [I, I, I], hts0, ⟨1, rfl⟩, ?_⟩
      intro i u hu
      have hi : i = 0 ∨ i = 1 ∨ i = 2 := by
        have := (Array.getElem?_eq_some_iff.1 hu).1
        have h3 : (#[v0, v1, v2] : Array Value).size = 3 := rfl
        omega
      rcases hi with rfl | rfl | rfl
      · exact hrow 0 u (by simpa using hu)
      · exact hrow 1 u (by simpa using hu)
      · exact hrow 2 u (by simpa using hu)
    · have hok : Value.okWide P w r b0 f1.type v3 := by
        obtain ⟨u, hu, hk⟩ := hrow 3 v3 rfl
        have hue : u = f1.type := by simpa using hu.symm
        subst hue
        simp only [Value.okWide, he]; exact hk
      obtain ⟨p, len, cap, hs⟩ := okWide_slice he hok
      refine ⟨hok, y1.1, y1.2, n, ?_⟩
      rw [hs] at h1 ⊢
      exact h1

end Go.Proofs.Ytbbkfjbaocpknaa
