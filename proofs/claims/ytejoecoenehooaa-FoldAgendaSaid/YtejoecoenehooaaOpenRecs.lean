/- Arguments, opened: slices of structs of ints. -/
import Derived.Test.YtejoecoenehooaaOpen
import Derived.Deep.Fields
import Derived.Deep.Slices
namespace Go.Proofs.Ytejoecoenehooaa
open Go.ChangeShapes Go.WideShapes Go.ChangeAt Go.RowKit

section
variable {H : Type} {enc : TypeId × Value → H} {P : Program} {w : World} {base b0 : Nat} {spare : Nat → Bool} {held : Bool} {r : Reach} {t e I : TypeId} {v : Value} {d : DataW H} {ps : List MemPlace}
theorem spot_none {w : World} {a : Addr} {v : Value} (h : w.cell? a = some v) : a.spot = none := by
  unfold World.cell? at h
  split at h
  · split at h
    · cases h
    · rename_i h1; simpa using h1
  · cases h
def intAt (w : World) (a : Addr) : Int := match w.cell? a with | some (.int _ z) => z | _ => 0
/-- A slice of structs of n ints: its cells. -/
theorem open_recs {n : Nat} {fs : Array Field} (ht : P.underlying t = some (.slice e)) (he : P.underlying e = some (.struct fs)) (hI : P.underlying I = some (.int .i64)) (hn : fs.size = n) (hone : Deep.oneCellFields P fs = true) (hC : P.cellsOf e = n)
    (hfs : ∀ j, j < n → ∃ f, fs[j]? = some f ∧ f.type = I)
    (hv : Value.okWide P w r b0 t v) (h : DataW.Trod enc P w base spare held t v d ps) :
    ∃ p len cap, ∃ F : Nat → Nat → Int, v = .slice p len cap ∧ len ≤ maxLen ∧
      ∀ k, k < len → ∀ j, j < n → ∃ g off, p = some ⟨g, off, none⟩ ∧ w.cell? ⟨g, off + (k * n + j), none⟩ = some (.int .i64 (F k j)) ∧ (Lit.int .i64 (F k j)).wf = true := by
  obtain ⟨p, len, cap, rfl⟩ := okWide_slice ht hv
  obtain ⟨fuel, hf⟩ := h
  rcases Deep.open_slice ht hf with ⟨h0, _⟩ | ⟨a, len', cap', m, n', D, Pl, hcs, _, hl, hm, hmm, _, hi⟩
  · simp [Value.cells] at h0
    obtain ⟨rfl, rfl, rfl⟩ := h0
    exact ⟨none, 0, 0, fun _ _ => 0, rfl, Nat.zero_le _, fun k hk => by omega⟩
  · simp [Value.cells] at hcs
    obtain ⟨rfl, rfl, rfl⟩ := hcs
    have hlm : len ≤ m := by rw [hmm]; split <;> omega
    refine ⟨some a, len, cap, fun k j => intAt w (a.add (k * n + j)), rfl, by omega, fun k hk j hj => ?_⟩
    have key : ∀ k, k < len → ∀ j, j < n → w.cell? (a.add (k * n + j)) = some (.int .i64 (intAt w (a.add (k * n + j)))) ∧ (Lit.int .i64 (intAt w (a.add (k * n + j)))).wf = true := by
      intro k hk j hj
      obtain ⟨cs', hc, ht'⟩ := hi k (by omega)
      rw [hC] at hc
      obtain ⟨ys, n2, _, _, hcl, hyl, hff⟩ := DataW.trod_struct he ht'
      obtain ⟨_, hcl2, hat⟩ := World.cells?_some hc
      obtain ⟨f, hfj, hfI⟩ := hfs j hj
      obtain ⟨ho, hk1⟩ := Deep.hone_of hone j f hfj
      have h1 := hff j f hfj
      rw [ho, hk1, hfI] at h1
      have hd : (cs'.drop j).take 1 = [cs'[j]'(by omega)] := by rw [List.drop_eq_getElem_cons (by omega)]; rfl
      rw [hd, List.getElem?_eq_getElem (show j < ys.length by omega)] at h1
      obtain ⟨z, hz, _, hw⟩ := DataW.trod_int hI h1
      simp only [List.cons.injEq, and_true] at hz
      have h2 := hat j hj
      rw [Deep.add_add, List.getElem?_eq_getElem (show j < cs'.length by omega), hz] at h2
      have h3 : intAt w (a.add (k * n + j)) = z := by unfold intAt; rw [h2]
      rw [h3]
      exact ⟨h2, hw⟩
    have h0 := (key 0 (by omega) 0 (by omega)).1
    have hs := spot_none h0
    obtain ⟨g, off, s⟩ := a
    have hs' : s = none := by simpa [Addr.add] using hs
    subst hs'
    have hadd : (⟨g, off, none⟩ : Addr).add (k * n + j) = ⟨g, off + (k * n + j), none⟩ := by unfold Addr.add; split <;> simp_all
    have q := key k hk j hj
    refine ⟨g, off, rfl, ?_, q.2⟩
    rw [← hadd]; exact q.1
end

/-- A call: its kind, its number, its weight. -/
abbrev Op3 := Int × Int × Int
/-- A slice that reads as calls. -/
def RdO (w : World) (v : Value) (os : List Op3) : Prop :=
  ∃ p cap, v = .slice p os.length cap ∧ os.length ≤ 9223372036854775807 ∧ ∀ k, k < os.length → ∃ g off, p = some ⟨g, off, none⟩ ∧ g < w.heap.size ∧
    w.cell? ⟨g, off + k * 3, none⟩ = some (.int .i64 (os.getD k (0, 0, 0)).1) ∧ w.cell? ⟨g, off + k * 3 + 1, none⟩ = some (.int .i64 (os.getD k (0, 0, 0)).2.1) ∧ w.cell? ⟨g, off + k * 3 + 2, none⟩ = some (.int .i64 (os.getD k (0, 0, 0)).2.2) ∧
    (-9223372036854775808 ≤ (os.getD k (0, 0, 0)).1 ∧ (os.getD k (0, 0, 0)).1 ≤ 9223372036854775807) ∧ (-9223372036854775808 ≤ (os.getD k (0, 0, 0)).2.1 ∧ (os.getD k (0, 0, 0)).2.1 ≤ 9223372036854775807) ∧ (-9223372036854775808 ≤ (os.getD k (0, 0, 0)).2.2 ∧ (os.getD k (0, 0, 0)).2.2 ≤ 9223372036854775807)
theorem RdO.below {w w' : World} {v : Value} {os : List Op3} {B : Nat} (h : RdO w v os) (hb : Below B w w') (hB : w.heap.size ≤ B) : RdO w' v os := by
  obtain ⟨p, cap, rfl, hl, hr⟩ := h
  refine ⟨p, cap, rfl, hl, fun k hk => ?_⟩
  obtain ⟨g, off, hp, hg, c1, c2, c3, hbd⟩ := hr k hk
  have e := hb.block g (by omega)
  refine ⟨g, off, hp, Nat.lt_of_lt_of_le hg hb.size, ?_, ?_, ?_, hbd⟩
  · rw [World.cell?_of_block (w := w) (a := ⟨g, off + k * 3, none⟩) e]; exact c1
  · rw [World.cell?_of_block (w := w) (a := ⟨g, off + k * 3 + 1, none⟩) e]; exact c2
  · rw [World.cell?_of_block (w := w) (a := ⟨g, off + k * 3 + 2, none⟩) e]; exact c3
end Go.Proofs.Ytejoecoenehooaa
