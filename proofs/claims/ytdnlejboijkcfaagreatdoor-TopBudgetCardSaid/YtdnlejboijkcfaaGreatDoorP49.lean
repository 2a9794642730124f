/- Texts laid together. -/
import Derived.Test.YtdnlejboijkcfaaGreatDoorP08
import Derived.Test.YtdnlejboijkcfaaGreatDoorP13
import Derived.Test.YtdnlejboijkcfaaGreatDoorP47
namespace Go.Proofs.YtdnlejboijkcfaaGreatDoor
set_option maxRecDepth 100000
open Go.RowKit Go.ChangeShapes Go.WideShapes Go.ChangeAt Nl Tb
section
variable {H : Type} {enc : TypeId × Value → H} {P : Program} {w : World} {base b0 : Nat} {spare : Nat → Bool} {held : Bool} {r : Reach} {t e : TypeId} {v : Value} {d : DataW H} {ps : List MemPlace}
def intAtK (w : World) (a : Addr) : Int := match w.cell? a with | some (.int _ z) => z | _ => 0
theorem open_recsK {n : Nat} {fs : Array Field} (K : Nat → IntKind) (ht : P.underlying t = some (.slice e)) (he : P.underlying e = some (.struct fs)) (hn : fs.size = n) (hone : Deep.oneCellFields P fs = true) (hC : P.cellsOf e = n)
    (hfs : ∀ j, j < n → ∃ f, fs[j]? = some f ∧ P.underlying f.type = some (.int (K j)))
    (hv : Value.okWide P w r b0 t v) (h : DataW.Trod enc P w base spare held t v d ps) :
    ∃ p len cap, ∃ F : Nat → Nat → Int, v = .slice p len cap ∧ len ≤ maxLen ∧
      ∀ k, k < len → ∀ j, j < n → ∃ g off, p = some ⟨g, off, none⟩ ∧ w.cell? ⟨g, off + (k * n + j), none⟩ = some (.int (K j) (F k j)) ∧ (Lit.int (K j) (F k j)).wf = true := by
  obtain ⟨p, len, cap, rfl⟩ := okWide_slice ht hv
  obtain ⟨fuel, hf⟩ := h
  rcases Deep.open_slice ht hf with ⟨h0, _⟩ | ⟨a, len', cap', m, n', D, Pl, hcs, _, hl, hm, hmm, _, hi⟩
  · simp [Value.cells] at h0
    obtain ⟨rfl, rfl, rfl⟩ := h0
    exact ⟨none, 0, 0, fun _ _ => 0, rfl, Nat.zero_le _, fun k hk => by omega⟩
  · simp [Value.cells] at hcs
    obtain ⟨rfl, rfl, rfl⟩ := hcs
    have hlm : len ≤ m := by rw [hmm]; split <;> omega
    refine ⟨some a, len, cap, fun k j => intAtK w (a.add (k * n + j)), rfl, by omega, fun k hk j hj => ?_⟩
    have key : ∀ k, k < len → ∀ j, j < n → w.cell? (a.add (k * n + j)) = some (.int (K j) (intAtK w (a.add (k * n + j)))) ∧ (Lit.int (K j) (intAtK w (a.add (k * n + j)))).wf = true := by
      intro k hk j hj
      obtain ⟨cs', hc, ht'⟩ := hi k (by omega)
      rw [hC] at hc
      obtain ⟨ys, n2, _, _, hcl, hyl, hff⟩ := DataW.trod_struct he ht'
      obtain ⟨_, hcl2, hat⟩ := World.cells?_some hc
      obtain ⟨f, hfj, hfI⟩ := hfs j hj
      obtain ⟨ho, hk1⟩ := Deep.hone_of hone j f hfj
      have h1 := hff j f hfj
      rw [ho, hk1] at h1
      have hd : (cs'.drop j).take 1 = [cs'[j]'(by omega)] := by rw [List.drop_eq_getElem_cons (by omega)]; rfl
      rw [hd, List.getElem?_eq_getElem (show j < ys.length by omega)] at h1
      obtain ⟨z, hz, _, hw⟩ := DataW.trod_int hfI h1
      simp only [List.cons.injEq, and_true] at hz
      have h2 := hat j hj
      rw [Deep.add_add, List.getElem?_eq_getElem (show j < cs'.length by omega), hz] at h2
      have h3 : intAtK w (a.add (k * n + j)) = z := by unfold intAtK; rw [h2]
      rw [h3]
      exact ⟨h2, hw⟩
    have h0 := (key 0 (by omega) 0 (by omega)).1
    have hs := spot_none h0
    obtain ⟨g, off, s⟩ := a
    have hs' : s = none := by simpa [Addr.add] using hs
    subst hs'
    have hadd : (⟨g, off, none⟩ : Addr).add (k * n + j) = ⟨g, off + (k * n + j), none⟩ := by unfold Addr.add; split <;> simp_all
    have q := key k hk j hj
    refine ⟨g, off, rfl, ?_, q.2⟩
    rw [← hadd]; exact q.1
end
def stK (j : Nat) : IntKind := if j = 5 then .u8 else .i64
theorem open_stepsE {H : Type} {enc : TypeId × Value → H} {w : World} {base b0 : Nat} {spare : Nat → Bool} {held : Bool} {r : Reach} {v : Value} {d : DataW H} {ps : List MemPlace}
    (hv : Value.okWide Tryz.prog w r b0 29 v) (h : DataW.Trod enc Tryz.prog w base spare held 29 v d ps) : ∃ os, RdStE w v os := by
  obtain ⟨p, len, cap, F, rfl, hl, hF⟩ := open_recsK (n := 6) stK Tryz.underlying29 Tryz.underlying42 (by decide) (by kernel_rfl) (by kernel_rfl)
    (fun j hj => match j, hj with | 0, _ => ⟨_, rfl, Tryz.underlying3⟩ | 1, _ => ⟨_, rfl, Tryz.underlying3⟩ | 2, _ => ⟨_, rfl, Tryz.underlying3⟩ | 3, _ => ⟨_, rfl, Tryz.underlying3⟩ | 4, _ => ⟨_, rfl, Tryz.underlying3⟩ | 5, _ => ⟨_, rfl, Tryz.underlying5⟩) hv h
  have hlen : ((List.range len).map fun k => (⟨F k 0, F k 1, F k 2, F k 3, F k 4, F k 5⟩ : StE)).length = len := by simp
  refine ⟨(List.range len).map fun k => (⟨F k 0, F k 1, F k 2, F k 3, F k 4, F k 5⟩ : StE), p, cap, by rw [hlen], fun k hk => ?_⟩
  rw [hlen] at hk
  have e : ((List.range len).map fun k => (⟨F k 0, F k 1, F k 2, F k 3, F k 4, F k 5⟩ : StE)).getD k stE0 = ⟨F k 0, F k 1, F k 2, F k 3, F k 4, F k 5⟩ := by
    simp [List.getD, hk]
  rw [e]
  obtain ⟨g, off, hp, c0, w0⟩ := hF k hk 0 (by omega)
  obtain ⟨g1, off1, hp1, c1, w1⟩ := hF k hk 1 (by omega)
  obtain ⟨g2, off2, hp2, c2, w2⟩ := hF k hk 2 (by omega)
  obtain ⟨g3, off3, hp3, c3, w3⟩ := hF k hk 3 (by omega)
  obtain ⟨g4, off4, hp4, c4, w4⟩ := hF k hk 4 (by omega)
  obtain ⟨g5, off5, hp5, c5, w5⟩ := hF k hk 5 (by omega)
  rw [hp] at hp1 hp2 hp3 hp4 hp5
  simp only [Option.some.injEq, Addr.mk.injEq, and_true] at hp1 hp2 hp3 hp4 hp5
  obtain ⟨rfl, rfl⟩ := hp1
  obtain ⟨rfl, rfl⟩ := hp2
  obtain ⟨rfl, rfl⟩ := hp3
  obtain ⟨rfl, rfl⟩ := hp4
  obtain ⟨rfl, rfl⟩ := hp5
  exact ⟨g, off, hp, World.block_lt_of_cell? w _ c0, c0, by rwa [← Nat.add_assoc] at c1, by rwa [← Nat.add_assoc] at c2, by rwa [← Nat.add_assoc] at c3, by rwa [← Nat.add_assoc] at c4, by rwa [← Nat.add_assoc] at c5, bd_i64 _ w2, bd_i64 _ w3⟩
theorem open_want {H : Type} {enc : TypeId × Value → H} {w : World} {base b0 : Nat} {spare : Nat → Bool} {held : Bool} {r : Reach} {v : Value} {d : DataW H} {ps : List MemPlace}
    (hv : Value.okWide Tryz.prog w r b0 28 v) (h : DataW.Trod enc Tryz.prog w base spare held 28 v d ps) :
    ∃ a b c e : Int, v = .agg #[.int .i64 a, .int .i64 b, .int .i64 c, .int .i64 e] ∧ (Lit.int .i64 a).wf = true ∧ (Lit.int .i64 b).wf = true ∧ (Lit.int .i64 c).wf = true ∧ (Lit.int .i64 e).wf = true := by
  obtain ⟨zs, hl, rfl, hw⟩ := open_stru (n := 4) (I := 3) Tryz.underlying28 Tryz.underlying3 (by decide) (by kernel_rfl) (by kernel_rfl)
    (fun j hj => match j, hj with | 0, _ => ⟨_, rfl, rfl⟩ | 1, _ => ⟨_, rfl, rfl⟩ | 2, _ => ⟨_, rfl, rfl⟩ | 3, _ => ⟨_, rfl, rfl⟩) hv h
  match zs, hl with
  | [a, b, c, e], _ => exact ⟨a, b, c, e, rfl, hw a (by simp), hw b (by simp), hw c (by simp), hw e (by simp)⟩
theorem open_base {H : Type} {enc : TypeId × Value → H} {w : World} {base b0 : Nat} {spare : Nat → Bool} {held : Bool} {r : Reach} {v : Value} {d : DataW H} {ps : List MemPlace}
    (hv : Value.okWide Tryz.prog w r b0 26 v) (h : DataW.Trod enc Tryz.prog w base spare held 26 v d ps) :
    ∃ (v0 : Value) (xs : List Int) (l k kind wait number : Int), v = .agg #[v0, .int .i64 l, .int .i64 k, .int .i64 kind, .int .i64 wait, .int .i64 number] ∧ RdI w v0 xs ∧ In64 l := by
  have hC : Tryz.prog.cellsOf 26 = 6 := by kernel_rfl
  have hC3 : Tryz.prog.cellsOf 24 = 3 := by kernel_rfl
  have hCi : Tryz.prog.cellsOf 3 = 1 := by kernel_rfl
  have hCs : Tryz.prog.cellsOf 22 = 1 := by kernel_rfl
  have hT : Tryz.prog.cellTypes Tryz.prog.depth 26 = some [22, 3, 3, 3, 3, 3] := by kernel_rfl
  simp only [Value.okWide, Tryz.underlying26] at hv
  obtain ⟨cs, rfl, hsz, ts, hts', _, hrow⟩ := hv
  obtain rfl := Option.some.inj (hT.symm.trans hts')
  obtain ⟨fuel, hf⟩ := h
  simp only [Value.cells] at hf
  obtain ⟨ys, n2, _, _, hcl, hyl, hff⟩ := DataW.trod_struct Tryz.underlying26 hf
  rw [hC] at hcl
  obtain ⟨L⟩ := cs
  match L, hcl with
  | [v0, v1, v2, v3, v4, v5], _ =>
    have h0 : DataW.trod enc Tryz.prog w base spare held n2 22 (([v0, v1, v2, v3, v4, v5].drop 0).take (Tryz.prog.cellsOf 22)) = ys[0]? := hff 0 _ rfl
    have h1 : DataW.trod enc Tryz.prog w base spare held n2 24 (([v0, v1, v2, v3, v4, v5].drop 1).take (Tryz.prog.cellsOf 24)) = ys[1]? := hff 1 _ rfl
    have h2 : DataW.trod enc Tryz.prog w base spare held n2 3 (([v0, v1, v2, v3, v4, v5].drop 4).take (Tryz.prog.cellsOf 3)) = ys[2]? := hff 2 _ rfl
    have h3 : DataW.trod enc Tryz.prog w base spare held n2 3 (([v0, v1, v2, v3, v4, v5].drop 5).take (Tryz.prog.cellsOf 3)) = ys[3]? := hff 3 _ rfl
    clear hff
    simp only [hCs, hC3, hCi, List.drop_succ_cons, List.drop_zero, List.take_succ_cons, List.take_zero] at h0 h1 h2 h3
    match ys, hyl with
    | [y0, y1, y2, y3], _ =>
      simp only [List.getElem?_cons_zero, List.getElem?_cons_succ] at h0 h1 h2 h3
      obtain ⟨z4, e4, -, -⟩ := DataW.trod_int Tryz.underlying3 h2
      obtain ⟨z5, e5, -, -⟩ := DataW.trod_int Tryz.underlying3 h3
      obtain ⟨us, n3, _, _, -, hul, hgg⟩ := DataW.trod_struct Tryz.underlying24 h1
      have g0 : DataW.trod enc Tryz.prog w base spare held n3 3 (([v1, v2, v3].drop 0).take (Tryz.prog.cellsOf 3)) = us[0]? := hgg 0 _ rfl
      have g1 : DataW.trod enc Tryz.prog w base spare held n3 3 (([v1, v2, v3].drop 1).take (Tryz.prog.cellsOf 3)) = us[1]? := hgg 1 _ rfl
      have g2 : DataW.trod enc Tryz.prog w base spare held n3 3 (([v1, v2, v3].drop 2).take (Tryz.prog.cellsOf 3)) = us[2]? := hgg 2 _ rfl
      clear hgg
      simp only [hCi, List.drop_succ_cons, List.drop_zero, List.take_succ_cons, List.take_zero] at g0 g1 g2
      match us, hul with
      | [u0, u1, u2], _ =>
        simp only [List.getElem?_cons_zero, List.getElem?_cons_succ] at g0 g1 g2
        obtain ⟨z1, e1, -, w1⟩ := DataW.trod_int Tryz.underlying3 g0
        obtain ⟨z2, e2, -, -⟩ := DataW.trod_int Tryz.underlying3 g1
        obtain ⟨z3, e3, -, -⟩ := DataW.trod_int Tryz.underlying3 g2
        simp only [List.cons.injEq, and_true] at e1 e2 e3 e4 e5
        subst e1 e2 e3 e4 e5
        have hok : Value.okWide Tryz.prog w r b0 22 v0 := by
          obtain ⟨u, hu, hk⟩ := hrow 0 v0 rfl
          have hue : u = 22 := by simpa using hu.symm
          subst hue
          simp only [Value.okWide, Tryz.underlying22]; exact hk
        obtain ⟨p, len, cap, rfl⟩ := okWide_slice Tryz.underlying22 hok
        obtain ⟨xs, hx, -⟩ := open_ints hok ⟨n2, h0⟩
        exact ⟨_, xs, z1, z2, z3, z4, z5, rfl, hx, bd_i64 _ w1⟩
end Go.Proofs.YtdnlejboijkcfaaGreatDoor
