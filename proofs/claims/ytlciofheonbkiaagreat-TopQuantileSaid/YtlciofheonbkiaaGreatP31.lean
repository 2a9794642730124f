/- Texts laid together. -/
import Derived.Test.YtlciofheonbkiaaGreatP30
import Derived.Test.YtlciofheonbkiaaGreatP02
import Derived.Test.YtlciofheonbkiaaGreatP04
import Derived.Deep.AppendLies
/- The walks of wire.Right and wire.Decode. -/
namespace Go.Proofs.YtlciofheonbkiaaGreat
set_option maxHeartbeats 8000000
set_option maxRecDepth 100000
open Go.RowKit Nl Vy
theorem Vy.enc_inj {l k l' k' : Int} {zs zs' : List Nd} (h : loadE 2 l k zs = 0) (h' : loadE 2 l' k' zs' = 0) (e : encB l k zs = encB l' k' zs') : l = l' ∧ k = k' ∧ zs = zs' := by
  obtain ⟨t, q, a1, a2, a3, a4, -, a6⟩ := good_chain h rfl
  obtain ⟨t', q', b1, b2, b3, b4, -, b6⟩ := good_chain (s := encB l k zs) h' e
  rw [a1] at b1
  obtain rfl := Option.some.inj b1
  rw [a4] at b4
  obtain ⟨e1, rfl⟩ : zs.map (·.1) = zs'.map (·.1) ∧ q = q' := by simpa using b4
  rw [e1] at a6
  rw [a6] at b6
  have e2 : zs.map (·.2) = zs'.map (·.2) := by simpa using b6
  exact ⟨by omega, by omega, by rw [← zip_map zs, ← zip_map zs', e1, e2]⟩
def DecP (s : List UInt8) (kind : Int) (w : World) (e : Ending) (w' : World) : Prop :=
  (∃ er : Int, e = .returned (.tuple #[.pointer none, .int .i64 er]) ∧ Below w.heap.size w w' ∧ 1 ≤ er ∧ er ≤ 100 ∧ Dead s) ∨
  ∃ (l k : Int) (zs : List Nd), loadE 2 l k zs = 0 ∧ s = encB l k zs ∧
    ((poolIs kind l = false ∧ e = .returned (.tuple #[.pointer none, .int .i64 2]) ∧ Below w.heap.size w w') ∨ (poolIs kind l = true ∧ DgNew kind l k 20000 zs w e w'))
theorem w_decode (s : ByteArray) (kind : Int) (w : World) (hs : s.size ≤ 200000) (hz : ∀ (l k : Int) (zs : List Nd), loadE 2 l k zs = 0 → s.data.toList = encB l k zs → zs.length ≤ 19999) :
    Calls Tryz.prog 79 #[.string s, .int .i64 kind] w (DecP s.data.toList kind w) := by
  have RD := hid (w_read s w hs)
  have HZ := hid hz
  clear hz
  go_enter Tryz.func79, Tryz.ntmps79
  go_wp2_with fail
  refine RD.out.mono ?_
  rintro e w2 ⟨hb, (⟨er, rfl, h1, h2, h3⟩ | ⟨l, k, zs, v, rfl, h1, h2, own, hz⟩)⟩
  · have H := hid h3
    have hb2 := hb.alloc hb.size (.cells (PartC 0 0 0 0 (.slice none 0 0)) 183)
    unfold PartC at hb2 ⊢
    have z : (er != 0) = true := by simp; omega
    clear h3 RD
    go_wp2_with fail
    go_ret2
    exact .inl ⟨er, rfl, hb2, h1, h2, H.out⟩
  · have H := hid (And.intro h1 h2)
    have hzl := HZ.out _ _ _ h1 h2
    have inv := load_inv h1
    have nb := hid (Nl.Roll.nb2 inv.roll)
    have bl : In64 l := ⟨by have := inv.roll.l1; omega, by have := inv.roll.l2; omega⟩
    have bk : In64 k := ⟨by have := inv.k1; omega, by have := inv.k2; omega⟩
    have LK := hid (load_kind (kind := kind) h1)
    have hb2 : Below w.heap.size w (w2.alloc (.cells (PartC l k kind (sumL zs) v) 183)) := hb.alloc hb.size _
    have own2 : RdN (w2.alloc (.cells (PartC l k kind (sumL zs) v) 183)) v zs := own.rd.alloc _
    obtain ⟨p, c, rfl⟩ := own.val
    have LD : Hid (Calls Tryz.prog 77 #[.agg #[.int .i64 l, .int .i64 k, .int .i64 kind], .slice p zs.length c] (w2.alloc (.cells (PartC l k kind (sumL zs) (.slice p zs.length c)) 183)) (DecP s.data.toList kind w)) := by
      refine hid ?_
      by_cases hp : poolIs kind l = true
      · refine (dg_load kind l k own2 nb.out hzl (by rw [LK.out, hp]; rfl)).mono ?_
        rintro e w3 ⟨dg, q, g, h, rfl, d, e1, e2, e3, e4, hb3⟩
        have hsz := hb2.size
        exact .inr ⟨l, k, zs, H.out.1, H.out.2, .inr ⟨hp, dg, q, g, h, rfl, d, by omega, by omega, by omega, by omega, hb2.trans (hb3.mono hsz)⟩⟩
      · simp only [Bool.not_eq_true] at hp
        have e2 : loadE kind l k zs = 2 := by rw [LK.out, hp]; rfl
        refine (dg_load_no kind l k own2 nb.out hzl bl bk (by rw [e2]; decide)).mono ?_
        rintro e w3 ⟨rfl, hb3⟩
        exact .inr ⟨l, k, zs, H.out.1, H.out.2, .inl ⟨hp, by rw [e2], hb2.trans (hb3.mono hb2.size)⟩⟩
    have hs2 : w2.heap.size < (w2.alloc (.cells (PartC l k kind (sumL zs) (.slice p zs.length c)) 183)).heap.size := by simp
    unfold PartC at LD ⊢
    generalize sumL zs = S at *
    clear h1 h2 RD own own2 inv hb2 LK nb HZ hs2
    go_wp2_with fail
    refine LD.out.mono ?_
    intro e w3 hD
    obtain ⟨a, er, rfl⟩ : ∃ a er, e = .returned (.tuple #[.pointer a, .int .i64 er]) := by
      rcases hD with ⟨er, rfl, -⟩ | ⟨_, _, _, -, -, (⟨-, rfl, -⟩ | ⟨-, _, _, _, _, rfl, -⟩)⟩
      · exact ⟨_, _, rfl⟩
      · exact ⟨_, _, rfl⟩
      · exact ⟨_, _, rfl⟩
    have HD := hid hD
    clear hD LD
    go_wp2_with fail
    go_ret2
    exact HD.out
end Go.Proofs.YtlciofheonbkiaaGreat

/- Two slices of ints of the call's own: each is appended to beside the other (in a region that draws its order). -/
namespace Go.Proofs.YtlciofheonbkiaaGreat
open Go.RowKit
def Two (w : World) (B : Nat) (v : Value) (xs : List Int) (u : Value) (ys : List Int) : Prop := OwnI w B v xs ∧ OwnI w B u ys ∧ ∀ k, v.ownBlock = some k → u.ownBlock ≠ some k
theorem Two.swap {w : World} {B : Nat} {v u : Value} {xs ys : List Int} (h : Two w B v xs u ys) : Two w B u ys v xs := ⟨h.2.1, h.1, fun k hk he => h.2.2 k he hk⟩
theorem Two.alloc {w : World} {B : Nat} {v u : Value} {xs ys : List Int} (h : Two w B v xs u ys) (o : Obj) : Two (w.alloc o) B v xs u ys := ⟨h.1.alloc o, h.2.1.alloc o, h.2.2⟩
theorem Two.drewN {w : World} {B : Nat} {v u : Value} {xs ys : List Int} (h : Two w B v xs u ys) (n : Nat) : Two (w.drewN n) B v xs u ys := ⟨h.1.drewN n, h.2.1.drewN n, h.2.2⟩
theorem Two.nil (w : World) (B : Nat) : Two w B (.slice none 0 0) [] (.slice none 0 0) [] := ⟨OwnI.nil _ _, OwnI.nil _ _, fun k hk => by simp [Value.ownBlock] at hk⟩
section
variable {ops : Array Oper} {o : Oper} {a : Act} {K : Act → World → Prop} {Q : Exit → Act → World → Prop} {E : Prop} {w : World} {v u : Value} {xs ys : List Int} {B T H : Nat}
theorem step_two {c : Int} (s x : Operand)
    (hT : Two w B v xs u ys) (hlen : xs.length < 16777216) (hBr : B ≤ w.heap.size) (hbk : Blk w H #[.int .i64 c] T)
    (hgd : o.guard = none) (ho : o.op = .call { callee := .builtin .append, args := #[s, x], argTypes := #[22, 22] })
    (hv : a.eval s = v) (hx : a.eval x = .slice (some ⟨H, 0, none⟩) 1 1)
    (h : ∀ v' w', Two w' B v' (xs ++ [c]) u ys → w.grownBy w' v.ownBlock → B ≤ w'.heap.size → Below B w w' → (∀ g arr T', Blk w g arr T' → v.ownBlock ≠ some g → Blk w' g arr T') → K (a.put o.dst v') w') :
    if Region.wanted o (yielded ops a.tmps) = true then Oper.wp Tryz.prog o a w K Q else E := by
  obtain ⟨i0, hi, hz0, hz1, hz2⟩ := info_parts Tryz.infoI64
  obtain ⟨hown, hother, hsep⟩ := hT
  refine step_append_lies w hgd s x 22 ho B 3 i0 (.int .i64 0) 1 8 Tryz.underlying22 hi hz0 hz1 hz2 rfl (by decide) v xs.length (jcells xs) hv hown ⟨H, 0, none⟩ 1 1 (jcells [c]) hx rfl (World.news_of_block hbk) (jcells_one _) (by decide) ?_ ?_ hBr _ rfl ?_
  · unfold maxLen; omega
  · omega
  · intro g cap w' h1 h2 h3 h4
    have hs : w.heap.size ≤ w'.heap.size := h2.size
    refine h _ w' ⟨?_, ?_, ?_⟩ h2 (by omega) ((Below.refl _ _).grown h2 hBr hown.lt) (fun g' arr T' hb hne => ?_)
    · unfold OwnI
      simpa [jcells] using h1
    · refine hother.grown h2 (fun k hk he => ?_)
      exact hsep k he.symm hk
    · intro k hk he
      simp only [Value.ownBlock, Option.some.injEq] at hk
      rcases h3 with h3 | h3
      · exact hsep k (by rw [h3, hk]) he
      · have := hother.lt' k he
        omega
    · exact hb.keep (h2.block g' hb.lt (fun e => hne e.symm))
end
end Go.Proofs.YtlciofheonbkiaaGreat
