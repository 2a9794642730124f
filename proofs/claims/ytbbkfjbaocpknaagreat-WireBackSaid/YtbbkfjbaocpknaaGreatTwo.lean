/- Two slices of ints of the call's own: each is appended to beside the other (in a region that draws its order). -/
import Derived.Test.YtbbkfjbaocpknaaGreatBF
import Derived.Test.YtbbkfjbaocpknaaGreatBC
import Derived.Deep.AppendLies
namespace Go.Proofs.YtbbkfjbaocpknaaGreat
open Go.RowKit

def Two (w : World) (B : Nat) (v : Value) (xs : List Int) (u : Value) (ys : List Int) : Prop := OwnI w B v xs ∧ OwnI w B u ys ∧ ∀ k, v.ownBlock = some k → u.ownBlock ≠ some k
theorem Two.swap {w : World} {B : Nat} {v u : Value} {xs ys : List Int} (h : Two w B v xs u ys) : Two w B u ys v xs := ⟨h.2.1, h.1, fun k hk he => h.2.2 k he hk⟩
theorem Two.alloc {w : World} {B : Nat} {v u : Value} {xs ys : List Int} (h : Two w B v xs u ys) (o : Obj) : Two (w.alloc o) B v xs u ys := ⟨h.1.alloc o, h.2.1.alloc o, h.2.2⟩
theorem Two.drewN {w : World} {B : Nat} {v u : Value} {xs ys : List Int} (h : Two w B v xs u ys) (n : Nat) : Two (w.drewN n) B v xs u ys := ⟨h.1.drewN n, h.2.1.drewN n, h.2.2⟩
theorem Two.below {w w' : World} {B B' : Nat} {v u : Value} {xs ys : List Int} (h : Two w B v xs u ys) (hb : Below B' w w') (hB : w.heap.size ≤ B') : Two w' B v xs u ys := ⟨h.1.below hb hB, h.2.1.below hb hB, h.2.2⟩
theorem Two.nil (w : World) (B : Nat) : Two w B (.slice none 0 0) [] (.slice none 0 0) [] := ⟨OwnI.nil _ _, OwnI.nil _ _, fun k hk => by simp [Value.ownBlock] at hk⟩
section
variable {ops : Array Oper} {o : Oper} {a : Act} {K : Act → World → Prop} {Q : Exit → Act → World → Prop} {E : Prop} {w : World} {v u : Value} {xs ys : List Int} {B T H : Nat}
theorem step_two {c : Int} (s x : Operand)
    (hT : Two w B v xs u ys) (hlen : xs.length < 2097152) (hBr : B ≤ w.heap.size) (hbk : Blk w H #[.int .i64 c] T)
    (hgd : o.guard = none) (ho : o.op = .call { callee := .builtin .append, args := #[s, x], argTypes := #[104, 104] })
    (hv : a.eval s = v) (hx : a.eval x = .slice (some ⟨H, 0, none⟩) 1 1)
    (h : ∀ v' w', Two w' B v' (xs ++ [c]) u ys → w.grownBy w' v.ownBlock → B ≤ w'.heap.size → Below B w w' → (∀ g arr T', Blk w g arr T' → v.ownBlock ≠ some g → Blk w' g arr T') → K (a.put o.dst v') w') :
    if Region.wanted o (yielded ops a.tmps) = true then Oper.wp Tryz.prog o a w K Q else E := by
  obtain ⟨i0, hi, hz0, hz1, hz2⟩ := info_parts Tryz.infoI64
  obtain ⟨hown, hother, hsep⟩ := hT
  refine step_append_lies w hgd s x 104 ho B 3 i0 (.int .i64 0) 1 8 Tryz.underlying104 hi hz0 hz1 hz2 rfl (by decide) v xs.length (jcells xs) hv hown ⟨H, 0, none⟩ 1 1 (jcells [c]) hx rfl (World.news_of_block hbk) (jcells_one _) (by decide) ?_ ?_ hBr _ rfl ?_
  · unfold maxLen; omega
  · omega
  · intro g cap w' h1 h2 h3 h4
    have hs : w.heap.size ≤ w'.heap.size := h2.size
    refine h _ w' ⟨?_, ?_, ?_⟩ h2 (by omega) ((Below.refl _ _).grown h2 hBr hown.lt) (fun g' arr T' hb hne => ?_)
    · unfold OwnI
      simpa [jcells] using h1
    · refine hother.grown h2 (fun k hk he => ?_)
      exact hsep k he.symm hk
    · intro k hk he
      simp only [Value.ownBlock, Option.some.injEq] at hk
      rcases h3 with h3 | h3
      · exact hsep k (by rw [h3, hk]) he
      · have := hother.lt' k he
        omega
    · exact hb.keep (h2.block g' hb.lt (fun e => hne e.symm))
end
end Go.Proofs.YtbbkfjbaocpknaaGreat
