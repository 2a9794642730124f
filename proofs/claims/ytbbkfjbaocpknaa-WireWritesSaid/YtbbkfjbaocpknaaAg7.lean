/- The walk of fold.Parents. -/
import Derived.Test.YtbbkfjbaocpknaaBF2
import Derived.Test.YtbbkfjbaocpknaaBE
namespace Go.Proofs.Ytbbkfjbaocpknaa
open Go.RowKit Go.Maps Nl

attribute [local go_sem] Oper.semAt_some

namespace Nl
/-- Each node's parent, put to an agenda. -/
theorem parents_agenda {zs : List (Int × Int)} (h : ∀ x ∈ zs, 1 ≤ x.1) : agendaL (zs.map (fun x => x.1 / 2)) = parentsL zs := by
  unfold agendaL parentsL
  rw [List.foldl_map]
  have aux : ∀ (zs : List (Int × Int)) (a : List Int), (∀ x ∈ zs, 1 ≤ x.1) → zs.foldl (fun a x => putL a (x.1 / 2)) a = zs.foldl (fun a x => if 1 < x.1 then withL a (x.1 / 2) else a) a := by
    intro zs
    induction zs with
    | nil => intro a _; rfl
    | cons x r ih =>
      intro a h
      have hx := h x (List.mem_cons_self ..)
      rw [List.foldl_cons, List.foldl_cons, ih _ (fun y hy => h y (List.mem_cons_of_mem _ hy))]
      congr 1
      unfold putL
      by_cases h1 : 1 < x.1
      · rw [if_pos h1, if_pos (by omega)]
      · rw [if_neg h1, if_neg (by omega)]
  exact aux zs [] h
end Nl

/-- append(s, c), inside a fence. -/
theorem appendI_in {F : Fence} {n : Nat} {ops : Array Oper} {rest : List Oper} {o : Oper} {a : Act} {Q : Exit → Act → World → Prop} {w wr : World} {v : Value} {xs : List Int} {B T : Nat} {c : Int} (s x : Operand)
    (hown : OwnI wr B v xs) (hlen : xs.length < 2097152) (hBr : B ≤ wr.heap.size)
    (hw : w = wr.alloc (.cells #[.int .i64 c] T))
    (hgd : o.guard = none) (ho : o.op = .call { callee := .builtin .append, args := #[s, x], argTypes := #[72, 72] })
    (hv : a.eval s = v) (hx : a.eval x = .slice (some ⟨wr.heap.size, 0, none⟩) 1 1)
    (h : ∀ v' w', OwnI w' B v' (xs ++ [c]) → wr.grownBy w' v.ownBlock → wpListIn F n Try.prog ops Q rest (a.put o.dst v') w') :
    wpListIn F n Try.prog ops Q (o :: rest) a w := by
  obtain ⟨i0, hi, hz0, hz1, hz2⟩ := info_parts Try.infoI64
  subst hw
  refine wpListIn_append_own _ hgd s x 72 ho B 3 i0 (.int .i64 0) 1 8 Try.underlying72 hi hz0 hz1 hz2 rfl (by decide) v xs.length (jcells xs) hv (World.ownsRow.alloc hown _) ⟨wr.heap.size, 0, none⟩ 1 1 (jcells [c]) hx rfl ?_ (jcells_one _) ?_ ?_ ?_ ?_
  · intro j u hj
    cases j with
    | zero => simp [jcells] at hj; subst hj; simp [Addr.add]
    | succ j => simp [jcells] at hj
  · unfold maxLen; omega
  · omega
  · simp; omega
  · intro v' w' h1 h2 _
    refine h v' w' ?_ (grownBy_of_alloc h2)
    unfold OwnI
    simpa [jcells] using h1

/-- No block of an agenda. -/
def SafeA (a : Nat) (W : World) (k : Nat) : Prop := k ≠ a ∧ ∃ v, W.cell? ⟨a, 0, none⟩ = some v ∧ v.ownBlock ≠ some k
theorem SafeA.steady (a : Nat) : Steady (SafeA a) := fun _ _ _ hg hr _ _ ⟨h1, v, h3, h4⟩ => ⟨h1, v, cell_kept h3 hg hr, h4⟩
def sliceLen : Value → Nat
  | .slice _ n _ => n
  | _ => 0
end Go.Proofs.Ytbbkfjbaocpknaa
