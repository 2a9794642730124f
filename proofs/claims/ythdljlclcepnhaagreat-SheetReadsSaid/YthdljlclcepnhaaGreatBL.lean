/- Texts laid together: Bl1, Bl2, Bl3, Bl4. -/
import Derived.Test.YthdljlclcepnhaaGreatBlMath
import Derived.Laws.Append
import Derived.Test.YthdljlclcepnhaaGreatMM
import Derived.Test.YthdljlclcepnhaaGreatDGA
import Derived.Deep.RegionWith
import Derived.Laws.StructEq
/- The walks of slices.Grow, slices.Concat, roll.Fold, roll.Join. -/
namespace Go.Proofs.YthdljlclcepnhaaGreat
open Go.RowKit Nl

/-- append(nil, make([]T, n)...). -/
theorem run_append_zeros (w : World) (n : Nat) (h0 : 0 < n) (hn : n ≤ 4194304) (ty : TypeId) :
    (Builtin.append_ #[23, 3] ty #[.slice none 0 0, .int .i64 n]).run Tryz.prog w =
      .ok (.slice (some ⟨w.heap.size, 0, none⟩) n (grownCap w n 0 55))
        (w.drew.alloc (.cells (Builtin.zeroCells #[.int .i64 0, .int .i64 0] n ++ Builtin.zeroCells #[.int .i64 0, .int .i64 0] (grownCap w n 0 55 - n)) 55)) := by
  obtain ⟨i0, hi, hz0, hz1, hz2⟩ := info_parts Tryz.infoNode
  have hw : IntKind.i64.wrap (n : Int) = n := IntWalk.i64_in _ ⟨by omega, by omega⟩
  have h48 : ¬ (281474976710656 < (n : Int) * 16) := by omega
  have h48' : ¬ (281474976710656 < Builtin.nextslicecap n 0 * 16) := by rw [nextslicecap_zero h0]; omega
  have h63 : ¬ (9223372036854775807 < (n : Int)) := by omega
  have hne : n ≠ 0 := by omega
  have hlt : ¬ ((n : Int) < 0) := by omega
  simp [Builtin.append_, run_underlying Tryz.underlying23, run_underlying Tryz.underlying3, sizeOf, typeInfo, zeroValue, hi, hz0, hz1, hz2, asInt, asIntOf, hw, h48, h48', h63, hne, hlt, Builtin.firstCells, Question.forced, newRow, grownCap, Value.cells]
  intro h; omega

/-- The same in a walk: an own slice of no nodes, with room. -/
theorem appendZ {ops : Array Oper} {rest : List Oper} {o : Oper} {a : Act} {Q : Exit → Act → World → Prop} {w : World} (s x : Operand) (n : Nat) (h0 : 0 < n) (hn : n ≤ 4194304)
    (hgd : o.guard = none) (ho : o.op = .call { callee := .builtin .append, args := #[s, x], argTypes := #[23, 3] })
    (hv : a.eval s = .slice none 0 0) (hx : a.eval x = .int .i64 n)
    (h : ∀ C w', OwnN w' w.heap.size (.slice (some ⟨w.heap.size, 0, none⟩) 0 C) [] → n ≤ C → Below w.heap.size w w' → w.heap.size < w'.heap.size → wpList Tryz.prog ops Q rest (a.put o.dst (.slice (some ⟨w.heap.size, 0, none⟩) n C)) w') :
    wpList Tryz.prog ops Q (o :: rest) a w := by
  have hrun := run_append_zeros w n h0 hn o.type
  have hge := grownCap_ge w n 0 55
  have hle := grownCap_le_maxLen w n 0 55 (by unfold maxLen; omega)
  generalize grownCap w n 0 55 = C at *
  refine wpList_plain hgd fun K hK' => ?_
  unfold Oper.wp
  simp [execOp, ho, resolve, invoke, builtin, hv, hx, hrun, Result.andThen]
  refine hK' _ _ (h C _ ?_ hge ?_ (by simp))
  · refine ⟨rfl, .inr ⟨w.heap.size, C, _, rfl, Nat.le_refl _, heap_alloc_new w.drew _, Nat.zero_le _, hle, ?_, rfl⟩⟩
    simp [Builtin.zeroCells]; omega
  · exact (below_drewN (Below.refl w.heap.size w) 1).alloc (Nat.le_refl _) _

def CatRel (w : World) (xs ys : List Nd) (out i : Value) (wr : World) : Prop :=
  ∃ (k : Nat), i = .int .i64 k ∧ k ≤ 2 ∧ OwnN wr w.heap.size out (if k = 0 then [] else if k = 1 then xs else xs ++ ys) ∧ Below w.heap.size w wr
/-- What a fold leaves. -/
def foldZ (xs : List Nd) : List Nd := (foldL xs).getD []
def FoldOk (zs : List Nd) (w : World) (e : Ending) (w' : World) : Prop := ∃ v, e = .returned (.tuple #[v, .bool true]) ∧ OwnN w' w.heap.size v zs ∧ Below w.heap.size w w'
def OFoldRel (w1 : World) (ss : List Nd) (R : Option (List Nd)) (out i : Value) (wr : World) : Prop :=
  ∃ (k : Nat) (zs : List Nd), i = .int .i64 k ∧ k ≤ ss.length ∧ zs.length ≤ k ∧ OwnN wr w1.heap.size out zs ∧ Hid (R = pass zs (ss.drop k)) ∧ Hid (Pos zs ∧ sumL zs + sumL (ss.drop k) ≤ 72057594037927935) ∧ Below w1.heap.size w1 wr

end Go.Proofs.YthdljlclcepnhaaGreat

/- The walks of package blend: lowered, Lower, wrong, Merge. -/
namespace Go.Proofs.YthdljlclcepnhaaGreat
open Go.RowKit Nl

theorem PoolV.is {w : World} {q g h m : Nat} {kind l : Int} {zs : List Nd} (d : PoolV w q g h kind l m zs) : poolIs kind l = true := by
  rcases d with ⟨rfl, hb, h1, h2, cs, ⟨u, t, d, v⟩, rfl⟩ | ⟨rfl, hb, h1, h2, b, xs, d, lim, hb3, rfl⟩
  · have := v.l1; have := v.l2; simp [poolIs]; omega
  · have := d.2.l1; have := d.2.l2; simp [poolIs]; omega
theorem Nl.Roll.nb {l : Int} {zs : List (Int × Int)} (r : Roll l zs) : NB zs := fun x hx => by
  have h1 := r.ids x hx
  have l1 := r.l1
  have l2 := r.l2
  have hc := r.strict.2 x hx
  have hle := Pos.le_sum r.strict.pos x hx
  have hm := r.most
  simp only [rightB, decide_eq_true_eq] at h1
  obtain ⟨n, rfl⟩ := Int.eq_ofNat_of_zero_le (show 0 ≤ l by omega)
  have := (pow48 (n := n) (by omega)).2
  simp only [Int.toNat_natCast] at h1
  exact ⟨⟨by omega, by omega⟩, ⟨by omega, by omega⟩⟩

def bl_code (l l' t t' : Int) : Int := if l ≠ l' then 6 else if 72057594037927935 - t' < t then 5 else 0

set_option maxRecDepth 100000 in
theorem conf_k (a b c : Int) (W : World) : (Instr.field 37 (.agg #[.int .i64 a, .int .i64 b, .int .i64 c]) 1).run Tryz.prog W = .ok (.int .i64 b) W := by
  simp [Instr.field, run_underlying Tryz.underlying37]
  rfl
end Go.Proofs.YthdljlclcepnhaaGreat

/- The walk of law 14's alive. -/
namespace Go.Proofs.YthdljlclcepnhaaGreat
open Go.RowKit Nl

theorem conf_eq3 (a b c a' b' c' : Int) (w : World) : (Op.equalIn 10000 37 (.agg #[.int .i64 a, .int .i64 b, .int .i64 c]) (.agg #[.int .i64 a', .int .i64 b', .int .i64 c'])).run Tryz.prog w = .ok (a == a' && (b == b' && c == c')) w := by
  rw [run_equalIn_struct w 9999 37 _ _ (by kernel_rfl) (by kernel_rfl)]
  simp only [Program.fieldsOf, Tryz.underlying37]
  by_cases h1 : a = a' <;> by_cases h2 : b = b' <;> by_cases h3 : c = c' <;> simp [Op.eqFields, go_sem, h1, h2, h3]
theorem al14_facts : dgIns 2 1 [] 0 1 = ([(4, 1)], 0) ∧ dgIns 2 2 [] 3 2 = ([(7, 2)], 0) ∧ mergeL 2 1 [(4, 1)] [(7, 2)] = [(1, 3)] := by decide +kernel
end Go.Proofs.YthdljlclcepnhaaGreat

/- The walk of law 14's some. -/
namespace Go.Proofs.YthdljlclcepnhaaGreat
open Go.RowKit Nl

def someB (n : Nat) (kind l : Int) : Bool := decide (n ≤ 100) && (decide (kind ≠ 1) || decide (l ≤ 10))
end Go.Proofs.YthdljlclcepnhaaGreat
