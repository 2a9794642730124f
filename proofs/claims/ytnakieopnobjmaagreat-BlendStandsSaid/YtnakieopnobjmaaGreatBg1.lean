/- Readings: memory, and what a bag holds (plain). -/
import Derived.Test.YtnakieopnobjmaaGreatDgMath
namespace Go.Proofs.YtnakieopnobjmaaGreat
open Go.RowKit Nl

/-- Readings of the call's own. -/
def OwnR (w : World) (B : Nat) (v : Value) (xs : List Nd) : Prop := w.ownsRow B 102 2 v xs.length (ncells xs)
theorem OwnR.nil (w : World) (B : Nat) : OwnR w B (.slice none 0 0) [] := World.ownsRow_nil w B _ _
theorem OwnR.lt {w : World} {B : Nat} {v : Value} {xs : List Nd} (h : OwnR w B v xs) : ∀ k, v.ownBlock = some k → B ≤ k := fun k hk => (World.ownsRow.lt h k hk).1
theorem OwnR.lt' {w : World} {B : Nat} {v : Value} {xs : List Nd} (h : OwnR w B v xs) : ∀ k, v.ownBlock = some k → k < w.heap.size := fun k hk => (World.ownsRow.lt h k hk).2
theorem OwnR.mono {w : World} {B B' : Nat} {v : Value} {xs : List Nd} (h : OwnR w B v xs) (hB : B' ≤ B) : OwnR w B' v xs := ownsRow_mono h hB
theorem OwnR.keep {w w' : World} {B : Nat} {v : Value} {xs : List Nd} (h : OwnR w B v xs) (hk : ∀ k, v.ownBlock = some k → w'.heap[k]? = w.heap[k]?) : OwnR w' B v xs := ownsRow_keep h hk
theorem OwnR.below {w w' : World} {B B' : Nat} {v : Value} {xs : List Nd} (h : OwnR w B v xs) (hb : Below B' w w') (hB : w.heap.size ≤ B') : OwnR w' B v xs :=
  h.keep fun k hk => hb.block k (Nat.lt_of_lt_of_le (h.lt' k hk) hB)
theorem OwnR.alloc {w : World} {B : Nat} {v : Value} {xs : List Nd} (h : OwnR w B v xs) (o : Obj) : OwnR (w.alloc o) B v xs :=
  h.keep fun k hk => Below.heap_alloc w o k (h.lt' k hk)
theorem OwnR.drewN {w : World} {B : Nat} {v : Value} {xs : List Nd} (h : OwnR w B v xs) (n : Nat) : OwnR (w.drewN n) B v xs := h.keep fun _ _ => rfl
/-- Its form, and its cells. -/
theorem OwnR.shape {w : World} {B : Nat} {v : Value} {xs : List Nd} (h : OwnR w B v xs) :
    (v = .slice none 0 0 ∧ xs = []) ∨ ∃ g cap, v = .slice (some ⟨g, 0, none⟩) xs.length cap ∧ B ≤ g ∧ g < w.heap.size ∧ xs.length ≤ cap ∧
      ∀ k, k < xs.length → w.cell? ⟨g, k * 2, none⟩ = some (.int .i64 (xs.getD k (0, 0)).1) ∧ w.cell? ⟨g, k * 2 + 1, none⟩ = some (.int .i64 (xs.getD k (0, 0)).2) := by
  rcases h.2 with ⟨h1, h2⟩ | ⟨g, cap, cur, hv, hg, hh, h3, h4, h5, h6⟩
  · exact .inl ⟨h1, List.eq_nil_of_length_eq_zero h2⟩
  · refine .inr ⟨g, cap, hv, hg, (Array.getElem?_eq_some_iff.1 hh).1, h3, fun k hk => ?_⟩
    subst hv
    have hcell : ∀ j, j < xs.length * 2 → w.cell? ⟨g, j, none⟩ = (ncells xs)[j]? := fun j hj => World.ownsRow.cellAt h j hj
    rw [hcell (k * 2) (by omega), hcell (k * 2 + 1) (by omega)]
    exact ncells_get xs k hk
theorem OwnR.rd {w : World} {B : Nat} {v : Value} {xs : List Nd} (h : OwnR w B v xs) : RdN w v xs := by
  rcases h.shape with h | ⟨g, cap, hv, _, hg, hc, hr⟩
  · exact .inl h
  · exact .inr (.inr ⟨g, 0, cap, hv, hg, hc, fun k hk => by simpa using hr k hk⟩)
theorem OwnR.val {w : World} {B : Nat} {v : Value} {xs : List Nd} (h : OwnR w B v xs) : ∃ p cap, v = .slice p xs.length cap := h.rd.val
theorem OwnR.grown {w w' : World} {B : Nat} {v : Value} {xs : List Nd} {row : Option Nat} (h : OwnR w B v xs) (hg : w.grownBy w' row) (hne : ∀ k, v.ownBlock = some k → some k ≠ row) : OwnR w' B v xs :=
  h.keep fun k hk => hg.block k (h.lt' k hk) (hne k hk)

theorem Tryz.infoReading : (Tryz.prog.info? 102).map (fun i => (i.zero, i.size, i.bytes)) = some (some (.agg #[.int .i64 0, .int .i64 0]), 2, 16) := by kernel_rfl

section
variable {ops : Array Oper} {rest : List Oper} {o : Oper} {a : Act} {Q : Exit → Act → World → Prop} {w wr : World} {v : Value} {xs : List Nd} {B T : Nat}
/-- append(s, x): one reading. -/
theorem appendR {b c : Int} (s x : Operand)
    (hown : OwnR wr B v xs) (hlen : xs.length < 2097152) (hBr : B ≤ wr.heap.size)
    (hw : w = wr.alloc (.cells #[.int .i64 b, .int .i64 c] T))
    (hgd : o.guard = none) (ho : o.op = .call { callee := .builtin .append, args := #[s, x], argTypes := #[47, 47] })
    (hv : a.eval s = v) (hx : a.eval x = .slice (some ⟨wr.heap.size, 0, none⟩) 1 1)
    (h : ∀ v' w', OwnR w' B v' (xs ++ [(b, c)]) → wr.grownBy w' v.ownBlock → v' ≠ .slice none 0 0 → wpList Tryz.prog ops Q rest (a.put o.dst v') w') :
    wpList Tryz.prog ops Q (o :: rest) a w := by
  obtain ⟨i0, hi, hz0, hz1, hz2⟩ := info_parts Tryz.infoReading
  subst hw
  refine wpList_append_own _ hgd s x 47 ho B 102 i0 (.agg #[.int .i64 0, .int .i64 0]) 2 16 Tryz.underlying47 hi hz0 hz1 hz2 rfl (by decide) v xs.length (ncells xs) hv (World.ownsRow.alloc hown _) ⟨wr.heap.size, 0, none⟩ 1 1 (ncells [(b, c)]) hx rfl ?_ (ncells_one _) ?_ ?_ ?_ ?_
  · intro j u hj
    have hadd : (⟨wr.heap.size, 0, none⟩ : Addr).add j = ⟨wr.heap.size, j, none⟩ := by unfold Addr.add; split <;> simp_all
    rw [hadd, World.cell?_alloc_at _ _ _ _ rfl]
    match j, hj with
    | 0, hj => simpa [ncells] using hj
    | 1, hj => simpa [ncells] using hj
    | j + 2, hj => simp [ncells] at hj
  · unfold maxLen; omega
  · omega
  · simp; omega
  · intro v' w' h1 h2 h3
    refine h v' w' ?_ (grownBy_of_alloc h2) (fun e => by have := h3.1 e; simp at this)
    unfold OwnR
    rw [ncells_append]
    simpa using h1
end

namespace Nl
/-- A value's weight more, in readings by rising values. -/
def putR (x c : Int) : List (Int × Int) → List (Int × Int)
  | [] => [(x, c)]
  | y :: r => if y.1 = x then (x, y.2 + c) :: r else if x < y.1 then (x, c) :: y :: r else y :: putR x c r
/-- Readings by rising values, of a universe. -/
structure Bag (l : Int) (its : List (Int × Int)) : Prop where
  rise : its.Pairwise (fun a b => a.1 < b.1)
  pos : ∀ y ∈ its, 1 ≤ y.2
  val : ∀ y ∈ its, leafB l y.1 = true
  most : sumL its ≤ 72057594037927935
theorem Bag.nil (l : Int) : Bag l [] := ⟨List.Pairwise.nil, (fun _ h => absurd h (List.not_mem_nil)), (fun _ h => absurd h (List.not_mem_nil)), by simp [sumL]⟩
theorem Bag.pos' {l : Int} {its : List (Int × Int)} (b : Bag l its) : Pos its := fun y hy => by have := b.pos y hy; omega
theorem putR_mem {x c : Int} {its : List (Int × Int)} : ∀ z ∈ putR x c its, z.1 = x ∧ (z.2 = c ∨ ∃ y ∈ its, y.1 = x ∧ z.2 = y.2 + c) ∨ z ∈ its := by
  induction its with
  | nil => intro z hz; simp only [putR, List.mem_singleton] at hz; subst hz; exact .inl ⟨rfl, .inl rfl⟩
  | cons y r ih =>
    intro z hz
    simp only [putR] at hz
    split at hz
    · rename_i he
      rcases List.mem_cons.1 hz with rfl | hz
      · exact .inl ⟨rfl, .inr ⟨y, List.mem_cons_self .., he, rfl⟩⟩
      · exact .inr (List.mem_cons_of_mem _ hz)
    · split at hz
      · rcases List.mem_cons.1 hz with rfl | hz
        · exact .inl ⟨rfl, .inl rfl⟩
        · exact .inr hz
      · rcases List.mem_cons.1 hz with rfl | hz
        · exact .inr (List.mem_cons_self ..)
        · rcases ih z hz with ⟨h1, h2⟩ | h
          · refine .inl ⟨h1, ?_⟩
            rcases h2 with h2 | ⟨q, hq, e1, e2⟩
            · exact .inl h2
            · exact .inr ⟨q, List.mem_cons_of_mem _ hq, e1, e2⟩
          · exact .inr (List.mem_cons_of_mem _ h)
theorem putR_rise {x c : Int} {its : List (Int × Int)} (h : its.Pairwise (fun a b => a.1 < b.1)) : (putR x c its).Pairwise (fun a b => a.1 < b.1) := by
  induction its with
  | nil => simp [putR]
  | cons y r ih =>
    obtain ⟨h1, h2⟩ := List.pairwise_cons.1 h
    simp only [putR]
    split
    · rename_i he
      exact List.pairwise_cons.2 ⟨fun z hz => by have := h1 z hz; simp only; omega, h2⟩
    · split
      · rename_i hlt
        refine List.pairwise_cons.2 ⟨fun z hz => ?_, h⟩
        rcases List.mem_cons.1 hz with rfl | hz
        · exact hlt
        · have := h1 z hz; simp only; omega
      · refine List.pairwise_cons.2 ⟨fun z hz => ?_, ih h2⟩
        rcases putR_mem z hz with ⟨e, _⟩ | h3
        · omega
        · exact h1 z h3
theorem putR_gsum {f : Int → Int → Int} {x c : Int} (hf : ∀ a, f x (a + c) = f x a + f x c) (its : List (Int × Int)) : gsum f (putR x c its) = gsum f its + f x c := by
  induction its with
  | nil => simp [putR, gsum]
  | cons y r ih =>
    simp only [putR]
    split
    · rename_i he
      simp only [gsum, he, hf]; omega
    · split
      · simp only [gsum]; omega
      · simp only [gsum, ih]; omega
theorem putR_sum {x c : Int} (its : List (Int × Int)) : sumL (putR x c its) = sumL its + c := by
  rw [← gsum_sum, ← gsum_sum]; exact putR_gsum (f := fun _ c => c) (fun _ => rfl) its
theorem putR_length {x c : Int} (its : List (Int × Int)) : (putR x c its).length ≤ its.length + 1 := by
  induction its with
  | nil => simp [putR]
  | cons y r ih =>
    simp only [putR]
    split
    · simp
    · split
      · simp
      · simp only [List.length_cons]; omega
/-- B.Add: the readings then, and the error. -/
def badd (l : Int) (its : List (Int × Int)) (x c : Int) : List (Int × Int) × Int :=
  if leafB l x = false then (its, 3) else if c < 1 then (its, 4) else if 72057594037927935 - sumL its < c then (its, 5) else (putR x c its, 0)
theorem Bag.put {l : Int} {its : List (Int × Int)} (b : Bag l its) {x c : Int} (hx : leafB l x = true) (hc : 1 ≤ c) (hs : sumL its + c ≤ 72057594037927935) : Bag l (putR x c its) := by
  refine ⟨putR_rise b.rise, fun z hz => ?_, fun z hz => ?_, by rw [putR_sum]; exact hs⟩
  · rcases putR_mem z hz with ⟨_, h | ⟨y, hy, _, e⟩⟩ | h
    · omega
    · have := b.pos y hy; omega
    · exact b.pos z h
  · rcases putR_mem z hz with ⟨e, _⟩ | h
    · rw [e]; exact hx
    · exact b.val z h
theorem Bag.badd {l : Int} {its : List (Int × Int)} (b : Bag l its) (x c : Int) : Bag l (badd l its x c).1 ∧ (badd l its x c).1.length ≤ its.length + 1 := by
  unfold Nl.badd
  split
  · exact ⟨b, by simp⟩
  · rename_i h1
    split
    · exact ⟨b, by simp⟩
    · split
      · exact ⟨b, by simp⟩
      · exact ⟨b.put (by simpa using h1) (by omega) (by omega), putR_length _⟩
/-- What lies from lo to hi. -/
def betF (lo hi v c : Int) : Int := if lo ≤ v ∧ v ≤ hi then c else 0
def betV (lo hi : Int) (its : List (Int × Int)) : Int := gsum (betF lo hi) its
theorem bet_le {lo hi : Int} {its : List (Int × Int)} (hp : Pos its) : 0 ≤ betV lo hi its ∧ betV lo hi its ≤ sumL its := by
  rw [← gsum_sum]
  exact ⟨gsum_zero (fun x hx => by have := hp x hx; unfold betF; split <;> omega), gsum_le (fun x hx => by have := hp x hx; unfold betF; split <;> omega)⟩
end Nl
end Go.Proofs.YtnakieopnobjmaaGreat
