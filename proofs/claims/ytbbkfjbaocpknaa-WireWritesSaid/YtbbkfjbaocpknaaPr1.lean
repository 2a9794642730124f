/- press.run: what it turns; a pool and a told function in memory. -/
import Derived.Test.YtbbkfjbaocpknaaFold6
import Derived.Deep.LoopGhost
namespace Go.Proofs.Ytbbkfjbaocpknaa
open Go.RowKit Nl

/-- w' is w but for the blocks of S, and new blocks. -/
structure ChB (S : Nat → Prop) (w w' : World) : Prop where
  os : w'.os = w.os
  tape : w'.tape = w.tape
  output : w'.output = w.output
  size : w.heap.size ≤ w'.heap.size
  block : ∀ k, k < w.heap.size → ¬ S k → w'.heap[k]? = w.heap[k]?
theorem ChB.refl (S : Nat → Prop) (w : World) : ChB S w w := ⟨rfl, rfl, rfl, Nat.le_refl _, fun _ _ _ => rfl⟩
theorem ChB.trans {S S' : Nat → Prop} {w w' w'' : World} (h : ChB S w w') (k : ChB S' w' w'') (hs : ∀ j, j < w.heap.size → S' j → S j) : ChB S w w'' :=
  ⟨k.os.trans h.os, k.tape.trans h.tape, k.output.trans h.output, Nat.le_trans h.size k.size, fun j hj hn => (k.block j (Nat.lt_of_lt_of_le hj h.size) (fun e => hn (hs j hj e))).trans (h.block j hj hn)⟩
theorem ChB.of_below {S : Nat → Prop} {w w' : World} (h : Below w.heap.size w w') : ChB S w w' := ⟨h.os, h.tape, h.output, h.size, fun k hk _ => h.block k hk⟩
theorem ChB.mono {S S' : Nat → Prop} {w w' : World} (h : ChB S w w') (hs : ∀ k, k < w.heap.size → S k → S' k) : ChB S' w w' := ⟨h.os, h.tape, h.output, h.size, fun k hk hn => h.block k hk (fun e => hn (hs k hk e))⟩
theorem ChB.below {S : Nat → Prop} {w w' : World} {B : Nat} (h : ChB S w w') (hS : ∀ k, k < w.heap.size → S k → B ≤ k) (hB : B ≤ w.heap.size) : Below B w w' :=
  ⟨h.os, h.tape, h.output, h.size, fun k hk => h.block k (by omega) (fun e => by have := hS k (by omega) e; omega)⟩
def PB (q g h k : Nat) : Prop := k = q ∨ k = g ∨ k = h
def AB (a b : Nat) (v : Value) (k : Nat) : Prop := k = a ∨ k = b ∨ v.ownBlock = some k
def TB (c : Nat) (o : Value) (k : Nat) : Prop := k = c ∨ o.ownBlock = some k
theorem ChB.of_tch {q g h : Nat} {w w' : World} (t : Tch g h w w') : ChB (PB q g h) w w' := ⟨t.os, t.tape, t.output, t.size, fun k hk hn => t.block k hk (fun e => hn (.inr (.inl e))) (fun e => hn (.inr (.inr e)))⟩
theorem ChB.of_ag {a b : Nat} {v : Value} {w w' : World} (t : Tch3 a b v w w') : ChB (AB a b v) w w' := ⟨t.os, t.tape, t.output, t.size, fun k hk hn => t.block k hk (fun e => hn (.inl e)) (fun e => hn (.inr (.inl e))) (fun e => hn (.inr (.inr e)))⟩
theorem ChB.of_told {c : Nat} {o : Value} {w w' : World} (t : Tch3 c c o w w') : ChB (TB c o) w w' := ⟨t.os, t.tape, t.output, t.size, fun k hk hn => t.block k hk (fun e => hn (.inl e)) (fun e => hn (.inl e)) (fun e => hn (.inr e))⟩
/-- Apart. -/
def D2 (X Y : Nat → Prop) : Prop := ∀ k, X k → ¬ Y k
theorem D2.left {X X' Y : Nat → Prop} {n : Nat} (d : D2 X Y) (hx : ∀ k, X' k → X k ∨ n ≤ k) (hy : ∀ k, Y k → k < n) : D2 X' Y := fun k h1 h2 => by
  rcases hx k h1 with h | h
  · exact d k h h2
  · have := hy k h2; omega
theorem D2.right {X Y Y' : Nat → Prop} {n : Nat} (d : D2 X Y) (hy : ∀ k, Y' k → Y k ∨ n ≤ k) (hx : ∀ k, X k → k < n) : D2 X Y' := fun k h1 h2 => by
  rcases hy k h2 with h | h
  · exact d k h1 h
  · have := hx k h1; omega
theorem ChB.off {S X : Nat → Prop} {w w' : World} (h : ChB S w w') (d : D2 X S) : ∀ k, k < w.heap.size → X k → w'.heap[k]? = w.heap[k]? := fun k hk hx => h.block k hk (d k hx)
theorem D2.symm {X Y : Nat → Prop} (d : D2 X Y) : D2 Y X := fun k h1 h2 => d k h2 h1
theorem PB.new {q g h h' n : Nat} (hh : h' = h ∨ n ≤ h') : ∀ k, PB q g h' k → PB q g h k ∨ n ≤ k := fun k hk => by
  rcases hk with e | e | e
  · exact .inl (.inl e)
  · exact .inl (.inr (.inl e))
  · rcases hh with h1 | h1
    · exact .inl (.inr (.inr (e.trans h1)))
    · exact .inr (by omega)
theorem AB.new {a b : Nat} {v v' : Value} {w : World} (f : Fr w v v') : ∀ k, AB a b v' k → AB a b v k ∨ w.heap.size ≤ k := fun k hk => by
  rcases hk with e | e | e
  · exact .inl (.inl e)
  · exact .inl (.inr (.inl e))
  · rcases f with h | ⟨j, h, hj⟩
    · exact .inl (.inr (.inr (by rw [← h]; exact e)))
    · rw [h] at e; cases e; exact .inr hj
theorem TB.new {c : Nat} {o o' : Value} {w : World} (f : Fr w o o') : ∀ k, TB c o' k → TB c o k ∨ w.heap.size ≤ k := fun k hk => by
  rcases hk with e | e
  · exact .inl (.inl e)
  · rcases f with h | ⟨j, h, hj⟩
    · exact .inl (.inr (by rw [← h]; exact e))
    · rw [h] at e; cases e; exact .inr hj
theorem PoolV.ltB {w : World} {q g h m : Nat} {kind l : Int} {zs : List Nd} (d : PoolV w q g h kind l m zs) : ∀ k, PB q g h k → k < w.heap.size := fun k hk => by
  obtain ⟨h1, h2, h3, _⟩ := d.lt
  rcases hk with e | e | e <;> omega
theorem PoolV.keepB {w w' : World} {q g h m : Nat} {kind l : Int} {zs : List Nd} (d : PoolV w q g h kind l m zs) (hk : ∀ k, k < w.heap.size → PB q g h k → w'.heap[k]? = w.heap[k]?) : PoolV w' q g h kind l m zs := by
  obtain ⟨l1, l2, l3, _⟩ := d.lt
  have e1 := hk q l1 (.inl rfl)
  have e2 := hk g l2 (.inr (.inl rfl))
  have e3 := hk h l3 (.inr (.inr rfl))
  rcases d with ⟨k, hb, h1, h2, cs, ⟨u, t, d, v⟩, e⟩ | ⟨k, hb, h1, h2, b, xs, ⟨⟨cap, rest, d1, d2, d3⟩, v⟩, r⟩
  · exact .inl ⟨k, hb.keep e1, h1, h2, cs, ⟨u, t, ⟨d.1.keep e2, d.2.1.keep e3, d.2.2⟩, v⟩, e⟩
  · exact .inr ⟨k, hb.keep e1, h1, h2, b, xs, ⟨⟨cap, rest, d1.keep e2, d2.keep e3, d3⟩, v⟩, r⟩
/-- What becomes of a told function's state. -/
def ToldPost (I : List Int → Value → World → Prop) (c : Nat) (done : List Int) (o : Value) (x : Int) (w : World) (e : Ending) (w' : World) : Prop :=
  e = .returned (.tuple #[]) ∧ ∃ o', I (done ++ [x]) o' w' ∧ Fr w o o' ∧ Tch3 c c o w w'
/-- A function that is told each fold: what it has been told lies in the box c. -/
structure Told (F c : Nat) (I : List Int → Value → World → Prop) : Prop where
  keep : ∀ {done : List Int} {o : Value} {w w' : World}, I done o w → (∀ k, k < w.heap.size → TB c o k → w'.heap[k]? = w.heap[k]?) → I done o w'
  lt : ∀ {done : List Int} {o : Value} {w : World}, I done o w → ∀ k, TB c o k → k < w.heap.size
  ent : ∀ (args : Array Value) (w : World), (callFunc F args).run Try.prog w = .ok (.enter F args) w
  call : ∀ (done : List Int) (o : Value) (w : World) (x : Int), I done o w → done.length < 1000000 → In64 x → Calls Try.prog F #[.int .i64 x, .pointer (some ⟨c, 0, none⟩)] w (ToldPost I c done o x w)

section
variable {I : List Int → Value → World → Prop} {q g h0 c a b m F : Nat} {o0 : Value} {kind l : Int} {w : World} {zs : List Nd} {ag done : List Int} {h : Nat} {v o : Value} {wr w' : World}
end

def RunPost (I : List Int → Value → World → Prop) (q g h0 c m : Nat) (o0 : Value) (kind l : Int) (R : List Nd × List Int) (w : World) (e : Ending) (w' : World) : Prop :=
  e = .returned (.tuple #[]) ∧ ∃ h o, PoolV w' q g h kind l m R.1 ∧ (h = h0 ∨ w.heap.size ≤ h) ∧ I R.2 o w' ∧ Fr w o0 o ∧ D2 (PB q g h) (TB c o) ∧ ChB (fun k => PB q g h0 k ∨ TB c o0 k) w w'

end Go.Proofs.Ytbbkfjbaocpknaa
