/- Texts laid together. -/
import Derived.Test.YtlciofheonbkiaaGreatP17
import Derived.Test.YtlciofheonbkiaaGreatP08
/- A crowd that grows by one: memory alone. -/
namespace Go.Proofs.YtlciofheonbkiaaGreat
open Go.RowKit Nl
theorem row_shape {w : World} {B : Nat} {E : TypeId} {z n : Nat} {v : Value} {cs : List Value} (h : w.ownsRow B E z v n cs) :
    (v = .slice none 0 0 ∧ n = 0) ∨ ∃ g cap, v = .slice (some ⟨g, 0, none⟩) n cap ∧ B ≤ g ∧ g < w.heap.size ∧ n ≤ cap ∧ ∀ j, j < n * z → w.cell? ⟨g, j, none⟩ = cs[j]? := by
  rcases h.2 with ⟨h1, h2⟩ | ⟨g, cap, cur, hv, hg, hh, h3, h4, h5, h6⟩
  · exact .inl ⟨h1, h2⟩
  · refine .inr ⟨g, cap, hv, hg, (Array.getElem?_eq_some_iff.1 hh).1, h3, ?_⟩
    subst hv
    exact fun j hj => World.ownsRow.cellAt h j hj
theorem row_val {w : World} {B : Nat} {E : TypeId} {z n : Nat} {v : Value} {cs : List Value} (h : w.ownsRow B E z v n cs) : ∃ p cap, v = .slice p n cap := by
  rcases row_shape h with ⟨rfl, rfl⟩ | ⟨g, cap, rfl, -⟩
  · exact ⟨_, _, rfl⟩
  · exact ⟨_, _, rfl⟩
def Rec.new (dg q g h : Nat) (kind k : Int) : Rec := ⟨dg, q, g, h, kind, k, [], [], .slice none 0 0⟩
section
variable {W0 W1 W2 W4 : World} {B0 c dg q g h g3 g4 cap3 cap4 : Nat} {l k kind : Int} {vd vb : Value} {rs : List Rec}
theorem Crowd.kept1 (b1 : Below W0.heap.size W0 W1) (hg3 : W1.grownBy W2 vd.ownBlock) (j : Nat) (hj : j < W0.heap.size) (hn : vd.ownBlock ≠ some j) : W2.heap[j]? = W0.heap[j]? := by
  rw [hg3.block j (Nat.lt_of_lt_of_le hj b1.size) (fun e => hn e.symm), b1.block j hj]
theorem Crowd.blk1 (C : Crowd W0 B0 l c vd vb rs) (b1 : Below W0.heap.size W0 W1) (hg3 : W1.grownBy W2 vd.ownBlock) : Blk W2 c #[.int .i64 l, vd, vb] 36 :=
  C.blk.keep (Crowd.kept1 b1 hg3 c C.blk.lt (fun e => C.nD c e rfl))
theorem Crowd.rowB1 (C : Crowd W0 B0 l c vd vb rs) (b1 : Below W0.heap.size W0 W1) (hg3 : W1.grownBy W2 vd.ownBlock) (u : Value) : (W2.setCell ⟨c, 1, none⟩ u).ownsRow B0 41 2 vb rs.length (bCells l rs) :=
  ownsRow_keep C.rowB (fun j hj => by
    have n := C.nB j hj
    rw [Below.heap_setCell _ ⟨c, 1, none⟩ _ j n.1]
    exact Crowd.kept1 b1 hg3 j (World.ownsRow.lt C.rowB j hj).2 n.2)
theorem Crowd.blk2 (C : Crowd W0 B0 l c vd vb rs) (b1 : Below W0.heap.size W0 W1) (hg3 : W1.grownBy W2 vd.ownBlock) (u : Value) (hg4 : (W2.setCell ⟨c, 1, none⟩ u).grownBy W4 vb.ownBlock) : Blk W4 c #[.int .i64 l, u, vb] 36 := by
  have X := (C.blk1 b1 hg3).set 1 u
  exact X.keep (hg4.block c X.lt (fun e => (C.nB c e.symm).1 rfl))
theorem Crowd.grow (C : Crowd W0 B0 l c vd vb rs) (b1 : Below W0.heap.size W0 W1) (d : DgV W1 dg q g h kind l k 20000 []) (new : ∀ b, DB dg q g h b → W0.heap.size ≤ b) (k1 : 1 ≤ kind) (k2 : kind ≤ 2) (kl : 10 < l → kind = 2)
    (o3 : W2.ownsRow B0 38 1 (.slice (some ⟨g3, 0, none⟩) (rs.length + 1) cap3) (rs.length + 1) (dCells rs ++ [.pointer (some ⟨dg, 0, none⟩)])) (hg3 : W1.grownBy W2 vd.ownBlock) (hn3 : vd.ownBlock = some g3 ∨ g3 = W1.heap.size + 1)
    (o4 : W4.ownsRow B0 41 2 (.slice (some ⟨g4, 0, none⟩) (rs.length + 1) cap4) (rs.length + 1) (bCells l rs ++ [.int .i64 l, .slice none 0 0])) (hg4 : (W2.setCell ⟨c, 1, none⟩ (.slice (some ⟨g3, 0, none⟩) (rs.length + 1) cap3)).grownBy W4 vb.ownBlock)
    (hn4 : vb.ownBlock = some g4 ∨ g4 = W2.heap.size + 1) :
    Crowd (W4.setCell ⟨c, 2, none⟩ (.slice (some ⟨g4, 0, none⟩) (rs.length + 1) cap4)) B0 l c (.slice (some ⟨g3, 0, none⟩) (rs.length + 1) cap3) (.slice (some ⟨g4, 0, none⟩) (rs.length + 1) cap4) (rs ++ [Rec.new dg q g h kind k]) := by
  have hc := C.blk.lt
  have hB0 := C.base
  have h31 : g3 < W2.heap.size := (World.ownsRow.lt o3 g3 rfl).2
  have s1 := b1.size
  have s2 := hg3.size
  have s4 := hg4.size
  have s4' : W2.heap.size ≤ W4.heap.size := by simpa using s4
  have ltD : ∀ j, vd.ownBlock = some j → j < W0.heap.size := fun j hj => (World.ownsRow.lt C.rowD j hj).2
  have ltB : ∀ j, vb.ownBlock = some j → j < W0.heap.size := fun j hj => (World.ownsRow.lt C.rowB j hj).2
  have ltR : ∀ i (hi : i < rs.length) b, rs[i].B b → b < W0.heap.size := fun i hi b hb => (C.each i hi).d.ltB b hb
  -- what lies where
  have n3c : g3 ≠ c := by
    rcases hn3 with e | e
    · exact C.nD g3 e
    · omega
  have n4c : g4 ≠ c := by
    rcases hn4 with e | e
    · exact (C.nB g4 e).1
    · omega
  have n34 : g3 ≠ g4 := by
    rintro rfl
    rcases hn4 with e | e
    · rcases hn3 with e' | e'
      · exact (C.nB g3 e).2 e'
      · have := ltB g3 e; omega
    · rcases hn3 with e' | e'
      · have := ltD g3 e'; omega
      · omega
  -- what is kept
  have kp1 : ∀ j, j < W1.heap.size → vd.ownBlock ≠ some j → W2.heap[j]? = W1.heap[j]? := fun j hj hn => hg3.block j hj (fun e => hn e.symm)
  have kp2 : ∀ j, j < W2.heap.size → j ≠ c → vb.ownBlock ≠ some j → (W4.setCell ⟨c, 2, none⟩ (.slice (some ⟨g4, 0, none⟩) (rs.length + 1) cap4)).heap[j]? = W2.heap[j]? := fun j hj hjc hn => by
    rw [Below.heap_setCell _ ⟨c, 2, none⟩ _ j hjc, hg4.block j (by simpa using hj) (fun e => hn e.symm), Below.heap_setCell _ ⟨c, 1, none⟩ _ j hjc]
  have kp : ∀ j, j < W1.heap.size → j ≠ c → vd.ownBlock ≠ some j → vb.ownBlock ≠ some j → (W4.setCell ⟨c, 2, none⟩ (.slice (some ⟨g4, 0, none⟩) (rs.length + 1) cap4)).heap[j]? = W1.heap[j]? := fun j hj hjc h1 h2 => by
    rw [kp2 j (by omega) hjc h2, kp1 j hj h1]
  have kp0 : ∀ j, j < W0.heap.size → j ≠ c → vd.ownBlock ≠ some j → vb.ownBlock ≠ some j → (W4.setCell ⟨c, 2, none⟩ (.slice (some ⟨g4, 0, none⟩) (rs.length + 1) cap4)).heap[j]? = W0.heap[j]? := fun j hj hjc h1 h2 => by
    rw [kp j (by omega) hjc h1 h2, b1.block j hj]
  have ndb : ∀ b, DB dg q g h b → b ≠ c ∧ vd.ownBlock ≠ some b ∧ vb.ownBlock ≠ some b ∧ b ≠ g3 ∧ b ≠ g4 := fun b hb => by
    have hn := new b hb
    have hl := d.ltB b hb
    refine ⟨by omega, fun e => by have := ltD b e; omega, fun e => by have := ltB b e; omega, ?_, ?_⟩
    · rintro rfl
      rcases hn3 with e | e
      · have := ltD b e; omega
      · omega
    · rintro rfl
      rcases hn4 with e | e
      · have := ltB b e; omega
      · omega
  have n3 : ∀ j, j < W0.heap.size → vd.ownBlock ≠ some j → j ≠ g3 := fun j hj hn e => by
    subst e
    rcases hn3 with e | e
    · exact hn e
    · omega
  have n4 : ∀ j, j < W0.heap.size → vb.ownBlock ≠ some j → j ≠ g4 := fun j hj hn e => by
    subst e
    rcases hn4 with e | e
    · exact hn e
    · omega
  have len : (rs ++ [Rec.new dg q g h kind k]).length = rs.length + 1 := by simp
  have g0 : ∀ i (hi : i < rs.length), (rs ++ [Rec.new dg q g h kind k])[i]'(by rw [len]; omega) = rs[i] := fun i hi => List.getElem_append_left hi
  have g1 : ∀ (hi : rs.length < (rs ++ [Rec.new dg q g h kind k]).length), (rs ++ [Rec.new dg q g h kind k])[rs.length] = Rec.new dg q g h kind k := fun hi => by simp
  have o3b : ∀ b : Nat, (Value.slice (some ⟨g3, 0, none⟩) (rs.length + 1) cap3).ownBlock = some b → g3 = b := fun b hb => Option.some.inj hb
  have o4b : ∀ b : Nat, (Value.slice (some ⟨g4, 0, none⟩) (rs.length + 1) cap4).ownBlock = some b → g4 = b := fun b hb => Option.some.inj hb
  have cs : ∀ i, i < (rs ++ [Rec.new dg q g h kind k]).length → i < rs.length ∨ i = rs.length := fun i hi => by rw [len] at hi; omega
  refine ⟨?_, ?_, ?_, ?_, ?_, hB0, ?_, ?_, ?_, ?_, ?_⟩
  · exact (C.blk2 b1 hg3 _ hg4).set 2 _
  · rw [len, show dCells (rs ++ [Rec.new dg q g h kind k]) = dCells rs ++ [.pointer (some ⟨dg, 0, none⟩)] by unfold dCells; simp [Rec.new]]
    exact ownsRow_keep o3 (fun j hj => by
      obtain rfl := o3b j hj
      refine kp2 g3 h31 n3c (fun e => ?_)
      rcases hn3 with e' | e'
      · exact (C.nB g3 e).2 e'
      · have := ltB g3 e; omega)
  · rw [len, show bCells l (rs ++ [Rec.new dg q g h kind k]) = bCells l rs ++ [.int .i64 l, .slice none 0 0] by unfold bCells; simp [Rec.new]]
    exact ownsRow_keep o4 (fun j hj => by
      obtain rfl := o4b j hj
      exact Below.heap_setCell _ ⟨c, 2, none⟩ _ g4 n4c)
  · intro i hi
    rcases cs i hi with hi' | rfl
    · rw [g0 i hi']
      have ei := C.each i hi'
      refine ⟨ei.d.keepB (fun b hb hd => ?_), ei.rd_keep (fun he b hb hv => ?_) ?_, ei.k1, ei.k2, ei.kl⟩
      · obtain ⟨q1, q2, q3⟩ := C.nR i hi' b hd
        exact kp0 b hb q1 q2 q3
      · obtain ⟨q1, q2, q3, -⟩ := C.nV i hi' he b hv
        exact kp0 b hb q1 q2 q3
      · have : W2.heap.size ≤ (W4.setCell ⟨c, 2, none⟩ (.slice (some ⟨g4, 0, none⟩) (rs.length + 1) cap4)).heap.size := by simpa using s4'
        omega
    · rw [g1]
      refine ⟨d.keepB (fun b hb hd => ?_), RdN.nil _, k1, k2, kl⟩
      obtain ⟨q1, q2, q3, -, -⟩ := ndb b hd
      exact kp b hb q1 q2 q3
  · intro i j hi hj hij b
    rcases cs i hi with hi' | rfl
    · rw [g0 i hi']
      rcases cs j hj with hj' | rfl
      · rw [g0 j hj']; exact C.apart i j hi' hj' hij b
      · rw [g1]
        intro p p'
        have := ltR i hi' b p
        have := new b p'
        omega
    · rw [g1]
      rcases cs j hj with hj' | rfl
      · rw [g0 j hj']
        intro p p'
        have := ltR j hj' b p'
        have := new b p
        omega
      · exact absurd rfl hij
  · intro i hi b
    rcases cs i hi with hi' | rfl
    · rw [g0 i hi']; exact C.low i hi' b
    · rw [g1]; intro p; have := new b p; omega
  · intro b hb
    rw [← o3b b hb]; exact n3c
  · intro b hb
    rw [← o4b b hb]
    exact ⟨n4c, fun e => n34 (o3b _ e)⟩
  · intro i hi b
    rcases cs i hi with hi' | rfl
    · rw [g0 i hi']
      intro p
      obtain ⟨q1, q2, q3⟩ := C.nR i hi' b p
      have hl := ltR i hi' b p
      exact ⟨q1, fun e => n3 b hl q2 (o3b b e).symm, fun e => n4 b hl q3 (o4b b e).symm⟩
    · rw [g1]
      intro p
      obtain ⟨q1, -, -, q4, q5⟩ := ndb b p
      exact ⟨q1, fun e => q4 (o3b b e).symm, fun e => q5 (o4b b e).symm⟩
  · intro i hi
    rcases cs i hi with hi' | rfl
    · rw [g0 i hi']
      intro he b hv
      obtain ⟨q1, q2, q3, q4⟩ := C.nV i hi' he b hv
      have hl : b < W0.heap.size := by
        rcases (C.each i hi').rd.ltE with e | e
        · exact absurd e he
        · exact e b hv
      refine ⟨q1, fun e => n3 b hl q2 (o3b b e).symm, fun e => n4 b hl q3 (o4b b e).symm, fun j hj => ?_⟩
      rcases cs j hj with hj' | rfl
      · rw [g0 j hj']; exact q4 j hj'
      · rw [g1]; intro p; have := new b p; omega
    · rw [g1]
      intro he
      exact absurd rfl he
end
theorem Crowd.nil (W : World) (l : Int) : Crowd (W.alloc (.cells #[.int .i64 l, .slice none 0 0, .slice none 0 0] 36)) W.heap.size l W.heap.size (.slice none 0 0) (.slice none 0 0) [] :=
  ⟨Blk.new W _ _, World.ownsRow_nil _ _ _ _, World.ownsRow_nil _ _ _ _, fun i hi => absurd hi (Nat.not_lt_zero i), fun i _ hi => absurd hi (Nat.not_lt_zero i), nlr, fun i hi => absurd hi (Nat.not_lt_zero i), fun b hb => by simp [Value.ownBlock] at hb, fun b hb => by simp [Value.ownBlock] at hb, fun i hi => absurd hi (Nat.not_lt_zero i), fun i hi => absurd hi (Nat.not_lt_zero i)⟩
end Go.Proofs.YtlciofheonbkiaaGreat

/- The walk of: a crowd is begun. -/
namespace Go.Proofs.YtlciofheonbkiaaGreat
set_option maxHeartbeats 8000000
set_option maxRecDepth 100000
open Go.RowKit Nl
def CrowdT (l : Int) (rs : List Rec) (X : List Int) : Prop := ∀ i (h : i < rs.length), TI l rs[i].k rs[i].zs rs[i].its X
theorem CrowdT.add {l : Int} {rs : List Rec} {X : List Int} (t : CrowdT l rs X) {r : Rec} (h : TI l r.k r.zs r.its X) : CrowdT l (rs ++ [r]) X := fun i hi => by
  by_cases q : i < rs.length
  · rw [List.getElem_append_left q]; exact t i q
  · have e : i = rs.length := by simp at hi; omega
    subst e
    have e2 : (rs ++ [r])[rs.length] = r := by simp
    rw [e2]; exact h
def BegunP (l : Int) (n : Nat) (w : World) (e : Ending) (w' : World) : Prop :=
  (e = .returned (.tuple #[.pointer none, .bool false]) ∧ Below w.heap.size w w') ∨
  ∃ c vd vb rs, e = .returned (.tuple #[.pointer (some ⟨c, 0, none⟩), .bool true]) ∧ rs.length = n ∧ Crowd w' w.heap.size l c vd vb rs ∧ CrowdT l rs [] ∧ Below w.heap.size w w'
def BgRel (l : Int) (N : Nat) (w : World) (gn : Nat) (i : Value) (wr : World) : Prop :=
  ∃ vd vb rs, i = .int .i64 (rs.length : Nat) ∧ rs.length ≤ N ∧ N ≤ gn + rs.length ∧ Crowd wr w.heap.size l w.heap.size vd vb rs ∧ CrowdT l rs [] ∧ Below w.heap.size w wr
theorem poolIs_of {kind l : Int} (l1 : 1 ≤ l) (l2 : l ≤ 48) (k1 : 1 ≤ kind) (k2 : kind ≤ 2) (kl : 10 < l → kind = 2) : poolIs kind l = true := by
  unfold poolIs
  rw [decide_eq_true_eq]
  by_cases h : 10 < l
  · exact .inr ⟨kl h, l1, l2⟩
  · by_cases h2 : kind = 1
    · exact .inl ⟨h2, l1, by omega⟩
    · exact .inr ⟨by omega, l1, l2⟩
theorem t_begun (l : Int) {v : Value} {ks : List Int} {w : World} (hr : RdIA w v ks) (l1 : 1 ≤ l) (l2 : l ≤ 48) (n5 : ks.length ≤ 5) :
    Calls Tryz.prog 7 #[.int .i64 l, v, .int .i64 0] w (BegunP l ks.length w) := by
  obtain ⟨hri, hin, -⟩ := hr
  obtain ⟨p, cap, rfl⟩ := hri.val
  obtain ⟨N, eN⟩ : ∃ N, ks.length = N := ⟨_, rfl⟩
  have EN := hid eN
  rw [eN] at hri n5 ⊢
  clear eN
  have C0 := Crowd.nil w l
  have hb0 : Below w.heap.size w (w.alloc (.cells #[.int .i64 l, .slice none 0 0, .slice none 0 0] 36)) := (Below.refl _ _).alloc nlr _
  have R0 : Hid (BgRel l N w N (.int .i64 (0 : Nat)) (w.alloc (.cells #[.int .i64 l, .slice none 0 0, .slice none 0 0] 36))) :=
    ⟨_, _, [], rfl, Nat.zero_le _, nlr, C0, fun i hi => absurd hi (Nat.not_lt_zero i), hb0⟩
  have NW := hid (fun kind k W => dg_new kind l k W)
  have NN := hid (fun kind k W => dg_new_no kind l k W)
  have HRI := hid hri
  have HIN := hid hin
  clear C0 hb0 hri hin
  go_enter Tryz.func7, Tryz.ntmps7
  go_wp2_with fail
  go_loopg [19] N (fun gn i wr => BgRel l N w gn i wr)
  case atStart => exact R0.out
  case round =>
    clear R0
    obtain ⟨vd, vb, rs, rfl, hj, hgn, C, T, hbl⟩ := hrel
    by_cases hlt : rs.length < N
    · obtain ⟨g, off, k, rfl, hk, hg, c0⟩ := (HRI.out.below hbl nlr).at (show rs.length < ks.length by rw [EN.out]; exact hlt)
      have bk : In64 k := HIN.out k (by rw [← hk]; have : rs.length < ks.length := by rw [EN.out]; exact hlt
                                        simp [List.getD, this])
      have z0 : decide ((rs.length : Int) < (N : Int)) = true := decide_eq_true (by omega)
      obtain ⟨J, eJ⟩ : ∃ J : Int, ((rs.length : Nat) : Int).tmod 2 = J := ⟨_, rfl⟩
      have hJ : 0 ≤ J ∧ J ≤ 1 := by rw [← eJ, Int.tmod_eq_emod_of_nonneg (by omega)]; omega
      have f1 : IntKind.i64.wrap ((rs.length : Nat) : Int) = ((rs.length : Nat) : Int) := IntWalk.i64_in _ ⟨by omega, by omega⟩
      have f2 : IntKind.i64.wrap J = J := IntWalk.i64_in _ ⟨by omega, by omega⟩
      have f3 : IntKind.i64.wrap (1 + J) = 1 + J := IntWalk.i64_in _ ⟨by omega, by omega⟩
      clear hk
      by_cases h10 : 10 < l
      · have zl : decide (10 < l) = true := decide_eq_true h10
        go_upto_region 8 with fail
        clear zl z0
        have hpool : poolIs (2 : Int) l = true := poolIs_of l1 l2 (by omega) (by omega) (fun _ => by omega)
        cases hisk : isK k
        · have NN2 := NN.out (2 : Int) k wr bk (by rw [hpool, hisk]; rfl)
          clear C T eJ
          go_wp2_with fail
          refine NN2.mono ?_
          rintro e w1 ⟨rfl, hb1⟩
          have PP : Hid (BegunP l N w (.returned (.tuple #[.pointer none, .bool false])) w1) := .inl ⟨rfl, hbl.trans (hb1.mono hbl.size)⟩
          go_wp2_with fail
          go_ret2
          exact PP.out
        · have NW2 := NW.out (2 : Int) k wr hpool hisk
          go_wp2_with fail
          refine NW2.mono ?_
          rintro e w1 ⟨dg, q, g', h, rfl, d1, p1, p2, p3, p4, hb1⟩
          have hnew : ∀ b, DB dg q g' h b → wr.heap.size ≤ b := fun b hb => by rcases hb with e | e | e | e <;> omega
          obtain ⟨pd, cd, rfl⟩ := row_val C.rowD
          obtain ⟨pb, cb, rfl⟩ := row_val C.rowB
          have X1 := C.blk.below hb1 nlr
          have x1 : w1.cell? ⟨w.heap.size, 1, none⟩ = some (.slice pd rs.length cd) := X1.cell 1
          have rowD1 := ownsRow_keep C.rowD (fun j hj => hb1.block j (World.ownsRow.lt C.rowD j hj).2)
          have hw1 : w.heap.size ≤ w1.heap.size := Nat.le_trans hbl.size hb1.size
          have hbw1 := hbl.trans (hb1.mono hbl.size)
          clear NW2 eJ f1 f2 f3 c0
          have HC := hid C
          have HT := hid T
          have HD := hid d1
          have HN := hid hnew
          clear C T d1 hnew X1
          go_upto_region 11 with fail
          go_upto_region 12 with (at_builtin; refine appendDgp (wr := w1) (pa := some ⟨dg, 0, none⟩) _ _ rowD1 (by omega) hw1 rfl rfl rfl rfl rfl ?_; intro g3 cap3 w2 o3 hg3 hn3 hl3; have X2 := HC.out.blk1 hb1 hg3; have f1 := X2.free 1; have xl := X2.lt; have x1 : w2.cell? ⟨w.heap.size, 1, none⟩ = some (.slice pd rs.length cd) := X2.cell 1)
          have X3 := X2.set 1 (.slice (some ⟨g3, 0, none⟩) (rs.length + 1) cap3)
          have x2 : World.cell? (w2.setCell ⟨w.heap.size, 1, none⟩ (.slice (some ⟨g3, 0, none⟩) (rs.length + 1) cap3)) ⟨w.heap.size, 2, none⟩ = some (.slice pb rs.length cb) := X3.cell 2
          have rowB3 := HC.out.rowB1 hb1 hg3 (.slice (some ⟨g3, 0, none⟩) (rs.length + 1) cap3)
          have hw3 : w.heap.size ≤ (w2.setCell ⟨w.heap.size, 1, none⟩ (.slice (some ⟨g3, 0, none⟩) (rs.length + 1) cap3)).heap.size := by have := hg3.size; simp; omega
          have hbw2 := hbw1.grown hg3 hw1 (fun j hj => (World.ownsRow.lt HC.out.rowD j hj).1)
          have hbw3 := hbw2.setCell (p := ⟨w.heap.size, 1, none⟩) nlr (.slice (some ⟨g3, 0, none⟩) (rs.length + 1) cap3)
          have HO := hid o3
          have HG := hid hg3
          clear X2 x1 f1 xl rowD1 o3 hg3 X3
          generalize hW3 : w2.setCell ⟨w.heap.size, 1, none⟩ (.slice (some ⟨g3, 0, none⟩) (rs.length + 1) cap3) = w3 at *
          have HW3 := hid (And.intro hW3 (show w3.heap.size = w2.heap.size by rw [← hW3]; simp))
          clear hW3
          go_wp2_with (at_builtin; refine appendBag (wr := w3) (b := l) (u := .slice none 0 0) _ _ rfl rowB3 (by omega) hw3 rfl rfl rfl rfl rfl ?_; intro g4 cap4 w4 o4 hg4 hn4 hl4; have X4 := HC.out.blk2 hb1 HG.out (.slice (some ⟨g3, 0, none⟩) (rs.length + 1) cap3) (by rw [HW3.out.1]; exact hg4); have f2 := X4.free 2; have xl := X4.lt; have x2 : w4.cell? ⟨w.heap.size, 2, none⟩ = some (.slice pb rs.length cb) := X4.cell 2)
          obtain ⟨hW3, hS3⟩ := HW3.out
          have C9 := Crowd.grow HC.out hb1 HD.out HN.out (by omega) (by omega) (fun _ => by omega) HO.out HG.out hn3 o4 (by rw [hW3]; exact hg4) (by rw [← hS3]; exact hn4)
          have T9 := HT.out.add (r := Rec.new dg q g' h (2 : Int) k) (TI.nil HD.out.inv (fun x hx => by cases hx))
          have hbw4 := hbw3.grown hg4 hw3 (fun j hj => (World.ownsRow.lt HC.out.rowB j hj).1)
          have hbw5 := hbw4.setCell (p := ⟨w.heap.size, 2, none⟩) nlr (.slice (some ⟨g4, 0, none⟩) (rs.length + 1) cap4)
          have R9 : Hid (∀ i, i = Value.int .i64 ((rs.length : Nat) + 1 : Int) → BgRel l N w (N - (rs.length + 1)) i (w4.setCell ⟨w.heap.size, 2, none⟩ (.slice (some ⟨g4, 0, none⟩) (rs.length + 1) cap4))) := by
            intro i hi
            refine ⟨_, _, rs ++ [Rec.new dg q g' h (2 : Int) k], ?_, ?_, ?_, C9, T9, hbw5⟩
            · rw [hi]; simp
            · simp; omega
            · simp; omega
          clear C9 T9 o4 hg4 hn4 hn3 hW3 hS3
          go_roundg (N - (rs.length + 1))
          case rel => exact R9.out _ (by go_num)
          case measure => omega
      · have zl : decide (10 < l) = false := decide_eq_false h10
        go_upto_region 8 with fail
        clear zl z0
        have hpool : poolIs (1 + J) l = true := poolIs_of l1 l2 (by omega) (by omega) (fun _ => by omega)
        cases hisk : isK k
        · have NN2 := NN.out (1 + J) k wr bk (by rw [hpool, hisk]; rfl)
          clear C T eJ
          go_wp2_with fail
          refine NN2.mono ?_
          rintro e w1 ⟨rfl, hb1⟩
          have PP : Hid (BegunP l N w (.returned (.tuple #[.pointer none, .bool false])) w1) := .inl ⟨rfl, hbl.trans (hb1.mono hbl.size)⟩
          go_wp2_with fail
          go_ret2
          exact PP.out
        · have NW2 := NW.out (1 + J) k wr hpool hisk
          go_wp2_with fail
          refine NW2.mono ?_
          rintro e w1 ⟨dg, q, g', h, rfl, d1, p1, p2, p3, p4, hb1⟩
          have hnew : ∀ b, DB dg q g' h b → wr.heap.size ≤ b := fun b hb => by rcases hb with e | e | e | e <;> omega
          obtain ⟨pd, cd, rfl⟩ := row_val C.rowD
          obtain ⟨pb, cb, rfl⟩ := row_val C.rowB
          have X1 := C.blk.below hb1 nlr
          have x1 : w1.cell? ⟨w.heap.size, 1, none⟩ = some (.slice pd rs.length cd) := X1.cell 1
          have rowD1 := ownsRow_keep C.rowD (fun j hj => hb1.block j (World.ownsRow.lt C.rowD j hj).2)
          have hw1 : w.heap.size ≤ w1.heap.size := Nat.le_trans hbl.size hb1.size
          have hbw1 := hbl.trans (hb1.mono hbl.size)
          clear NW2 eJ f1 f2 f3 c0
          have HC := hid C
          have HT := hid T
          have HD := hid d1
          have HN := hid hnew
          clear C T d1 hnew X1
          go_upto_region 11 with fail
          go_upto_region 12 with (at_builtin; refine appendDgp (wr := w1) (pa := some ⟨dg, 0, none⟩) _ _ rowD1 (by omega) hw1 rfl rfl rfl rfl rfl ?_; intro g3 cap3 w2 o3 hg3 hn3 hl3; have X2 := HC.out.blk1 hb1 hg3; have f1 := X2.free 1; have xl := X2.lt; have x1 : w2.cell? ⟨w.heap.size, 1, none⟩ = some (.slice pd rs.length cd) := X2.cell 1)
          have X3 := X2.set 1 (.slice (some ⟨g3, 0, none⟩) (rs.length + 1) cap3)
          have x2 : World.cell? (w2.setCell ⟨w.heap.size, 1, none⟩ (.slice (some ⟨g3, 0, none⟩) (rs.length + 1) cap3)) ⟨w.heap.size, 2, none⟩ = some (.slice pb rs.length cb) := X3.cell 2
          have rowB3 := HC.out.rowB1 hb1 hg3 (.slice (some ⟨g3, 0, none⟩) (rs.length + 1) cap3)
          have hw3 : w.heap.size ≤ (w2.setCell ⟨w.heap.size, 1, none⟩ (.slice (some ⟨g3, 0, none⟩) (rs.length + 1) cap3)).heap.size := by have := hg3.size; simp; omega
          have hbw2 := hbw1.grown hg3 hw1 (fun j hj => (World.ownsRow.lt HC.out.rowD j hj).1)
          have hbw3 := hbw2.setCell (p := ⟨w.heap.size, 1, none⟩) nlr (.slice (some ⟨g3, 0, none⟩) (rs.length + 1) cap3)
          have HO := hid o3
          have HG := hid hg3
          clear X2 x1 f1 xl rowD1 o3 hg3 X3
          generalize hW3 : w2.setCell ⟨w.heap.size, 1, none⟩ (.slice (some ⟨g3, 0, none⟩) (rs.length + 1) cap3) = w3 at *
          have HW3 := hid (And.intro hW3 (show w3.heap.size = w2.heap.size by rw [← hW3]; simp))
          clear hW3
          go_wp2_with (at_builtin; refine appendBag (wr := w3) (b := l) (u := .slice none 0 0) _ _ rfl rowB3 (by omega) hw3 rfl rfl rfl rfl rfl ?_; intro g4 cap4 w4 o4 hg4 hn4 hl4; have X4 := HC.out.blk2 hb1 HG.out (.slice (some ⟨g3, 0, none⟩) (rs.length + 1) cap3) (by rw [HW3.out.1]; exact hg4); have f2 := X4.free 2; have xl := X4.lt; have x2 : w4.cell? ⟨w.heap.size, 2, none⟩ = some (.slice pb rs.length cb) := X4.cell 2)
          obtain ⟨hW3, hS3⟩ := HW3.out
          have C9 := Crowd.grow HC.out hb1 HD.out HN.out (by omega) (by omega) (fun _ => by omega) HO.out HG.out hn3 o4 (by rw [hW3]; exact hg4) (by rw [← hS3]; exact hn4)
          have T9 := HT.out.add (r := Rec.new dg q g' h (1 + J) k) (TI.nil HD.out.inv (fun x hx => by cases hx))
          have hbw4 := hbw3.grown hg4 hw3 (fun j hj => (World.ownsRow.lt HC.out.rowB j hj).1)
          have hbw5 := hbw4.setCell (p := ⟨w.heap.size, 2, none⟩) nlr (.slice (some ⟨g4, 0, none⟩) (rs.length + 1) cap4)
          have R9 : Hid (∀ i, i = Value.int .i64 ((rs.length : Nat) + 1 : Int) → BgRel l N w (N - (rs.length + 1)) i (w4.setCell ⟨w.heap.size, 2, none⟩ (.slice (some ⟨g4, 0, none⟩) (rs.length + 1) cap4))) := by
            intro i hi
            refine ⟨_, _, rs ++ [Rec.new dg q g' h (1 + J) k], ?_, ?_, ?_, C9, T9, hbw5⟩
            · rw [hi]; simp
            · simp; omega
            · simp; omega
          clear C9 T9 o4 hg4 hn4 hn3 hW3 hS3
          go_roundg (N - (rs.length + 1))
          case rel => exact R9.out _ (by go_num)
          case measure => omega
    · have e : rs.length = N := by omega
      have z0 : decide ((rs.length : Int) < (N : Int)) = false := decide_eq_false (by omega)
      have PP : Hid (BegunP l N w (.returned (.tuple #[.pointer (some ⟨w.heap.size, 0, none⟩), .bool true])) wr) := .inr ⟨_, vd, vb, rs, rfl, e, C, T, hbl⟩
      clear C T
      go_wp2_with fail
      go_ret2
      exact PP.out
end Go.Proofs.YtlciofheonbkiaaGreat
