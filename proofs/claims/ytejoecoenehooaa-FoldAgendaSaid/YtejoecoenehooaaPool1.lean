/- The walks of package pool: what a pool is; New, Kind, L, Len, Total, Get. -/
import Derived.Test.YtejoecoenehooaaPbSnap
namespace Go.Proofs.Ytejoecoenehooaa
open Go.RowKit Nl

namespace Nl
/-- A roll of a universe. -/
structure Roll (l : Int) (zs : List (Int × Int)) : Prop where
  l1 : 1 ≤ l
  l2 : l ≤ 48
  strict : Strict zs
  most : sumL zs ≤ 72057594037927935
  ids : ∀ x ∈ zs, rightB l x.1 = true
theorem Dv.roll {l u t : Int} {cs : List Int} (v : Dv l u t cs) : Roll l (snapF 0 cs) where
  l1 := v.l1
  l2 := by have := v.l2; omega
  strict := snapF_strict v.first
  most := by rw [snapF_sum 0 v.pos, ← v.tot]; exact v.most
  ids := fun x hx => by
    cases h : rightB l x.1
    · exact absurd rfl (right_no v h x hx)
    · rfl
theorem Pv.roll {l : Int} {b : Nat} {xs : List (Int × Int)} (v : Pv l b xs) : Roll l (snapP xs) where
  l1 := v.l1
  l2 := v.l2
  strict := snapP_strict v.tab
  most := by rw [snapP_sum v.tab]; exact v.most
  ids := fun x hx => by
    obtain ⟨i, hi, h1, h2, h3⟩ := snapP_mem.1 (show (x.1, x.2) ∈ snapP xs from hx)
    rw [← h1]; exact v.ids i (by omega)
theorem Roll.tot {l : Int} {zs : List (Int × Int)} (r : Roll l zs) : totV zs = sumL zs := totV_sum r.strict.pos r.most
theorem Roll.sum {l : Int} {zs : List (Int × Int)} (r : Roll l zs) : 0 ≤ sumL zs ∧ sumL zs ≤ 72057594037927935 := ⟨sumL_nonneg r.strict.pos, r.most⟩
theorem Roll.find {l : Int} {zs : List (Int × Int)} (r : Roll l zs) (id : Int) : 0 ≤ findL id zs ∧ findL id zs ≤ sumL zs := by
  obtain ⟨P, Q, e, _, _, h0⟩ := strict_split r.strict id
  refine ⟨h0, ?_⟩
  generalize findL id zs = v at *
  have hp := r.strict.pos
  rw [e] at hp ⊢
  rw [sumL_append, sumL_append]
  have h1 := sumL_nonneg (fun x hx => hp x (by simp [hx]) : Pos P)
  have h2 := sumL_nonneg (fun x hx => hp x (by simp [hx]) : Pos Q)
  by_cases h : 0 < v
  · rw [if_pos h]; simp [sumL]; omega
  · rw [if_neg h]; simp [sumL]; omega
theorem Roll.nil {l : Int} (h1 : 1 ≤ l) (h2 : l ≤ 48) : Roll l [] := ⟨h1, h2, ⟨List.Pairwise.nil, by simp⟩, by simp [sumL], by simp⟩
theorem Roll.add {l : Int} {zs : List (Int × Int)} (r : Roll l zs) (id c : Int) : Roll l (stAdd l zs id c).1 := by
  unfold stAdd
  split
  · exact r
  · rename_i h1
    split
    · exact r
    · rename_i h2
      rw [r.tot] at h2
      have hr : rightB l id = true := by
        cases h : rightB l id
        · exact absurd (.inl h) h1
        · rfl
      have hc : 0 ≤ c := by
        by_cases h : c < 0
        · exact absurd (.inr h) h1
        · omega
      rw [foldL_add r.strict (right_pos hr) hc (by omega)]
      simp only [Option.getD_some]
      obtain ⟨a1, a2⟩ := addS_spec r.strict (right_pos hr) hc
      refine ⟨r.l1, r.l2, a1, by rw [addS_sum r.strict hc]; omega, fun x hx => ?_⟩
      rcases (a2 x.1 x.2).1 hx with ⟨_, h⟩ | ⟨h, _⟩
      · exact r.ids _ h
      · rw [h]; exact hr
theorem sum_filter {zs : List (Int × Int)} (p : Int × Int → Bool) (h : Pos zs) : sumL (zs.filter p) ≤ sumL zs := by
  induction zs with
  | nil => simp
  | cons x r ih =>
    have := ih h.tail
    have := h x (by simp)
    rw [List.filter_cons]
    split <;> simp only [sumL] <;> omega
theorem Roll.take {l : Int} {zs : List (Int × Int)} (r : Roll l zs) (id : Int) : Roll l (stTake zs id).1 := by
  unfold stTake
  have := sum_filter (fun x => decide (x.1 ≠ id)) r.strict.pos
  exact ⟨r.l1, r.l2, ⟨r.strict.1.filter _, fun x hx => r.strict.2 x (List.mem_filter.1 hx).1⟩, Int.le_trans this r.most, fun x hx => r.ids x (List.mem_filter.1 hx).1⟩
theorem Lim.add2 {l : Int} {b m m' : Nat} {xs : List (Int × Int)} (h : Lim m xs) (v : Pv l b xs) (hb : b + 1 ≤ 62) (id c : Int) (hm : m ≤ m') (ho : occ xs + 1 ≤ m') : Lim m' (pAdd l b xs id c).2 ∧ b ≤ (pAdd l b xs id c).1 := by
  unfold pAdd
  split
  · rename_i hc
    unfold pAddCode at hc
    split at hc
    · omega
    · rename_i h1
      have hr : rightB l id = true := by
        cases h3 : rightB l id
        · exact absurd (.inl h3) h1
        · rfl
      obtain ⟨t1, t2, t3, t4, t5, t6⟩ := addT_spec v.tab hb v.half (right_pos hr) (show 0 ≤ c by by_cases hq : c < 0; exact absurd (.inr hq) h1; omega)
      have := h.1
      have := h.2
      rcases t5 with ⟨e1, e2⟩ | ⟨e1, e2, e3, e4⟩
      · exact ⟨⟨by omega, by omega⟩, by omega⟩
      · exact ⟨⟨by omega, by omega⟩, by omega⟩
  · exact ⟨h.mono hm, Nat.le_refl _⟩
end Nl

/-- A pool: its block q, its store's block g, that of the cells h; its kind; at most m nodes so far; its nodes. -/
def PoolV (w : World) (q g h : Nat) (kind l : Int) (m : Nat) (zs : List Nd) : Prop :=
  (kind = 1 ∧ Blk w q #[.pointer (some ⟨g, 0, none⟩), .pointer none] 122 ∧ q ≠ g ∧ q ≠ h ∧ ∃ cs, DnV w g h l cs ∧ zs = snapF 0 cs) ∨
  (kind = 2 ∧ Blk w q #[.pointer none, .pointer (some ⟨g, 0, none⟩)] 122 ∧ q ≠ g ∧ q ≠ h ∧ ∃ b xs, PnV w g h l b xs ∧ Lim m xs ∧ 3 ≤ b ∧ zs = snapP xs)

section
variable {w w' : World} {q g h m : Nat} {kind l : Int} {zs : List Nd}
theorem PoolV.roll (d : PoolV w q g h kind l m zs) : Roll l zs := by
  rcases d with ⟨_, _, _, _, cs, ⟨u, t, _, v⟩, rfl⟩ | ⟨_, _, _, _, b, xs, ⟨_, v⟩, _, _, rfl⟩
  · exact v.roll
  · exact v.roll
theorem PoolV.len (d : PoolV w q g h kind l m zs) (hm : m ≤ 100000) : zs.length ≤ 400008 := by
  rcases d with ⟨_, _, _, _, cs, ⟨u, t, _, v⟩, rfl⟩ | ⟨_, _, _, _, b, xs, ⟨_, v⟩, hl, _, rfl⟩
  · have := snapF_length 0 cs; have := v.bound; omega
  · rw [snapP_length]; have := hl.1; omega
theorem PoolV.lt (d : PoolV w q g h kind l m zs) : q < w.heap.size ∧ g < w.heap.size ∧ h < w.heap.size ∧ q ≠ g ∧ q ≠ h ∧ g ≠ h := by
  rcases d with ⟨_, hb, h1, h2, cs, d, _⟩ | ⟨_, hb, h1, h2, b, xs, d, _⟩
  · obtain ⟨u, t, d, v⟩ := d; exact ⟨hb.lt, d.1.lt, d.2.1.lt, h1, h2, d.2.2⟩
  · exact ⟨hb.lt, d.1.lg, d.1.lh, h1, h2, d.1.ne⟩
theorem PoolV.keep (d : PoolV w q g h kind l m zs) (e1 : w'.heap[q]? = w.heap[q]?) (e2 : w'.heap[g]? = w.heap[g]?) (e3 : w'.heap[h]? = w.heap[h]?) : PoolV w' q g h kind l m zs := by
  rcases d with ⟨k, hb, h1, h2, cs, ⟨u, t, d, v⟩, e⟩ | ⟨k, hb, h1, h2, b, xs, ⟨⟨cap, rest, d1, d2, d3⟩, v⟩, r⟩
  · exact .inl ⟨k, hb.keep e1, h1, h2, cs, ⟨u, t, ⟨d.1.keep e2, d.2.1.keep e3, d.2.2⟩, v⟩, e⟩
  · exact .inr ⟨k, hb.keep e1, h1, h2, b, xs, ⟨⟨cap, rest, d1.keep e2, d2.keep e3, d3⟩, v⟩, r⟩
theorem PoolV.tch {g' h' : Nat} (d : PoolV w q g h kind l m zs) (tc : Tch g' h' w w') (e1 : g ≠ g' ∧ g ≠ h') (e2 : h ≠ g' ∧ h ≠ h') (e3 : q ≠ g' ∧ q ≠ h') : PoolV w' q g h kind l m zs := by
  obtain ⟨l1, l2, l3, _⟩ := d.lt
  exact d.keep (tc.block q l1 e3.1 e3.2) (tc.block g l2 e1.1 e1.2) (tc.block h l3 e2.1 e2.2)
theorem PoolV.below {B : Nat} (d : PoolV w q g h kind l m zs) (bl : Below B w w') (hB : w.heap.size ≤ B) : PoolV w' q g h kind l m zs := by
  obtain ⟨l1, l2, l3, _⟩ := d.lt
  exact d.keep (bl.block q (by omega)) (bl.block g (by omega)) (bl.block h (by omega))
theorem PoolV.mono {m' : Nat} (d : PoolV w q g h kind l m zs) (hm : m ≤ m') : PoolV w q g h kind l m' zs := by
  rcases d with d | ⟨k, hb, h1, h2, b, xs, p, lim, r⟩
  · exact .inl d
  · exact .inr ⟨k, hb, h1, h2, b, xs, p, lim.mono hm, r⟩
theorem PoolV.drewN (d : PoolV w q g h kind l m zs) (n : Nat) : PoolV (w.drewN n) q g h kind l m zs := d
end

set_option maxRecDepth 100000 in
set_option maxHeartbeats 1000000 in
theorem pl_kind {w : World} {q g h m : Nat} {kind l : Int} {zs : List Nd} (d : PoolV w q g h kind l m zs) :
    Calls Try.prog 113 #[.pointer (some ⟨q, 0, none⟩)] w fun e w' => e = .returned (.int .i64 kind) ∧ w = w' := by
  rcases d with ⟨rfl, hb, h1, h2, cs, d, _⟩ | ⟨rfl, hb, h1, h2, b, xs, d, _⟩
  all_goals
    have c0 := hb.cell 0
    have c1 := hb.cell 1
    simp at c0 c1
    go_enter Try.func113, Try.ntmps113
    go_wp2_with (go_at_call 87; go_in)
    go_ret
    exact ⟨rfl, rfl⟩

set_option maxRecDepth 100000 in
set_option maxHeartbeats 1000000 in
theorem pl_l {w : World} {q g h m : Nat} {kind l : Int} {zs : List Nd} (d : PoolV w q g h kind l m zs) :
    Calls Try.prog 84 #[.pointer (some ⟨q, 0, none⟩)] w fun e w' => e = .returned (.int .i64 l) ∧ w = w' := by
  rcases d with ⟨rfl, hb, h1, h2, cs, ⟨u, t, d, v⟩, _⟩ | ⟨rfl, hb, h1, h2, b, xs, d, _⟩
  · have c0 := hb.cell 0
    have c1 := hb.cell 1
    simp at c0 c1
    go_enter Try.func84, Try.ntmps84
    go_wp2_with (go_at_call 87; go_in)
    refine (d_l d).mono ?_
    rintro e w' ⟨rfl, rfl⟩
    go_wp2_with fail
    go_ret
    exact ⟨rfl, rfl⟩
  · have c0 := hb.cell 0
    have c1 := hb.cell 1
    simp at c0 c1
    go_enter Try.func84, Try.ntmps84
    go_wp2_with (first | (go_at_call 87; go_in) | (go_at_call 89; go_in))
    refine (p_l d.1).mono ?_
    rintro e w' ⟨rfl, rfl⟩
    go_wp2_with fail
    go_ret
    exact ⟨rfl, rfl⟩

set_option maxRecDepth 100000 in
set_option maxHeartbeats 1000000 in
theorem pl_len {w : World} {q g h m : Nat} {kind l : Int} {zs : List Nd} (d : PoolV w q g h kind l m zs) :
    Calls Try.prog 46 #[.pointer (some ⟨q, 0, none⟩)] w fun e w' => e = .returned (.int .i64 zs.length) ∧ w = w' := by
  rcases d with ⟨rfl, hb, h1, h2, cs, ⟨u, t, d, v⟩, rfl⟩ | ⟨rfl, hb, h1, h2, b, xs, d, _, _, rfl⟩
  · have hun : ((snapF 0 cs).length : Int) = u := (snapF_nnz 0 cs).trans v.used.symm
    rw [hun]
    clear hun v
    have c0 := hb.cell 0
    have c1 := hb.cell 1
    simp at c0 c1
    go_enter Try.func46, Try.ntmps46
    go_wp2_with (go_at_call 87; go_in)
    refine (d_len d).mono ?_
    rintro e w' ⟨rfl, rfl⟩
    go_wp2_with fail
    go_ret
    exact ⟨rfl, rfl⟩
  · rw [snapP_length]
    have c0 := hb.cell 0
    have c1 := hb.cell 1
    simp at c0 c1
    go_enter Try.func46, Try.ntmps46
    go_wp2_with (first | (go_at_call 87; go_in) | (go_at_call 89; go_in))
    refine (p_len d.1).mono ?_
    rintro e w' ⟨rfl, rfl⟩
    go_wp2_with fail
    go_ret
    exact ⟨rfl, rfl⟩

set_option maxRecDepth 100000 in
set_option maxHeartbeats 1000000 in
theorem pl_total {w : World} {q g h m : Nat} {kind l : Int} {zs : List Nd} (d : PoolV w q g h kind l m zs) :
    Calls Try.prog 44 #[.pointer (some ⟨q, 0, none⟩)] w fun e w' => e = .returned (.int .i64 (sumL zs)) ∧ w = w' := by
  rcases d with ⟨rfl, hb, h1, h2, cs, ⟨u, t, d, v⟩, rfl⟩ | ⟨rfl, hb, h1, h2, b, xs, d, _, _, rfl⟩
  · have hun : sumL (snapF 0 cs) = t := (snapF_sum 0 v.pos).trans v.tot.symm
    rw [hun]
    clear hun v
    have c0 := hb.cell 0
    have c1 := hb.cell 1
    simp at c0 c1
    go_enter Try.func44, Try.ntmps44
    go_wp2_with (go_at_call 87; go_in)
    refine (d_total d).mono ?_
    rintro e w' ⟨rfl, rfl⟩
    go_wp2_with fail
    go_ret
    exact ⟨rfl, rfl⟩
  · rw [snapP_sum d.2.tab]
    have c0 := hb.cell 0
    have c1 := hb.cell 1
    simp at c0 c1
    go_enter Try.func44, Try.ntmps44
    go_wp2_with (first | (go_at_call 87; go_in) | (go_at_call 89; go_in))
    refine (p_total d.1).mono ?_
    rintro e w' ⟨rfl, rfl⟩
    go_wp2_with fail
    go_ret
    exact ⟨rfl, rfl⟩

set_option maxRecDepth 100000 in
set_option maxHeartbeats 1000000 in
theorem pl_get {w : World} {q g h m : Nat} {kind l : Int} {zs : List Nd} (id : Int) (d : PoolV w q g h kind l m zs) (hm : m ≤ 100000) (bi : -9223372036854775808 ≤ id ∧ id ≤ 9223372036854775807) :
    Calls Try.prog 91 #[.pointer (some ⟨q, 0, none⟩), .int .i64 id] w fun e w' => e = .returned (.int .i64 (findL id zs)) ∧ Below w.heap.size w w' := by
  rcases d with ⟨rfl, hb, h1, h2, cs, ⟨u, t, d, v⟩, rfl⟩ | ⟨rfl, hb, h1, h2, b, xs, d, lim, hb3, rfl⟩
  · rw [find_snap v]
    have c0 := hb.cell 0
    have c1 := hb.cell 1
    simp at c0 c1
    go_enter Try.func91, Try.ntmps91
    go_wp2_with (go_at_call 87; go_in)
    refine (d_get id d v bi).mono ?_
    rintro e w' ⟨rfl, rfl⟩
    go_wp2_with fail
    go_ret
    exact ⟨rfl, Below.refl _ _⟩
  · have hbits := lim.bits d.2 hm
    rw [← get_snapP d.2]
    have c0 := hb.cell 0
    have c1 := hb.cell 1
    simp at c0 c1
    go_enter Try.func91, Try.ntmps91
    go_wp2_with (first | (go_at_call 87; go_in) | (go_at_call 89; go_in))
    refine (p_get id d (by omega) (by omega) bi).mono ?_
    rintro e w' ⟨rfl, hb'⟩
    go_wp2_with fail
    go_ret
    exact ⟨rfl, hb'⟩

/-- What a call leaves. -/
def PoolPost (q g h : Nat) (kind l : Int) (m : Nat) (r : List Nd × Int) (w : World) (e : Ending) (w' : World) : Prop :=
  e = .returned (.int .i64 r.2) ∧ ∃ h', PoolV w' q g h' kind l m r.1 ∧ (h' = h ∨ w.heap.size ≤ h') ∧ Tch g h w w'

set_option maxRecDepth 100000 in
set_option maxHeartbeats 1000000 in
theorem pl_add {w : World} {q g h m : Nat} {kind l : Int} {zs : List Nd} (m' : Nat) (id c : Int) (d : PoolV w q g h kind l m zs) (hm : m ≤ m') (hz : zs.length + 1 ≤ m') (hm' : m' ≤ 100000) (bi : -9223372036854775808 ≤ id ∧ id ≤ 9223372036854775807) (bc : -9223372036854775808 ≤ c ∧ c ≤ 9223372036854775807) :
    Calls Try.prog 86 #[.pointer (some ⟨q, 0, none⟩), .int .i64 id, .int .i64 c] w (PoolPost q g h kind l m' (stAdd l zs id c) w) := by
  rcases d with ⟨rfl, hb, h1, h2, cs, ⟨u, t, d, v⟩, rfl⟩ | ⟨rfl, hb, h1, h2, b, xs, d, lim, hb3, rfl⟩
  · rw [add_snap v]
    have c0 := hb.cell 0
    have c1 := hb.cell 1
    simp at c0 c1
    go_enter Try.func86, Try.ntmps86
    go_wp2_with (go_at_call 87; go_in)
    refine (d_add id c d v bi bc).mono ?_
    rintro e w' ⟨rfl, d', tc⟩
    go_wp2_with fail
    go_ret
    exact ⟨rfl, h, .inl ⟨rfl, hb.tch tc h1 h2, h1, h2, _, d', rfl⟩, .inl rfl, tc⟩
  · have hbits := lim.bits d.2 (by omega)
    have L := hid (lim.add2 d.2 (by omega) id c hm (by rw [snapP_length] at hz; exact hz))
    rw [add_snapP d.2 (by omega)]
    have hq := hb.lt
    have c0 := hb.cell 0
    have c1 := hb.cell 1
    simp at c0 c1
    go_enter Try.func86, Try.ntmps86
    go_wp2_with (first | (go_at_call 87; go_in) | (go_at_call 89; go_in))
    refine (p_add id c d (by omega) (by omega) bi bc).mono ?_
    rintro e w' ⟨rfl, h', d', hh, tc⟩
    go_wp2_with fail
    go_ret
    refine ⟨rfl, h', .inr ⟨rfl, hb.tch tc h1 h2, h1, ?_, _, _, d', L.out.1, by have := L.out.2; omega, rfl⟩, hh, tc⟩
    rcases hh with rfl | hh
    · exact h2
    · omega

set_option maxRecDepth 100000 in
set_option maxHeartbeats 1000000 in
theorem pl_take {w : World} {q g h m : Nat} {kind l : Int} {zs : List Nd} (id : Int) (d : PoolV w q g h kind l m zs) (hm : m ≤ 100000) (bi : -9223372036854775808 ≤ id ∧ id ≤ 9223372036854775807) :
    Calls Try.prog 85 #[.pointer (some ⟨q, 0, none⟩), .int .i64 id] w fun e w' => e = .returned (.int .i64 (stTake zs id).2) ∧ PoolV w' q g h kind l m (stTake zs id).1 ∧ Tch g h w w' := by
  rcases d with ⟨rfl, hb, h1, h2, cs, ⟨u, t, d, v⟩, rfl⟩ | ⟨rfl, hb, h1, h2, b, xs, d, lim, hb3, rfl⟩
  · rw [take_snap v]
    have c0 := hb.cell 0
    have c1 := hb.cell 1
    simp at c0 c1
    go_enter Try.func85, Try.ntmps85
    go_wp2_with (go_at_call 87; go_in)
    refine (d_take id d v bi).mono ?_
    rintro e w' ⟨rfl, d', tc⟩
    go_wp2_with fail
    go_ret
    exact ⟨rfl, .inl ⟨rfl, hb.tch tc h1 h2, h1, h2, _, d', rfl⟩, tc⟩
  · have hbits := lim.bits d.2 hm
    have L := hid (lim.take d.2 id)
    rw [take_snapP d.2]
    have c0 := hb.cell 0
    have c1 := hb.cell 1
    simp at c0 c1
    go_enter Try.func85, Try.ntmps85
    go_wp2_with (first | (go_at_call 87; go_in) | (go_at_call 89; go_in))
    refine (p_take id d (by omega) (by omega) bi).mono ?_
    rintro e w' ⟨rfl, d', tc⟩
    go_wp2_with fail
    go_ret
    exact ⟨rfl, .inr ⟨rfl, hb.tch tc h1 h2, h1, h2, _, _, d', L.out, hb3, rfl⟩, tc⟩

set_option maxRecDepth 100000 in
set_option maxHeartbeats 1000000 in
theorem pl_snap {w : World} {q g h m : Nat} {kind l : Int} {zs : List Nd} (d : PoolV w q g h kind l m zs) (hm : m ≤ 100000) :
    Calls Try.prog 30 #[.pointer (some ⟨q, 0, none⟩)] w (IsNodes zs w) := by
  rcases d with ⟨rfl, hb, h1, h2, cs, ⟨u, t, d, v⟩, rfl⟩ | ⟨rfl, hb, h1, h2, b, xs, d, lim, hb3, rfl⟩
  · have hcl := v.bound
    have c0 := hb.cell 0
    have c1 := hb.cell 1
    simp at c0 c1
    go_enter Try.func30, Try.ntmps30
    go_wp2_with (go_at_call 87; go_in)
    refine (d_snap d (by omega)).mono ?_
    rintro e w' ⟨v1, rfl, ho, hb'⟩
    go_wp2_with fail
    go_ret
    exact ⟨_, rfl, ho, hb'⟩
  · have hbits := lim.bits d.2 hm
    have c0 := hb.cell 0
    have c1 := hb.cell 1
    simp at c0 c1
    go_enter Try.func30, Try.ntmps30
    go_wp2_with (first | (go_at_call 87; go_in) | (go_at_call 89; go_in))
    refine (p_snap d.1 (by omega)).mono ?_
    rintro e w' ⟨v1, rfl, ho, hb'⟩
    go_wp2_with fail
    go_ret
    exact ⟨_, rfl, ho, hb'⟩

/-- Which pools there are. -/
def Nl.poolIs (kind l : Int) : Bool := decide ((kind = 1 ∧ 1 ≤ l ∧ l ≤ 16) ∨ (kind = 2 ∧ 1 ≤ l ∧ l ≤ 48))
def PoolNew (kind l : Int) (m : Nat) (zs : List Nd) (w : World) (e : Ending) (w' : World) : Prop :=
  ∃ q g h, e = .returned (.tuple #[.pointer (some ⟨q, 0, none⟩), .int .i64 0]) ∧ PoolV w' q g h kind l m zs ∧ w.heap.size ≤ q ∧ w.heap.size ≤ g ∧ w.heap.size ≤ h ∧ Below w.heap.size w w'
end Go.Proofs.Ytejoecoenehooaa
