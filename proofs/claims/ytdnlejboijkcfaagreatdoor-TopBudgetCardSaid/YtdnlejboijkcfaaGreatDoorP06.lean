/- Texts laid together. -/
import Derived.Test.YtdnlejboijkcfaaGreatDoorP05
import Derived.Test.YtdnlejboijkcfaaGreatDoorP01
/- Texts laid together: Pool1, Pool2, Pool3, Pool4, Pool5, Pool6, PoolIs. -/
/- The walks of package pool: what a pool is; New, Kind, L, Len, Total, Get. -/
namespace Go.Proofs.YtdnlejboijkcfaaGreatDoor
set_option maxHeartbeats 8000000
set_option maxRecDepth 100000
open Go.RowKit Nl
namespace Nl
structure Roll (l : Int) (zs : List (Int × Int)) : Prop where
  l1 : 1 ≤ l
  l2 : l ≤ 48
  strict : Strict zs
  most : sumL zs ≤ 72057594037927935
  ids : ∀ x ∈ zs, rightB l x.1 = true
theorem Dv.roll {l u t : Int} {cs : List Int} (v : Dv l u t cs) : Roll l (snapF 0 cs) where
  l1 := v.l1
  l2 := by have := v.l2; omega
  strict := snapF_strict v.first
  most := by rw [snapF_sum 0 v.pos, ← v.tot]; exact v.most
  ids := fun x hx => by
    cases h : rightB l x.1
    · exact absurd rfl (right_no v h x hx)
    · rfl
theorem Pv.roll {l : Int} {b : Nat} {xs : List (Int × Int)} (v : Pv l b xs) : Roll l (snapP xs) where
  l1 := v.l1
  l2 := v.l2
  strict := snapP_strict v.tab
  most := by rw [snapP_sum v.tab]; exact v.most
  ids := fun x hx => by
    obtain ⟨i, hi, h1, h2, h3⟩ := snapP_mem.1 (show (x.1, x.2) ∈ snapP xs from hx)
    rw [← h1]; exact v.ids i (by omega)
theorem Roll.tot {l : Int} {zs : List (Int × Int)} (r : Roll l zs) : totV zs = sumL zs := totV_sum r.strict.pos r.most
theorem Roll.sum {l : Int} {zs : List (Int × Int)} (r : Roll l zs) : 0 ≤ sumL zs ∧ sumL zs ≤ 72057594037927935 := ⟨sumL_nonneg r.strict.pos, r.most⟩
theorem Roll.find {l : Int} {zs : List (Int × Int)} (r : Roll l zs) (id : Int) : 0 ≤ findL id zs ∧ findL id zs ≤ sumL zs := by
  obtain ⟨P, Q, e, _, _, h0⟩ := strict_split r.strict id
  refine ⟨h0, ?_⟩
  generalize findL id zs = v at *
  have hp := r.strict.pos
  rw [e] at hp ⊢
  rw [sumL_append, sumL_append]
  have h1 := sumL_nonneg (fun x hx => hp x (by simp [hx]) : Pos P)
  have h2 := sumL_nonneg (fun x hx => hp x (by simp [hx]) : Pos Q)
  by_cases h : 0 < v
  · rw [if_pos h]; simp [sumL]; omega
  · rw [if_neg h]; simp [sumL]; omega
theorem Roll.nil {l : Int} (h1 : 1 ≤ l) (h2 : l ≤ 48) : Roll l [] := ⟨h1, h2, ⟨List.Pairwise.nil, by simp⟩, by simp [sumL], by simp⟩
theorem Roll.add {l : Int} {zs : List (Int × Int)} (r : Roll l zs) (id c : Int) : Roll l (stAdd l zs id c).1 := by
  unfold stAdd
  split
  · exact r
  · rename_i h1
    split
    · exact r
    · rename_i h2
      rw [r.tot] at h2
      have hr : rightB l id = true := by
        cases h : rightB l id
        · exact absurd (.inl h) h1
        · rfl
      have hc : 0 ≤ c := by
        by_cases h : c < 0
        · exact absurd (.inr h) h1
        · omega
      rw [foldL_add r.strict (right_pos hr) hc (by omega)]
      simp only [Option.getD_some]
      obtain ⟨a1, a2⟩ := addS_spec r.strict (right_pos hr) hc
      refine ⟨r.l1, r.l2, a1, by rw [addS_sum r.strict hc]; omega, fun x hx => ?_⟩
      rcases (a2 x.1 x.2).1 hx with ⟨_, h⟩ | ⟨h, _⟩
      · exact r.ids _ h
      · rw [h]; exact hr
theorem sum_filter {zs : List (Int × Int)} (p : Int × Int → Bool) (h : Pos zs) : sumL (zs.filter p) ≤ sumL zs := by
  induction zs with
  | nil => simp
  | cons x r ih =>
    have := ih h.tail
    have := h x (by simp)
    rw [List.filter_cons]
    split <;> simp only [sumL] <;> omega
theorem Roll.take {l : Int} {zs : List (Int × Int)} (r : Roll l zs) (id : Int) : Roll l (stTake zs id).1 := by
  unfold stTake
  have := sum_filter (fun x => decide (x.1 ≠ id)) r.strict.pos
  exact ⟨r.l1, r.l2, ⟨r.strict.1.filter _, fun x hx => r.strict.2 x (List.mem_filter.1 hx).1⟩, Int.le_trans this r.most, fun x hx => r.ids x (List.mem_filter.1 hx).1⟩
theorem Lim.add2 {l : Int} {b m m' : Nat} {xs : List (Int × Int)} (h : Lim m xs) (v : Pv l b xs) (hb : b + 1 ≤ 62) (id c : Int) (hm : m ≤ m') (ho : occ xs + 1 ≤ m') : Lim m' (pAdd l b xs id c).2 ∧ b ≤ (pAdd l b xs id c).1 := by
  unfold pAdd
  split
  · rename_i hc
    unfold pAddCode at hc
    split at hc
    · omega
    · rename_i h1
      have hr : rightB l id = true := by
        cases h3 : rightB l id
        · exact absurd (.inl h3) h1
        · rfl
      obtain ⟨t1, t2, t3, t4, t5, t6⟩ := addT_spec v.tab hb v.half (right_pos hr) (show 0 ≤ c by by_cases hq : c < 0; exact absurd (.inr hq) h1; omega)
      have := h.1
      have := h.2
      rcases t5 with ⟨e1, e2⟩ | ⟨e1, e2, e3, e4⟩
      · exact ⟨⟨by omega, by omega⟩, by omega⟩
      · exact ⟨⟨by omega, by omega⟩, by omega⟩
  · exact ⟨h.mono hm, nlr⟩
end Nl
def PoolV (w : World) (q g h : Nat) (kind l : Int) (m : Nat) (zs : List Nd) : Prop :=
  (kind = 1 ∧ Blk w q #[.pointer (some ⟨g, 0, none⟩), .pointer none] 172 ∧ q ≠ g ∧ q ≠ h ∧ ∃ cs, DnV w g h l cs ∧ zs = snapF 0 cs) ∨
  (kind = 2 ∧ Blk w q #[.pointer none, .pointer (some ⟨g, 0, none⟩)] 172 ∧ q ≠ g ∧ q ≠ h ∧ ∃ b xs, PnV w g h l b xs ∧ Lim m xs ∧ 3 ≤ b ∧ zs = snapP xs)
section
variable {w w' : World} {q g h m : Nat} {kind l : Int} {zs : List Nd}
theorem PoolV.roll (d : PoolV w q g h kind l m zs) : Roll l zs := by
  rcases d with ⟨_, _, _, _, cs, ⟨u, t, _, v⟩, rfl⟩ | ⟨_, _, _, _, b, xs, ⟨_, v⟩, _, _, rfl⟩
  · exact v.roll
  · exact v.roll
theorem PoolV.len (d : PoolV w q g h kind l m zs) (hm : m ≤ 100000) : zs.length ≤ 400008 := by
  rcases d with ⟨_, _, _, _, cs, ⟨u, t, _, v⟩, rfl⟩ | ⟨_, _, _, _, b, xs, ⟨_, v⟩, hl, _, rfl⟩
  · have := snapF_length 0 cs; have := v.bound; omega
  · rw [snapP_length]; have := hl.1; omega
theorem PoolV.lt (d : PoolV w q g h kind l m zs) : q < w.heap.size ∧ g < w.heap.size ∧ h < w.heap.size ∧ q ≠ g ∧ q ≠ h ∧ g ≠ h := by
  rcases d with ⟨_, hb, h1, h2, cs, d, _⟩ | ⟨_, hb, h1, h2, b, xs, d, _⟩
  · obtain ⟨u, t, d, v⟩ := d; exact ⟨hb.lt, d.1.lt, d.2.1.lt, h1, h2, d.2.2⟩
  · exact ⟨hb.lt, d.1.lg, d.1.lh, h1, h2, d.1.ne⟩
theorem PoolV.keep (d : PoolV w q g h kind l m zs) (e1 : w'.heap[q]? = w.heap[q]?) (e2 : w'.heap[g]? = w.heap[g]?) (e3 : w'.heap[h]? = w.heap[h]?) : PoolV w' q g h kind l m zs := by
  rcases d with ⟨k, hb, h1, h2, cs, ⟨u, t, d, v⟩, e⟩ | ⟨k, hb, h1, h2, b, xs, ⟨⟨cap, rest, d1, d2, d3⟩, v⟩, r⟩
  · exact .inl ⟨k, hb.keep e1, h1, h2, cs, ⟨u, t, ⟨d.1.keep e2, d.2.1.keep e3, d.2.2⟩, v⟩, e⟩
  · exact .inr ⟨k, hb.keep e1, h1, h2, b, xs, ⟨⟨cap, rest, d1.keep e2, d2.keep e3, d3⟩, v⟩, r⟩
theorem PoolV.below {B : Nat} (d : PoolV w q g h kind l m zs) (bl : Below B w w') (hB : w.heap.size ≤ B) : PoolV w' q g h kind l m zs := by
  obtain ⟨l1, l2, l3, _⟩ := d.lt
  exact d.keep (bl.block q (by omega)) (bl.block g (by omega)) (bl.block h (by omega))
theorem PoolV.mono {m' : Nat} (d : PoolV w q g h kind l m zs) (hm : m ≤ m') : PoolV w q g h kind l m' zs := by
  rcases d with d | ⟨k, hb, h1, h2, b, xs, p, lim, r⟩
  · exact .inl d
  · exact .inr ⟨k, hb, h1, h2, b, xs, p, lim.mono hm, r⟩
end
theorem pl_kind {w : World} {q g h m : Nat} {kind l : Int} {zs : List Nd} (d : PoolV w q g h kind l m zs) :
    Calls Tryz.prog 121 #[.pointer (some ⟨q, 0, none⟩)] w fun e w' => e = .returned (.int .i64 kind) ∧ w = w' := by
  rcases d with ⟨rfl, hb, h1, h2, cs, d, _⟩ | ⟨rfl, hb, h1, h2, b, xs, d, _⟩
  all_goals
    have c0 := hb.cell 0
    have c1 := hb.cell 1
    simp at c0 c1
    go_enter Tryz.func121, Tryz.ntmps121
    go_wp2_with (go_at_call 98; go_in)
    go_ret
    exact ⟨rfl, rfl⟩
theorem pl_l {w : World} {q g h m : Nat} {kind l : Int} {zs : List Nd} (d : PoolV w q g h kind l m zs) :
    Calls Tryz.prog 59 #[.pointer (some ⟨q, 0, none⟩)] w fun e w' => e = .returned (.int .i64 l) ∧ w = w' := by
  rcases d with ⟨rfl, hb, h1, h2, cs, ⟨u, t, d, v⟩, _⟩ | ⟨rfl, hb, h1, h2, b, xs, d, _⟩
  · have c0 := hb.cell 0
    have c1 := hb.cell 1
    simp at c0 c1
    go_enter Tryz.func59, Tryz.ntmps59
    go_wp2_with (go_at_call 98; go_in)
    refine (d_l d).mono ?_
    rintro e w' ⟨rfl, rfl⟩
    go_wp2_with fail
    go_ret
    exact ⟨rfl, rfl⟩
  · have c0 := hb.cell 0
    have c1 := hb.cell 1
    simp at c0 c1
    go_enter Tryz.func59, Tryz.ntmps59
    go_wp2_with (first | (go_at_call 98; go_in) | (go_at_call 100; go_in))
    refine (p_l d.1).mono ?_
    rintro e w' ⟨rfl, rfl⟩
    go_wp2_with fail
    go_ret
    exact ⟨rfl, rfl⟩
theorem pl_len {w : World} {q g h m : Nat} {kind l : Int} {zs : List Nd} (d : PoolV w q g h kind l m zs) :
    Calls Tryz.prog 117 #[.pointer (some ⟨q, 0, none⟩)] w fun e w' => e = .returned (.int .i64 zs.length) ∧ w = w' := by
  rcases d with ⟨rfl, hb, h1, h2, cs, ⟨u, t, d, v⟩, rfl⟩ | ⟨rfl, hb, h1, h2, b, xs, d, _, _, rfl⟩
  · have hun : ((snapF 0 cs).length : Int) = u := (snapF_nnz 0 cs).trans v.used.symm
    rw [hun]
    clear hun v
    have c0 := hb.cell 0
    have c1 := hb.cell 1
    simp at c0 c1
    go_enter Tryz.func117, Tryz.ntmps117
    go_wp2_with (go_at_call 98; go_in)
    refine (d_len d).mono ?_
    rintro e w' ⟨rfl, rfl⟩
    go_wp2_with fail
    go_ret
    exact ⟨rfl, rfl⟩
  · rw [snapP_length]
    have c0 := hb.cell 0
    have c1 := hb.cell 1
    simp at c0 c1
    go_enter Tryz.func117, Tryz.ntmps117
    go_wp2_with (first | (go_at_call 98; go_in) | (go_at_call 100; go_in))
    refine (p_len d.1).mono ?_
    rintro e w' ⟨rfl, rfl⟩
    go_wp2_with fail
    go_ret
    exact ⟨rfl, rfl⟩
theorem pl_total {w : World} {q g h m : Nat} {kind l : Int} {zs : List Nd} (d : PoolV w q g h kind l m zs) :
    Calls Tryz.prog 46 #[.pointer (some ⟨q, 0, none⟩)] w fun e w' => e = .returned (.int .i64 (sumL zs)) ∧ w = w' := by
  rcases d with ⟨rfl, hb, h1, h2, cs, ⟨u, t, d, v⟩, rfl⟩ | ⟨rfl, hb, h1, h2, b, xs, d, _, _, rfl⟩
  · have hun : sumL (snapF 0 cs) = t := (snapF_sum 0 v.pos).trans v.tot.symm
    rw [hun]
    clear hun v
    have c0 := hb.cell 0
    have c1 := hb.cell 1
    simp at c0 c1
    go_enter Tryz.func46, Tryz.ntmps46
    go_wp2_with (go_at_call 98; go_in)
    refine (d_total d).mono ?_
    rintro e w' ⟨rfl, rfl⟩
    go_wp2_with fail
    go_ret
    exact ⟨rfl, rfl⟩
  · rw [snapP_sum d.2.tab]
    have c0 := hb.cell 0
    have c1 := hb.cell 1
    simp at c0 c1
    go_enter Tryz.func46, Tryz.ntmps46
    go_wp2_with (first | (go_at_call 98; go_in) | (go_at_call 100; go_in))
    refine (p_total d.1).mono ?_
    rintro e w' ⟨rfl, rfl⟩
    go_wp2_with fail
    go_ret
    exact ⟨rfl, rfl⟩
theorem pl_get {w : World} {q g h m : Nat} {kind l : Int} {zs : List Nd} (id : Int) (d : PoolV w q g h kind l m zs) (hm : m ≤ 100000) (bi : -9223372036854775808 ≤ id ∧ id ≤ 9223372036854775807) :
    Calls Tryz.prog 60 #[.pointer (some ⟨q, 0, none⟩), .int .i64 id] w fun e w' => e = .returned (.int .i64 (findL id zs)) ∧ Below w.heap.size w w' := by
  rcases d with ⟨rfl, hb, h1, h2, cs, ⟨u, t, d, v⟩, rfl⟩ | ⟨rfl, hb, h1, h2, b, xs, d, lim, hb3, rfl⟩
  · rw [find_snap v]
    have c0 := hb.cell 0
    have c1 := hb.cell 1
    simp at c0 c1
    go_enter Tryz.func60, Tryz.ntmps60
    go_wp2_with (go_at_call 98; go_in)
    refine (d_get id d v bi).mono ?_
    rintro e w' ⟨rfl, rfl⟩
    go_wp2_with fail
    go_ret
    exact ⟨rfl, Below.refl _ _⟩
  · have hbits := lim.bits d.2 hm
    rw [← get_snapP d.2]
    have c0 := hb.cell 0
    have c1 := hb.cell 1
    simp at c0 c1
    go_enter Tryz.func60, Tryz.ntmps60
    go_wp2_with (first | (go_at_call 98; go_in) | (go_at_call 100; go_in))
    refine (p_get id d (by omega) (by omega) bi).mono ?_
    rintro e w' ⟨rfl, hb'⟩
    go_wp2_with fail
    go_ret
    exact ⟨rfl, hb'⟩
def PoolPost (q g h : Nat) (kind l : Int) (m : Nat) (r : List Nd × Int) (w : World) (e : Ending) (w' : World) : Prop :=
  e = .returned (.int .i64 r.2) ∧ ∃ h', PoolV w' q g h' kind l m r.1 ∧ (h' = h ∨ w.heap.size ≤ h') ∧ Tch g h w w'
theorem pl_add {w : World} {q g h m : Nat} {kind l : Int} {zs : List Nd} (m' : Nat) (id c : Int) (d : PoolV w q g h kind l m zs) (hm : m ≤ m') (hz : zs.length + 1 ≤ m') (hm' : m' ≤ 100000) (bi : -9223372036854775808 ≤ id ∧ id ≤ 9223372036854775807) (bc : -9223372036854775808 ≤ c ∧ c ≤ 9223372036854775807) :
    Calls Tryz.prog 64 #[.pointer (some ⟨q, 0, none⟩), .int .i64 id, .int .i64 c] w (PoolPost q g h kind l m' (stAdd l zs id c) w) := by
  rcases d with ⟨rfl, hb, h1, h2, cs, ⟨u, t, d, v⟩, rfl⟩ | ⟨rfl, hb, h1, h2, b, xs, d, lim, hb3, rfl⟩
  · rw [add_snap v]
    have c0 := hb.cell 0
    have c1 := hb.cell 1
    simp at c0 c1
    go_enter Tryz.func64, Tryz.ntmps64
    go_wp2_with (go_at_call 98; go_in)
    refine (d_add id c d v bi bc).mono ?_
    rintro e w' ⟨rfl, d', tc⟩
    go_wp2_with fail
    go_ret
    exact ⟨rfl, h, .inl ⟨rfl, hb.tch tc h1 h2, h1, h2, _, d', rfl⟩, .inl rfl, tc⟩
  · have hbits := lim.bits d.2 (by omega)
    have L := hid (lim.add2 d.2 (by omega) id c hm (by rw [snapP_length] at hz; exact hz))
    rw [add_snapP d.2 (by omega)]
    have hq := hb.lt
    have c0 := hb.cell 0
    have c1 := hb.cell 1
    simp at c0 c1
    go_enter Tryz.func64, Tryz.ntmps64
    go_wp2_with (first | (go_at_call 98; go_in) | (go_at_call 100; go_in))
    refine (p_add id c d (by omega) (by omega) bi bc).mono ?_
    rintro e w' ⟨rfl, h', d', hh, tc⟩
    go_wp2_with fail
    go_ret
    refine ⟨rfl, h', .inr ⟨rfl, hb.tch tc h1 h2, h1, ?_, _, _, d', L.out.1, by have := L.out.2; omega, rfl⟩, hh, tc⟩
    rcases hh with rfl | hh
    · exact h2
    · omega
theorem pl_take {w : World} {q g h m : Nat} {kind l : Int} {zs : List Nd} (id : Int) (d : PoolV w q g h kind l m zs) (hm : m ≤ 100000) (bi : -9223372036854775808 ≤ id ∧ id ≤ 9223372036854775807) :
    Calls Tryz.prog 219 #[.pointer (some ⟨q, 0, none⟩), .int .i64 id] w fun e w' => e = .returned (.int .i64 (stTake zs id).2) ∧ PoolV w' q g h kind l m (stTake zs id).1 ∧ Tch g h w w' := by
  rcases d with ⟨rfl, hb, h1, h2, cs, ⟨u, t, d, v⟩, rfl⟩ | ⟨rfl, hb, h1, h2, b, xs, d, lim, hb3, rfl⟩
  · rw [take_snap v]
    have c0 := hb.cell 0
    have c1 := hb.cell 1
    simp at c0 c1
    go_enter Tryz.func219, Tryz.ntmps219
    go_wp2_with (go_at_call 98; go_in)
    refine (d_take id d v bi).mono ?_
    rintro e w' ⟨rfl, d', tc⟩
    go_wp2_with fail
    go_ret
    exact ⟨rfl, .inl ⟨rfl, hb.tch tc h1 h2, h1, h2, _, d', rfl⟩, tc⟩
  · have hbits := lim.bits d.2 hm
    have L := hid (lim.take d.2 id)
    rw [take_snapP d.2]
    have c0 := hb.cell 0
    have c1 := hb.cell 1
    simp at c0 c1
    go_enter Tryz.func219, Tryz.ntmps219
    go_wp2_with (first | (go_at_call 98; go_in) | (go_at_call 100; go_in))
    refine (p_take id d (by omega) (by omega) bi).mono ?_
    rintro e w' ⟨rfl, d', tc⟩
    go_wp2_with fail
    go_ret
    exact ⟨rfl, .inr ⟨rfl, hb.tch tc h1 h2, h1, h2, _, _, d', L.out, hb3, rfl⟩, tc⟩
theorem pl_snap {w : World} {q g h m : Nat} {kind l : Int} {zs : List Nd} (d : PoolV w q g h kind l m zs) (hm : m ≤ 100000) :
    Calls Tryz.prog 122 #[.pointer (some ⟨q, 0, none⟩)] w (IsNodes zs w) := by
  rcases d with ⟨rfl, hb, h1, h2, cs, ⟨u, t, d, v⟩, rfl⟩ | ⟨rfl, hb, h1, h2, b, xs, d, lim, hb3, rfl⟩
  · have hcl := v.bound
    have c0 := hb.cell 0
    have c1 := hb.cell 1
    simp at c0 c1
    go_enter Tryz.func122, Tryz.ntmps122
    go_wp2_with (go_at_call 98; go_in)
    refine (d_snap d (by omega)).mono ?_
    rintro e w' ⟨v1, rfl, ho, hb'⟩
    go_wp2_with fail
    go_ret
    exact ⟨_, rfl, ho, hb'⟩
  · have hbits := lim.bits d.2 hm
    have c0 := hb.cell 0
    have c1 := hb.cell 1
    simp at c0 c1
    go_enter Tryz.func122, Tryz.ntmps122
    go_wp2_with (first | (go_at_call 98; go_in) | (go_at_call 100; go_in))
    refine (p_snap d.1 (by omega)).mono ?_
    rintro e w' ⟨v1, rfl, ho, hb'⟩
    go_wp2_with fail
    go_ret
    exact ⟨_, rfl, ho, hb'⟩
def Nl.poolIs (kind l : Int) : Bool := decide ((kind = 1 ∧ 1 ≤ l ∧ l ≤ 16) ∨ (kind = 2 ∧ 1 ≤ l ∧ l ≤ 48))
def PoolNew (kind l : Int) (m : Nat) (zs : List Nd) (w : World) (e : Ending) (w' : World) : Prop :=
  ∃ q g h, e = .returned (.tuple #[.pointer (some ⟨q, 0, none⟩), .int .i64 0]) ∧ PoolV w' q g h kind l m zs ∧ w.heap.size ≤ q ∧ w.heap.size ≤ g ∧ w.heap.size ≤ h ∧ Below w.heap.size w w'
end Go.Proofs.YtdnlejboijkcfaaGreatDoor
/- The walks of package pool: New, Clone; a pool that is nil. -/
namespace Go.Proofs.YtdnlejboijkcfaaGreatDoor
set_option maxHeartbeats 8000000
set_option maxRecDepth 100000
open Go.RowKit Nl
theorem snap_zeros (k n : Nat) : snapF k (List.replicate n (0 : Int)) = [] := by
  induction n generalizing k with
  | zero => rfl
  | succ n ih => simp [List.replicate_succ, snapF, ih]
theorem snapP_zeros : snapP (List.replicate 8 ((0 : Int), (0 : Int))) = [] := by decide
theorem pl_new (kind l : Int) (w : World) (hk : poolIs kind l = true) :
    Calls Tryz.prog 57 #[.int .i64 kind, .int .i64 l] w (PoolNew kind l 0 [] w) := by
  simp only [poolIs, decide_eq_true_eq] at hk
  rcases hk with ⟨rfl, hl1, hl2⟩ | ⟨rfl, hl1, hl2⟩
  · have N := fun W : World => hid (d_new l W hl1 hl2)
    have hba : Below w.heap.size w (w.alloc (.cells #[.pointer none, .pointer none] 172)) := (Below.refl _ _).alloc nlr _
    go_enter Tryz.func57, Tryz.ntmps57
    go_wp2_with fail
    refine (N _).out.mono ?_
    rintro e w1 ⟨g, h, rfl, d, hg, hh, hb1⟩
    have X := (Blk.new w #[.pointer none, .pointer none] 172).below hb1 nlr
    have hs1 := hb1.size
    simp only [World.size_alloc] at hs1 hg hh
    have f0 := X.free 0
    have x0 : w1.cell? ⟨w.heap.size, 0, none⟩ = some (.pointer none) := X.cell 0
    go_wp2_with fail
    go_ret2
    refine ⟨w.heap.size, g, h, rfl, .inl ⟨rfl, ?_, by omega, by omega, _, d.tch (Tch.set1 (g := w.heap.size) (h := w.heap.size) w1 0 _) (by omega) (by omega) (by omega) (by omega), (snap_zeros _ _).symm⟩, nlr, by omega, by omega, (hba.trans (hb1.mono (by simp))).trans ((Below.refl _ _).setCell (p := ⟨w.heap.size, 0, none⟩) nlr _)⟩
    have X2 := X.set 0 (.pointer (some ⟨g, 0, none⟩))
    simpa using X2
  · have N := fun W : World => hid (p_new l W hl1 hl2)
    have hba : Below w.heap.size w (w.alloc (.cells #[.pointer none, .pointer none] 172)) := (Below.refl _ _).alloc nlr _
    go_enter Tryz.func57, Tryz.ntmps57
    go_wp2_with fail
    refine (N _).out.mono ?_
    rintro e w1 ⟨g, h, rfl, d, hg, hh, hb1⟩
    have X := (Blk.new w #[.pointer none, .pointer none] 172).below hb1 nlr
    have hs1 := hb1.size
    simp only [World.size_alloc] at hs1 hg hh
    have f0 := X.free 1
    have x0 : w1.cell? ⟨w.heap.size, 1, none⟩ = some (.pointer none) := X.cell 1
    go_wp2_with fail
    go_ret2
    refine ⟨w.heap.size, g, h, rfl, .inr ⟨rfl, ?_, by omega, by omega, _, _, d.tch (Tch.set1 (g := w.heap.size) (h := w.heap.size) w1 1 _) (by omega) (by omega) (by omega) (by omega), Lim.new, nlr, snapP_zeros.symm⟩, nlr, by omega, by omega, (hba.trans (hb1.mono (by simp))).trans ((Below.refl _ _).setCell (p := ⟨w.heap.size, 1, none⟩) nlr _)⟩
    have X2 := X.set 1 (.pointer (some ⟨g, 0, none⟩))
    simpa using X2
theorem pl_new_no (kind l : Int) (w : World) (hk : poolIs kind l = false) :
    Calls Tryz.prog 57 #[.int .i64 kind, .int .i64 l] w fun e w' => e = .returned (.tuple #[.pointer none, .int .i64 2]) ∧ Below w.heap.size w w' := by
  simp only [poolIs, decide_eq_false_iff_not] at hk
  have hba : Below w.heap.size w (w.alloc (.cells #[.pointer none, .pointer none] 172)) := (Below.refl _ _).alloc nlr _
  by_cases h1 : kind = 1
  · subst h1
    have N := fun W : World => hid (d_new_no l W (by omega))
    clear hk
    go_enter Tryz.func57, Tryz.ntmps57
    go_wp2_with fail
    refine (N _).out.mono ?_
    rintro e w1 ⟨rfl, rfl⟩
    go_wp2_with fail
    go_ret2
    exact ⟨rfl, hba⟩
  · by_cases h2 : kind = 2
    · subst h2
      have N := fun W : World => hid (p_new_no l W (by omega))
      clear hk h1
      go_enter Tryz.func57, Tryz.ntmps57
      go_wp2_with fail
      refine (N _).out.mono ?_
      rintro e w1 ⟨rfl, rfl⟩
      go_wp2_with fail
      go_ret2
      exact ⟨rfl, hba⟩
    · have k1 : (kind == 1) = false := by simpa using h1
      have k2 : (kind == 2) = false := by simpa using h2
      clear hk h1 h2
      go_enter Tryz.func57, Tryz.ntmps57
      go_wp2_with fail
      go_ret2
      exact ⟨rfl, hba⟩
end Go.Proofs.YtdnlejboijkcfaaGreatDoor
/- Rolls: the walks of roll.Right, roll.Total, and the reference's Right. -/
namespace Go.Proofs.YtdnlejboijkcfaaGreatDoor
set_option maxHeartbeats 8000000
set_option maxRecDepth 100000
open Go.RowKit Nl
namespace Nl
def risesF (l : Int) : Int → List (Int × Int) → Bool
  | _, [] => true
  | last, x :: r => if x.1 ≤ last ∨ rightB l x.1 = false ∨ x.2 < 1 then false else risesF l x.1 r
def rollB (l : Int) (zs : List (Int × Int)) : Bool := risesF l 0 zs && totOk zs && decide (1 ≤ l ∧ l ≤ 48)
theorem risesF_iff {l last : Int} {zs : List (Int × Int)} : risesF l last zs = true ↔ zs.Pairwise (fun a b => a.1 < b.1) ∧ ∀ x ∈ zs, last < x.1 ∧ rightB l x.1 = true ∧ 1 ≤ x.2 := by
  induction zs generalizing last with
  | nil => simp [risesF]
  | cons x r ih =>
    rw [risesF]
    by_cases h : x.1 ≤ last ∨ rightB l x.1 = false ∨ x.2 < 1
    · rw [if_pos h]
      simp only [Bool.false_eq_true, false_iff]
      rintro ⟨_, h2⟩
      obtain ⟨a, b, c⟩ := h2 x (by simp)
      rcases h with h | h | h
      · omega
      · rw [b] at h; cases h
      · omega
    · rw [if_neg h, ih, List.pairwise_cons]
      simp only [not_or, Bool.not_eq_false] at h
      constructor
      · rintro ⟨h1, h2⟩
        refine ⟨⟨fun y hy => (h2 y hy).1, h1⟩, fun y hy => ?_⟩
        cases hy with
        | head => exact ⟨by omega, h.2.1, by omega⟩
        | tail _ hy => obtain ⟨a, b, c⟩ := h2 y hy; exact ⟨by omega, b, c⟩
      · rintro ⟨⟨h1, h2⟩, h3⟩
        exact ⟨h2, fun y hy => ⟨h1 y hy, (h3 y (List.mem_cons_of_mem _ hy)).2⟩⟩
theorem rollB_iff {l : Int} {zs : List (Int × Int)} : rollB l zs = true ↔ Roll l zs := by
  unfold rollB
  simp only [Bool.and_eq_true, decide_eq_true_eq, risesF_iff]
  constructor
  · rintro ⟨⟨⟨h1, h2⟩, h3⟩, h4, h5⟩
    have hs : Strict zs := ⟨h1, fun x hx => by obtain ⟨a, b, c⟩ := h2 x hx; exact ⟨by omega, by omega⟩⟩
    refine ⟨h4, h5, hs, ?_, fun x hx => (h2 x hx).2.1⟩
    obtain ⟨m, hm⟩ := Option.isSome_iff_exists.1 h3
    have e1 := (totF_sum hm).1
    have e2 := (totF_bd (by omega) hm).2
    omega
  · intro r
    refine ⟨⟨⟨r.strict.1, fun x hx => ?_⟩, ?_⟩, r.l1, r.l2⟩
    · have := r.strict.2 x hx; exact ⟨by omega, r.ids x hx, by omega⟩
    · unfold totOk; rw [totF_pos r.strict.pos (by have := r.most; omega)]; rfl
end Nl
end Go.Proofs.YtdnlejboijkcfaaGreatDoor
/- The walks of roll.Total, roll.Right and the reference's Right. -/
namespace Go.Proofs.YtdnlejboijkcfaaGreatDoor
set_option maxHeartbeats 8000000
set_option maxRecDepth 100000
open Go.RowKit Nl
def OTotRel (w : World) (xs : List Nd) (n i : Value) (wr : World) : Prop :=
  ∃ (k : Nat) (t : Int), i = .int .i64 k ∧ n = .int .i64 t ∧ k ≤ xs.length ∧ 0 ≤ t ∧ t ≤ 72057594037927935 ∧ Hid (totF 0 xs = totF t (xs.drop k)) ∧ Below w.heap.size w wr
theorem o_total {v : Value} {xs : List Nd} (w : World) (hr : RdN w v xs) (hn : NB xs) (hl : xs.length ≤ 9223372036854775807) :
    Calls Tryz.prog 229 #[v] w fun e w' => e = .returned (.tuple #[.int .i64 (totV xs), .bool (totOk xs)]) ∧ Below w.heap.size w w' := by
  obtain ⟨p, cap, rfl⟩ := hr.val
  have HV : Hid (totV xs = (totF 0 xs).getD 0) := rfl
  have HO : Hid (totOk xs = (totF 0 xs).isSome) := rfl
  generalize totV xs = V at *
  generalize totOk xs = O at *
  go_enter Tryz.func229, Tryz.ntmps229
  go_wp2_with fail
  go_loopw [4, 11] (fun n i wr => OTotRel w xs n i wr) (fun _ i _ => xs.length - (intOf i).toNat)
  case atStart => exact ⟨0, 0, rfl, rfl, by omega, by omega, by omega, rfl, Below.refl _ _⟩
  case round =>
    obtain ⟨k, t, rfl, rfl, hk, ht0, ht1, hT, hbl⟩ := hrel
    have hwr := hbl.size
    by_cases h1 : k < xs.length
    · have hr2 := hr.below hbl nlr
      obtain ⟨g, off, a, c, rfl, ex, hg, c1, c2⟩ := hr2.at h1
      obtain ⟨⟨a1, a2⟩, ⟨b1, b2⟩⟩ := hn.at h1 ex
      have hT2 : Hid (totF 0 xs = if c < 0 ∨ 72057594037927935 - t < c then none else totF (t + c) (xs.drop (k + 1))) := by
        show _ = _
        rw [hT.out, drop_at (d := ((0, 0) : Nd)) xs k h1, ex, totF]
      have hba : Below wr.heap.size wr (wr.alloc (.cells #[.int .i64 a, .int .i64 c] 116)) := (Below.refl _ _).alloc nlr _
      have hbl2 := hbl.trans (hba.mono hwr)
      clear ex hr2 hT
      obtain ⟨o, eo⟩ : ∃ o, addOk t c = o := ⟨_, rfl⟩
      have Eo := hid eo
      cases o
      · have hx : c < 0 ∨ 72057594037927935 - t < c := by simp only [addOk, decide_eq_false_iff_not] at eo; omega
        clear eo
        as_aux_lemma =>
          go_wp2_with fail
          refine (add_any t c _ (by omega) (by omega) b1 b2).mono ?_
          rintro e w' ⟨rfl, rfl⟩
          rw [Eo.out]
          go_wp2_with fail
          go_ret2
          have e := hT2.out
          rw [if_pos hx] at e
          refine ⟨ret_ib ?_ ?_, hbl2⟩
          · rw [HV.out, e]; rfl
          · rw [HO.out, e]; rfl
      · have ev : addV t c = t + c := by unfold addV; rw [eo]; rfl
        have hc0 : 0 ≤ c := by simp only [addOk, decide_eq_true_eq] at eo; omega
        have Ev := hid ev
        clear eo ev
        by_cases h2 : 72057594037927935 < t + c
        · as_aux_lemma =>
            go_wp2_with fail
            refine (add_any t c _ (by omega) (by omega) b1 b2).mono ?_
            rintro e w' ⟨rfl, rfl⟩
            rw [Eo.out, Ev.out]
            go_wp2_with fail
            go_ret2
            have e := hT2.out
            rw [if_pos (.inr (by omega))] at e
            refine ⟨ret_ib ?_ ?_, hbl2⟩
            · rw [HV.out, e]; rfl
            · rw [HO.out, e]; rfl
        · as_aux_lemma =>
            go_wp2_with fail
            refine (add_any t c _ (by omega) (by omega) b1 b2).mono ?_
            rintro e w' ⟨rfl, rfl⟩
            rw [Eo.out, Ev.out]
            go_wp2_with fail
            go_roundw
            case rel =>
              have e := hT2.out
              rw [if_neg (by omega)] at e
              exact ⟨k + 1, t + c, by go_num, rfl, by omega, by omega, by omega, e, hbl2⟩
            case measure => simp [intOf]; omega
    · have e : totF 0 xs = some t := by rw [hT.out, List.drop_of_length_le (by omega)]; rfl
      have E := hid e
      clear e
      go_wp2_with fail
      go_ret2
      refine ⟨ret_ib ?_ ?_, hbl⟩
      · rw [HV.out, E.out]; rfl
      · rw [HO.out, E.out]; rfl
def ORightRel (w : World) (l : Int) (xs : List Nd) (la i : Value) (wr : World) : Prop :=
  ∃ (k : Nat) (t : Int), i = .int .i64 k ∧ la = .int .i64 t ∧ k ≤ xs.length ∧ In64 t ∧ Hid (risesF l 0 xs = risesF l t (xs.drop k)) ∧ Below w.heap.size w wr
theorem root_right (l : Int) : rightB l 1 = decide (1 ≤ l ∧ l ≤ 48) := by
  unfold rightB
  rw [decide_eq_decide]
  constructor
  · rintro ⟨h1, h2, _⟩; exact ⟨h1, h2⟩
  · rintro ⟨h1, h2⟩
    refine ⟨h1, h2, by omega, ?_⟩
    obtain ⟨n, rfl⟩ := Int.eq_ofNat_of_zero_le (show 0 ≤ l by omega)
    have := (pow48 (n := n) (by omega)).1
    simp only [Int.toNat_natCast]; omega
theorem o_right {v : Value} {xs : List Nd} (l : Int) (w : World) (hr : RdN w v xs) (hn : NB xs) (hl : xs.length ≤ 9223372036854775807) (bl : In64 l) :
    Calls Tryz.prog 211 #[.int .i64 l, v] w fun e w' => e = .returned (.bool (rollB l xs)) ∧ Below w.heap.size w w' := by
  have T := fun W (q : Below w.heap.size w W) => hid (o_total W (hr.below q nlr) hn hl)
  obtain ⟨p, cap, rfl⟩ := hr.val
  obtain ⟨bl1, bl2⟩ := bl
  have HR : Hid (rollB l xs = (risesF l 0 xs && totOk xs && rightB l 1)) := by show _ = _; rw [root_right]; rfl
  generalize rollB l xs = R at *
  go_enter Tryz.func211, Tryz.ntmps211
  go_wp2_with fail
  go_loopw [5, 12] (fun la i wr => ORightRel w l xs la i wr) (fun _ i _ => xs.length - (intOf i).toNat)
  case atStart => exact ⟨0, 0, rfl, rfl, by omega, ⟨by omega, by omega⟩, rfl, Below.refl _ _⟩
  case round =>
    obtain ⟨k, t, rfl, rfl, hk, ⟨ht0, ht1⟩, hT, hbl⟩ := hrel
    have hwr := hbl.size
    by_cases h1 : k < xs.length
    · have hr2 := hr.below hbl nlr
      obtain ⟨g, off, a, c, rfl, ex, hg, c1, c2⟩ := hr2.at h1
      obtain ⟨⟨a1, a2⟩, ⟨b1, b2⟩⟩ := hn.at h1 ex
      have hT2 : Hid (risesF l 0 xs = if a ≤ t ∨ rightB l a = false ∨ c < 1 then false else risesF l a (xs.drop (k + 1))) := by
        show _ = _
        rw [hT.out, drop_at (d := ((0, 0) : Nd)) xs k h1, ex, risesF]
      have hba : Below wr.heap.size wr (wr.alloc (.cells #[.int .i64 a, .int .i64 c] 116)) := (Below.refl _ _).alloc nlr _
      have hbl2 := hbl.trans (hba.mono hwr)
      clear ex hr2 hT T
      by_cases h2 : a ≤ t
      · as_aux_lemma =>
          go_wp2_with fail
          go_ret
          have e := hT2.out
          rw [if_pos (.inl h2)] at e
          exact ⟨ret_bool (by rw [HR.out, e]; rfl), hbl2⟩
      · obtain ⟨r, er⟩ : ∃ r, rightB l a = r := ⟨_, rfl⟩
        have Er := hid er
        clear er
        cases r
        · as_aux_lemma =>
            go_wp2_with fail
            refine (twig_right l a _ bl1 bl2 a1 a2).mono ?_
            rintro e w' ⟨rfl, rfl⟩
            rw [Er.out]
            go_wp2_with fail
            go_ret
            have e := hT2.out
            rw [if_pos (.inr (.inl Er.out))] at e
            exact ⟨ret_bool (by rw [HR.out, e]; rfl), hbl2⟩
        · by_cases h3 : c < 1
          · as_aux_lemma =>
              go_wp2_with fail
              refine (twig_right l a _ bl1 bl2 a1 a2).mono ?_
              rintro e w' ⟨rfl, rfl⟩
              rw [Er.out]
              go_wp2_with fail
              go_ret
              have e := hT2.out
              rw [if_pos (.inr (.inr h3))] at e
              exact ⟨ret_bool (by rw [HR.out, e]; rfl), hbl2⟩
          · as_aux_lemma =>
              go_wp2_with fail
              refine (twig_right l a _ bl1 bl2 a1 a2).mono ?_
              rintro e w' ⟨rfl, rfl⟩
              rw [Er.out]
              go_wp2_with fail
              go_roundw
              case rel =>
                have e := hT2.out
                rw [if_neg (by rw [Er.out]; simp; omega)] at e
                exact ⟨k + 1, a, by go_num, rfl, by omega, ⟨a1, a2⟩, e, hbl2⟩
              case measure => simp [intOf]; omega
    · have e : risesF l 0 xs = true := by rw [hT.out, List.drop_of_length_le (by omega)]; rfl
      have E := hid e
      clear e
      obtain ⟨o, eo⟩ : ∃ o, totOk xs = o := ⟨_, rfl⟩
      have Eo := hid eo
      clear eo
      go_wp2_with fail
      refine (T _ hbl).out.mono ?_
      rintro e w2 ⟨rfl, hb2⟩
      rw [Eo.out]
      have hb3 := hbl.trans (hb2.mono hwr)
      cases o
      · go_wp2_with fail
        go_ret
        exact ⟨ret_bool (by rw [HR.out, E.out, Eo.out]; rfl), hb3⟩
      · go_wp2_with fail
        refine (twig_right l 1 _ bl1 bl2 (by decide) (by decide)).mono ?_
        rintro e w' ⟨rfl, rfl⟩
        go_wp2_with fail
        go_ret
        exact ⟨ret_bool (by rw [HR.out, E.out, Eo.out]; simp), hb3⟩
end Go.Proofs.YtdnlejboijkcfaaGreatDoor
/- The walks of pool.Load, Clone, Same. -/
namespace Go.Proofs.YtdnlejboijkcfaaGreatDoor
set_option maxHeartbeats 8000000
set_option maxRecDepth 100000
open Go.RowKit Nl
namespace Nl
theorem stAdd_snoc {l : Int} {zs : List (Int × Int)} {x : Int × Int} (r : Roll l (zs ++ [x])) : stAdd l zs x.1 x.2 = (zs ++ [x], 0) := by
  have hs := r.strict
  have hp := List.pairwise_append.1 hs.1
  have hx := hs.2 x (by simp)
  have hr := r.ids x (by simp)
  have hzs : Strict zs := hs.left
  have hm := r.most
  rw [sumL_append] at hm
  simp only [sumL] at hm
  have hz : sumL zs ≤ 72057594037927935 := by omega
  unfold stAdd
  rw [if_neg (by rw [hr]; simp; omega), totV_sum hzs.pos hz, if_neg (by omega), foldL_add hzs hx.1 (by omega) (by omega)]
  simp only [Option.getD_some, Prod.mk.injEq, and_true]
  have hlt : ∀ y ∈ zs, y.1 < x.1 := fun y hy => hp.2.2 y hy x (by simp)
  have h := addS_parts (P := zs) (Q := []) (id := x.1) (v := 0) (c := x.2) hlt (by simp) (Int.le_refl _) (by omega)
  rw [if_neg (by decide), if_pos (by omega)] at h
  simpa using h
theorem Roll.take' {l : Int} {zs : List (Int × Int)} (r : Roll l zs) (k : Nat) : Roll l (zs.take k) := by
  have e := List.take_append_drop k zs
  refine ⟨r.l1, r.l2, Strict.left (B := zs.drop k) (by rw [e]; exact r.strict), ?_, fun x hx => r.ids x (List.mem_of_mem_take hx)⟩
  have h1 := sumL_take_drop zs k
  have h2 := sumL_nonneg (fun x hx => r.strict.pos x (List.mem_of_mem_drop hx) : Pos (zs.drop k))
  have := r.most
  omega
end Nl
def PutRel (w : World) (q g h0 : Nat) (kind l : Int) (zs : List Nd) (i : Value) (wr : World) : Prop :=
  ∃ k h : Nat, i = .int .i64 k ∧ k ≤ zs.length ∧ PoolV wr q g h kind l zs.length (zs.take k) ∧ (h = h0 ∨ w.heap.size ≤ h) ∧ Tch g h0 w wr
def PutPost (q g h0 : Nat) (kind l : Int) (zs : List Nd) (w : World) (e : Ending) (w' : World) : Prop :=
  e = .returned (.tuple #[]) ∧ ∃ h, PoolV w' q g h kind l zs.length zs ∧ (h = h0 ∨ w.heap.size ≤ h) ∧ Tch g h0 w w'
theorem Tch.fresh {g h h0 : Nat} {a b c : World} (t1 : Tch g h0 a b) (t2 : Tch g h b c) (hh : h = h0 ∨ a.heap.size ≤ h) : Tch g h0 a c :=
  ⟨t2.os.trans t1.os, t2.tape.trans t1.tape, t2.output.trans t1.output, Nat.le_trans t1.size t2.size, fun k hk e1 e2 =>
    (t2.block k (Nat.lt_of_lt_of_le hk t1.size) e1 (by rcases hh with rfl | hh; exact e2; omega)).trans (t1.block k hk e1 e2)⟩
theorem pl_put {w : World} {q g h m : Nat} {kind l : Int} {zs : List Nd} {v : Value} (d : PoolV w q g h kind l m []) (hm : m = 0) (r : Roll l zs) (hr : RdN w v zs) (hv : zs = [] ∨ ∀ k, v.ownBlock = some k → k ≠ g ∧ k ≠ h) (hl : zs.length ≤ 100000) :
    Calls Tryz.prog 228 #[.pointer (some ⟨q, 0, none⟩), v] w (PutPost q g h kind l zs w) := by
  subst hm
  obtain ⟨p, cap, rfl⟩ := hr.val
  have d0 := d.mono (Nat.zero_le zs.length)
  have hgl := d.lt
  go_enter Tryz.func228, Tryz.ntmps228
  go_wp2_with fail
  go_loopw [8] (fun i wr => PutRel w q g h kind l zs i wr) (fun i _ => zs.length - (intOf i).toNat)
  case atStart => exact ⟨0, h, rfl, by omega, d0, .inl rfl, Tch.refl _ _ _⟩
  case round =>
    obtain ⟨k, h2, rfl, hk, d2, hh, T2⟩ := hrel
    have hwr := T2.size
    by_cases h1 : k < zs.length
    · have hv : ∀ k, (Value.slice p zs.length cap).ownBlock = some k → k ≠ g ∧ k ≠ h := by
        rcases hv with hv | hv
        · subst hv; simp at h1
        · exact hv
      have hr2 : RdN wr (.slice p zs.length cap) zs := hr.tch T2 (fun e => (hv _ e).1 rfl) (fun e => (hv _ e).2 rfl)
      obtain ⟨g2, off, a, c, rfl, ex, hg2, c1, c2⟩ := hr2.at h1
      have hx := r.strict.2 _ (getD_mem (d := ((0, 0) : Nd)) zs k h1)
      have hxr := r.ids _ (getD_mem (d := ((0, 0) : Nd)) zs k h1)
      have hxm := r.strict.pos.le_sum _ (getD_mem (d := ((0, 0) : Nd)) zs k h1)
      rw [ex] at hx hxr hxm
      have hmx := right_max hxr
      have hmo := r.most
      have hS := stAdd_snoc (zs := zs.take k) (x := (a, c)) (l := l) (by rw [← ex, ← take_at (d := ((0, 0) : Nd)) zs k h1]; exact r.take' _)
      have hT : Hid (zs.take (k + 1) = zs.take k ++ [(a, c)]) := by show _ = _; rw [take_at (d := ((0, 0) : Nd)) zs k h1, ex]
      have hba : Below wr.heap.size wr (wr.alloc (.cells #[.int .i64 a, .int .i64 c] 116)) := (Below.refl _ _).alloc nlr _
      have d3 := d2.below hba nlr
      have Ad := hid (pl_add zs.length a c d3 nlr (by simp; omega) hl (by simp only at hx; omega) (by simp only at hx hxm; omega))
      rw [hS] at Ad
      have Th := hid (T2.below' hba)
      obtain ⟨hq2, hg3, hh2, _⟩ := d2.lt
      clear hS ex hr2 hx hxr hxm
      as_aux_lemma =>
        go_wp2_with fail
        refine Ad.out.mono ?_
        rintro e w3 ⟨rfl, h3, d4, hh3, T3⟩
        have hs3 := T3.size
        go_wp2_with fail
        go_roundw
        case rel =>
          refine ⟨k + 1, h3, by go_num, by omega, by rw [hT.out]; exact d4, ?_, Th.out.fresh T3 hh⟩
          rcases hh3 with e | e
          · rw [e]; exact hh
          · right; simp only [World.size_alloc] at e; omega
        case measure => simp [intOf]; omega
    · rw [List.take_of_length_le (by omega)] at d2
      go_wp2_with fail
      exact bodyPost_ret (v := .tuple #[]) (by simp [results, Tryz.results228, go_sem]) rfl ⟨rfl, h2, d2, hh, T2⟩
end Go.Proofs.YtdnlejboijkcfaaGreatDoor
/- The walks of slices.Equal, roll.Same, pool.Same, pool.Load, pool.Clone. -/
namespace Go.Proofs.YtdnlejboijkcfaaGreatDoor
set_option maxHeartbeats 8000000
set_option maxRecDepth 100000
open Go.RowKit Nl
theorem pl_load {v : Value} {zs : List Nd} (kind l : Int) (w : World) (hk : poolIs kind l = true) (hR : rollB l zs = true) (hr : RdN w v zs) (hn : NB zs) (hl : zs.length ≤ 100000) :
    Calls Tryz.prog 209 #[.int .i64 kind, .int .i64 l, v] w (PoolNew kind l zs.length zs w) := by
  have N := hid (pl_new kind l w hk)
  have r := rollB_iff.1 hR
  have bl : In64 l := ⟨by have := r.l1; omega, by have := r.l2; omega⟩
  have Rt := hid (fun W q => o_right (v := v) l W q hn (by omega) bl)
  rw [hR] at Rt
  have hlt := hr.ltE
  obtain ⟨p, cap, rfl⟩ := hr.val
  clear hk hR
  go_enter Tryz.func209, Tryz.ntmps209
  go_wp2_with fail
  refine N.out.mono ?_
  rintro e w1 ⟨q, g, h, rfl, d, hq, hg, hh, hb1⟩
  have hr1 := hr.below hb1 nlr
  go_wp2_with fail
  refine (Rt.out w1 hr1).mono ?_
  rintro e w2 ⟨rfl, hb2⟩
  have d2 := d.below hb2 nlr
  have hr2 := hr1.below hb2 nlr
  have hs1 := hb1.size
  have hs2 := hb2.size
  go_wp2_with fail
  refine (pl_put d2 rfl r hr2 (hlt.imp (fun e => e) (fun e k hk => by have := e k hk; omega)) hl).mono ?_
  rintro e w3 ⟨rfl, h', d3, hh', T3⟩
  go_wp2_with fail
  go_ret2
  refine ⟨q, g, h', rfl, d3, hq, hg, ?_, (hb1.trans (hb2.mono hs1)).trans (T3.below hg hh (by omega))⟩
  rcases hh' with e | e <;> omega
theorem dn_clone_nil (w : World) : Calls Tryz.prog 183 #[.pointer none] w fun e w' => e = .returned (.pointer none) ∧ w = w' := by
  go_enter Tryz.func183, Tryz.ntmps183
  go_wp2_with fail
  go_ret
  exact ⟨rfl, rfl⟩
theorem pn_clone_nil (w : World) : Calls Tryz.prog 184 #[.pointer none] w fun e w' => e = .returned (.pointer none) ∧ w = w' := by
  go_enter Tryz.func184, Tryz.ntmps184
  go_wp2_with fail
  go_ret
  exact ⟨rfl, rfl⟩
def PoolClone (kind l : Int) (m : Nat) (zs : List Nd) (w : World) (e : Ending) (w' : World) : Prop :=
  ∃ q g h, e = .returned (.pointer (some ⟨q, 0, none⟩)) ∧ PoolV w' q g h kind l m zs ∧ w.heap.size ≤ q ∧ w.heap.size ≤ g ∧ w.heap.size ≤ h ∧ Below w.heap.size w w'
theorem pl_clone {w : World} {q g h m : Nat} {kind l : Int} {zs : List Nd} (d : PoolV w q g h kind l m zs) (hm : m ≤ 100000) :
    Calls Tryz.prog 152 #[.pointer (some ⟨q, 0, none⟩)] w (PoolClone kind l m zs w) := by
  rcases d with ⟨rfl, hb, h1, h2, cs, ⟨u, t, d, v⟩, rfl⟩ | ⟨rfl, hb, h1, h2, b, xs, d, lim, hb3, rfl⟩
  · have c0 := hb.cell 0
    have c1 := hb.cell 1
    simp at c0 c1
    have hlt := hb.lt
    have hB0 := Below.refl w.heap.size w
    go_enter Tryz.func152, Tryz.ntmps152
    go_wp2_with fail
    go_region_held3 (fun w' => w'.cell? ⟨q, 0, none⟩ = some (.pointer (some ⟨g, 0, none⟩)) ∧ w'.cell? ⟨q, 1, none⟩ = some (.pointer none) ∧ Below w.heap.size w w')
      (first
        | exact ⟨c0, c1, below_drewN hB0 1⟩
        | exact ⟨cell_below hB5 c0 hlt, cell_below hB5 c1 hlt, hB5⟩
        | exact ⟨cell_below (hB5.alloc hB5.size _) c0 hlt, cell_below (hB5.alloc hB5.size _) c1 hlt, hB5.alloc hB5.size _⟩)
      (first
        | (go_at_call 183; have hB4 := (‹_ ∧ _ ∧ Below w.heap.size w _›).2.2; refine (d_clone (d.below hB4 nlr) v).mono ?_; rintro e w5 ⟨g2, h2', rfl, d5, hg5, hh5, hb5⟩
           have hB5 := hB4.trans (hb5.mono hB4.size))
        | (go_at_call 184; refine (pn_clone_nil _).mono ?_; rintro e w6 ⟨rfl, rfl⟩))
    go_wp2_with fail
    go_ret
    obtain ⟨hl1, hl2, _⟩ := d5.lt
    have hsw : w.heap.size ≤ w5.heap.size := hB5.size
    exact ⟨w5.heap.size, g2, h2', rfl, .inl ⟨rfl, Blk.new _ _ _, by omega, by omega, cs, d5.below ((Below.refl _ _).alloc nlr _) nlr, rfl⟩, hsw, hg5, hh5, hB5.alloc hsw _⟩
  · have c0 := hb.cell 0
    have c1 := hb.cell 1
    simp at c0 c1
    have hlt := hb.lt
    have hbits := lim.bits d.2 hm
    have hB0 := Below.refl w.heap.size w
    go_enter Tryz.func152, Tryz.ntmps152
    go_wp2_with fail
    go_region_held3 (fun w' => w'.cell? ⟨q, 0, none⟩ = some (.pointer none) ∧ w'.cell? ⟨q, 1, none⟩ = some (.pointer (some ⟨g, 0, none⟩)) ∧ Below w.heap.size w w')
      (first
        | exact ⟨c0, c1, below_drewN hB0 1⟩
        | exact ⟨cell_below hB5 c0 hlt, cell_below hB5 c1 hlt, hB5⟩
        | exact ⟨cell_below (hB5.alloc hB5.size _) c0 hlt, cell_below (hB5.alloc hB5.size _) c1 hlt, hB5.alloc hB5.size _⟩)
      (first
        | (go_at_call 184; have hB4 := (‹_ ∧ _ ∧ Below w.heap.size w _›).2.2; refine (p_clone (d.below hB4 nlr) (by omega)).mono ?_; rintro e w5 ⟨g2, h2', rfl, d5, hg5, hh5, hb5⟩
           have hB5 := hB4.trans (hb5.mono hB4.size))
        | (go_at_call 183; refine (dn_clone_nil _).mono ?_; rintro e w6 ⟨rfl, rfl⟩))
    go_wp2_with fail
    go_ret
    obtain ⟨hl1, hl2, _⟩ := d5.lt
    have hsw : w.heap.size ≤ w5.heap.size := hB5.size
    exact ⟨w5.heap.size, g2, h2', rfl, .inr ⟨rfl, Blk.new _ _ _, by omega, by omega, b, xs, d5.below ((Below.refl _ _).alloc nlr _) nlr, lim, hb3, rfl⟩, hsw, hg5, hh5, hB5.alloc hsw _⟩
end Go.Proofs.YtdnlejboijkcfaaGreatDoor
/- The walk of the reference's: which pools there are. -/
namespace Go.Proofs.YtdnlejboijkcfaaGreatDoor
set_option maxHeartbeats 8000000
set_option maxRecDepth 100000
open Go.RowKit Nl
end Go.Proofs.YtdnlejboijkcfaaGreatDoor
