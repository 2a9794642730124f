/- Texts laid together. -/
import Derived.Test.YtdnlejboijkcfaaGreatDoorP16
import Derived.Test.YtdnlejboijkcfaaGreatDoorP02
import Derived.ArgAppend
import Derived.Deep.AppendLies
/- wave: letters on their way. -/
namespace Go.Proofs.YtdnlejboijkcfaaGreatDoor
set_option maxHeartbeats 8000000
set_option maxRecDepth 100000
open Go.RowKit Tb
namespace Tb
abbrev It := Int × ByteArray
def wvCells (fl : List It) : List Value := fl.flatMap fun x => [.int .i64 x.1, .string x.2]
theorem wv_len (fl : List It) : (wvCells fl).length = fl.length * 2 := by
  unfold wvCells
  induction fl with
  | nil => rfl
  | cons x r ih => rw [List.flatMap_cons, List.length_append, ih]; simp; omega
theorem wv_app (fl gl : List It) : wvCells (fl ++ gl) = wvCells fl ++ wvCells gl := by unfold wvCells; rw [List.flatMap_append]
theorem wv_get : ∀ (fl : List It) (k : Nat) (h : k < fl.length), (wvCells fl)[k * 2]? = some (.int .i64 fl[k].1) ∧ (wvCells fl)[k * 2 + 1]? = some (.string fl[k].2)
  | [], k, h => absurd h (Nat.not_lt_zero _)
  | x :: r, 0, _ => ⟨rfl, rfl⟩
  | x :: r, k + 1, h => by
    have ih := wv_get r k (by simpa using h)
    have e : ∀ j, (wvCells (x :: r))[j + 2]? = (wvCells r)[j]? := fun j => by
      unfold wvCells
      rw [List.flatMap_cons]
      rfl
    rw [show (k + 1) * 2 = k * 2 + 2 by omega, e, show k * 2 + 2 + 1 = (k * 2 + 1) + 2 by omega, e]
    simpa using ih
end Tb
def WvR (W : World) (v : Value) (fl : List It) : Prop :=
  (v = .slice none 0 0 ∧ fl = []) ∨ ∃ g cap cur, v = .slice (some ⟨g, 0, none⟩) fl.length cap ∧ W.heap[g]? = some (.cells cur 154 (0, 0)) ∧ fl.length ≤ cap ∧ cap * 2 ≤ cur.size ∧ cur.toList.take (fl.length * 2) = wvCells fl
theorem WvR.val {W : World} {v : Value} {fl : List It} (h : WvR W v fl) : ∃ p cap, v = .slice p fl.length cap := by
  rcases h with ⟨rfl, rfl⟩ | ⟨g, cap, cur, rfl, -⟩
  · exact ⟨none, 0, rfl⟩
  · exact ⟨_, _, rfl⟩
theorem WvR.lt {W : World} {v : Value} {fl : List It} (h : WvR W v fl) : ∀ b, v.ownBlock = some b → b < W.heap.size := fun b hb => by
  rcases h with ⟨rfl, rfl⟩ | ⟨g, cap, cur, rfl, hg, -⟩
  · cases hb
  · obtain rfl : g = b := by simpa [Value.ownBlock] using hb
    exact (Array.getElem?_eq_some_iff.1 hg).1
theorem WvR.keep {W W' : World} {v : Value} {fl : List It} (h : WvR W v fl) (hk : ∀ b, b < W.heap.size → v.ownBlock = some b → W'.heap[b]? = W.heap[b]?) : WvR W' v fl := by
  rcases h with h | ⟨g, cap, cur, rfl, hg, h1⟩
  · exact .inl h
  · exact .inr ⟨g, cap, cur, rfl, (hk g (Array.getElem?_eq_some_iff.1 hg).1 rfl).trans hg, h1⟩
theorem WvR.below {W W' : World} {v : Value} {fl : List It} (h : WvR W v fl) (b : Below W.heap.size W W') : WvR W' v fl := h.keep fun j hj _ => b.block j hj
theorem WvR.at {W : World} {p : Option Addr} {n cap : Nat} {fl : List It} (h : WvR W (.slice p n cap) fl) (k : Nat) (hk : k < fl.length) : ∃ g, p = some ⟨g, 0, none⟩ ∧ g < W.heap.size ∧ n ≤ cap ∧ n = fl.length ∧ W.cell? ⟨g, k * 2, none⟩ = some (.int .i64 fl[k].1) ∧ W.cell? ⟨g, k * 2 + 1, none⟩ = some (.string fl[k].2) := by
  rcases h with ⟨_, rfl⟩ | ⟨g, cap', cur, hv, hg, h1, h2, h3⟩
  · exact absurd hk (Nat.not_lt_zero _)
  · simp only [Value.slice.injEq] at hv
    obtain ⟨rfl, rfl, rfl⟩ := hv
    have hc : ∀ j u, (wvCells fl)[j]? = some u → W.cell? ⟨g, j, none⟩ = some u := fun j u hj => by
      have hj2 := (List.getElem?_eq_some_iff.1 hj).1
      rw [← h3, List.getElem?_take_of_lt (by rw [wv_len] at hj2; exact hj2)] at hj
      unfold World.cell?
      simp only [hg]
      simpa using hj
    obtain ⟨e1, e2⟩ := wv_get fl k hk
    exact ⟨g, rfl, (Array.getElem?_eq_some_iff.1 hg).1, h1, rfl, hc _ _ e1, hc _ _ e2⟩
theorem Tryz.infoItem : (Tryz.prog.info? 154).map (fun i => (i.zero, i.size, i.bytes)) = some (some (.agg #[.int .i64 0, .string ⟨#[]⟩]), 2, 24) := by kernel_rfl
structure WvNew (w w' : World) (v : Value) (fl : List It) (g cap : Nat) (x : It) : Prop where
  r : WvR w' (.slice (some ⟨g, 0, none⟩) (fl.length + 1) cap) (fl ++ [x])
  gr : w.grownBy w' v.ownBlock
  own : v.ownBlock = some g ∨ (w.heap.size ≤ g ∧ g < w'.heap.size)
theorem run_append_wv {w : World} {v : Value} {fl : List It} {H T ty : Nat} {d : Int} {t : ByteArray} (hR : WvR w v fl) (hlen : fl.length < 16777216) (hbk : Blk w H #[.int .i64 d, .string t] T) :
    ∃ g cap w', (Builtin.append_ #[140, 140] ty #[v, .slice (some ⟨H, 0, none⟩) 1 1]).run Tryz.prog w = .ok (.slice (some ⟨g, 0, none⟩) (fl.length + 1) cap) w' ∧ WvNew w w' v fl g cap (d, t) := by
  obtain ⟨i0, hi, hz0, hz1, hz2⟩ := info_parts Tryz.infoItem
  have hn : ∀ j u, (wvCells [(d, t)])[j]? = some u → w.cell? ((⟨H, 0, none⟩ : Addr).add j) = some u := World.news_of_block hbk
  have h1 : ∀ u ∈ wvCells [(d, t)], u.oneCell' = true := fun u hu => by
    have hu : u ∈ [Value.int .i64 d, .string t] := hu
    simp only [List.mem_cons, List.not_mem_nil, or_false] at hu
    rcases hu with rfl | rfl <;> rfl
  have hml : fl.length + 1 ≤ maxLen := by unfold maxLen; omega
  rcases hR with ⟨rfl, rfl⟩ | ⟨g, cap, cur, rfl, hg, hnc, hcs, htk⟩
  · obtain ⟨v', w', hr, h2, h3, h4⟩ := run_append_own (P := Tryz.prog) w w.heap.size 140 ty 154 i0 _ 2 24 Tryz.underlying140 hi hz0 hz1 hz2 rfl (by decide) (.slice none 0 0) 0 [] (World.ownsRow_nil w _ _ _) ⟨H, 0, none⟩ 1 1 (wvCells [(d, t)]) rfl hn h1 (by unfold maxLen; omega) (by omega) nlr
    rcases h2.2 with ⟨-, q⟩ | ⟨g, cap, cur, rfl, hb, hg, hnc, -, hcs, htk⟩
    · omega
    · exact ⟨g, cap, w', hr, .inr ⟨g, cap, cur, rfl, hg, hnc, by omega, htk⟩, h3, .inr ⟨hb, (Array.getElem?_eq_some_iff.1 hg).1⟩⟩
  · by_cases hroom : fl.length + 1 ≤ cap
    · have hfit : fl.length * i0.size + (wvCells [(d, t)]).length ≤ cur.size := by rw [hz1, wv_len]; simp; omega
      have hr := run_append_room (P := Tryz.prog) w 140 ty 154 i0 Tryz.underlying140 hi g fl.length cap cur hg ⟨H, 0, none⟩ 1 1 (wvCells [(d, t)]) (by rw [hz1]; rfl) hn h1 hroom hfit
      rw [hz1] at hr
      refine ⟨g, cap, _, hr, .inr ⟨g, cap, _, by rw [List.length_append]; rfl, setRow_heap w g cur _ _ _ hg, by simpa using hroom, ?_, ?_⟩, ⟨rfl, rfl, rfl, by simp, fun k _ hk => setRow_other w g k _ (fun e => hk (by simp [Value.ownBlock, e]))⟩, .inl rfl⟩
      · simp only [List.size_toArray, List.length_append, List.length_take, List.length_drop, Array.length_toList, wv_len]
        simp
        omega
      · rw [htk, wv_app]
        have e : (fl ++ [(d, t)]).length * 2 = (wvCells fl ++ wvCells [(d, t)]).length := by rw [List.length_append, List.length_append, wv_len, wv_len]; simp; omega
        rw [e, List.toList_toArray]
        exact List.take_left
    · have holds : ∀ j u, (wvCells fl)[j]? = some u → w.cell? ((⟨g, 0, none⟩ : Addr).add j) = some u := fun j u hj => by
        have hj2 := (List.getElem?_eq_some_iff.1 hj).1
        rw [← htk, List.getElem?_take_of_lt (by rw [wv_len] at hj2; exact hj2)] at hj
        have hadd : (⟨g, 0, none⟩ : Addr).add j = ⟨g, j, none⟩ := by unfold Addr.add; split <;> simp_all
        rw [hadd]
        unfold World.cell?
        simp only [hg]
        simpa using hj
      obtain ⟨v', w', hr, h2, h3⟩ := run_append_arg_grows (P := Tryz.prog) w 140 ty 154 i0 _ 2 24 Tryz.underlying140 hi hz0 hz1 hz2 rfl (by decide) ⟨g, 0, none⟩ fl.length cap (wvCells fl) (wv_len fl) holds ⟨H, 0, none⟩ 1 1 (wvCells [(d, t)]) rfl hn (by omega) hml (by omega)
      rcases h2.2 with ⟨-, q⟩ | ⟨g', cap', cur', rfl, hb, hg', hnc', -, hcs', htk'⟩
      · omega
      · refine ⟨g', cap', w', hr, .inr ⟨g', cap', cur', by rw [List.length_append]; rfl, hg', by simpa using hnc', by omega, ?_⟩, ⟨h3.os, h3.tape, h3.output, h3.size, fun k hk _ => h3.block k hk (fun e => by cases e)⟩, .inr ⟨hb, (Array.getElem?_eq_some_iff.1 hg').1⟩⟩
        rw [wv_app, ← htk']; simp
section
variable {ops : Array Oper} {o : Oper} {a : Act} {K : Act → World → Prop} {Q : Exit → Act → World → Prop} {E : Prop} {w : World} {v : Value} {fl : List It} {T H : Nat}
theorem step_appendW {d : Int} {t : ByteArray} (s x : Operand) (hR : WvR w v fl) (hlen : fl.length < 16777216) (hbk : Blk w H #[.int .i64 d, .string t] T)
    (hgd : o.guard = none) (ho : o.op = .call { callee := .builtin .append, args := #[s, x], argTypes := #[140, 140] })
    (hv : a.eval s = v) (hx : a.eval x = .slice (some ⟨H, 0, none⟩) 1 1)
    (h : ∀ g cap w', WvNew w w' v fl g cap (d, t) → K (a.put o.dst (.slice (some ⟨g, 0, none⟩) (fl.length + 1) cap)) w') :
    if Region.wanted o (yielded ops a.tmps) = true then Oper.wp Tryz.prog o a w K Q else E := by
  rw [if_pos (by simp [Region.wanted, hgd])]
  obtain ⟨g, cap, w', hr, hn⟩ := run_append_wv (ty := o.type) hR hlen hbk
  unfold Oper.wp execOp
  simp only [ho, resolve, invoke, builtin, Sem.run_bind, Sem.run_pure, Result.andThen_ok, List.map_toArray, List.map_cons, List.map_nil, hv, hx, hr]
  exact h g cap w' hn
theorem step_cutW {g n c : Nat} {ad : Addr} (s x : Operand)
    (hgd : o.guard = none) (ho : o.op = .call { callee := .builtin .append, args := #[s, x], argTypes := #[140, 140] })
    (hv : a.eval s = .slice (some ⟨g, 0, none⟩) n n) (hx : a.eval x = .slice (some ad) 0 c)
    (h : K (a.put o.dst (.slice (some ⟨g, 0, none⟩) n n)) w) :
    if Region.wanted o (yielded ops a.tmps) = true then Oper.wp Tryz.prog o a w K Q else E := by
  rw [if_pos (by simp [Region.wanted, hgd])]
  obtain ⟨i0, hi, hz0, hz1, hz2⟩ := info_parts Tryz.infoItem
  have hr := run_append_room_cells (P := Tryz.prog) w 140 o.type 154 i0 Tryz.underlying140 hi g 0 n n ad 0 c [] (by simp) (fun j u hj => by simp at hj) (fun u hu => by cases hu) nlr (fun j hj => absurd hj (Nat.not_lt_zero _)) (fun j hj => absurd hj (Nat.not_lt_zero _))
  have hw : w.setCells g (0 + n * i0.size) [] = w := rfl
  rw [hw] at hr
  unfold Oper.wp execOp
  simp only [ho, resolve, invoke, builtin, Sem.run_bind, Sem.run_pure, Result.andThen_ok, List.map_toArray, List.map_cons, List.map_nil, hv, hx, hr]
  exact h
end
structure WvV (W : World) (V : Nat) (v : Value) (fl : List It) : Prop where
  blk : ∃ a b c d e : Int, Blk W V #[.int .i64 a, .int .i64 b, .int .i64 c, .int .i64 d, .int .i64 e, v] 142
  r : WvR W v fl
  ne : ∀ b, v.ownBlock = some b → b ≠ V
theorem WvV.keep {W W' : World} {V : Nat} {v : Value} {fl : List It} (h : WvV W V v fl) (hk : ∀ j, j < W.heap.size → (j = V ∨ v.ownBlock = some j) → W'.heap[j]? = W.heap[j]?) : WvV W' V v fl := by
  obtain ⟨⟨a, b, c, d, e, hb⟩, h2, h3⟩ := h
  exact ⟨⟨a, b, c, d, e, hb.keep (hk V hb.lt (.inl rfl))⟩, h2.keep (fun j hj hv => hk j hj (.inr hv)), h3⟩
theorem WvV.below {W W' : World} {V : Nat} {v : Value} {fl : List It} (h : WvV W V v fl) (b : Below W.heap.size W W') : WvV W' V v fl := h.keep fun j hj _ => b.block j hj
theorem wv_new (w : World) : Calls Tryz.prog 29 #[] w fun e w' => ∃ V, e = .returned (.pointer (some ⟨V, 0, none⟩)) ∧ w.heap.size ≤ V ∧ WvV w' V (.slice none 0 0) [] ∧ Below w.heap.size w w' := by
  have X := Blk.new w #[.int .i64 0, .int .i64 0, .int .i64 0, .int .i64 0, .int .i64 0, .slice none 0 0] 142
  go_enter Tryz.func29, Tryz.ntmps29
  go_wp2_with fail
  go_ret
  exact ⟨_, rfl, nlr, ⟨⟨_, _, _, _, _, X⟩, .inl ⟨rfl, rfl⟩, fun b hb => by cases hb⟩, (Below.refl _ _).alloc nlr _⟩
theorem wv_length {w : World} {V : Nat} {v : Value} {fl : List It} (h : WvV w V v fl) : Calls Tryz.prog 38 #[.pointer (some ⟨V, 0, none⟩)] w (Rt (.int .i64 fl.length) w) := by
  obtain ⟨⟨a, b, c, d, e, hb⟩, h2, h3⟩ := h
  obtain ⟨p, cap, rfl⟩ := h2.val
  have c5 : w.cell? ⟨V, 5, none⟩ = some (.slice p fl.length cap) := hb.cell 5
  clear hb h2 h3
  go_enter Tryz.func38, Tryz.ntmps38
  go_wp2_with fail
  go_ret
  exact ⟨rfl, rfl⟩
theorem wv_has {w : World} {V : Nat} {v : Value} {fl : List It} (h : WvV w V v fl) (i : Nat) (hi : i < fl.length) : Calls Tryz.prog 88 #[.pointer (some ⟨V, 0, none⟩), .int .i64 i] w (Rt (.bool true) w) := by
  have LN := hid (wv_length h)
  generalize fl.length = n at *
  have z0 : decide ((0 : Int) ≤ (i : Int)) = true := decide_eq_true (by omega)
  have z1 : decide ((i : Int) < (n : Int)) = true := decide_eq_true (by omega)
  clear h
  go_enter Tryz.func88, Tryz.ntmps88
  go_wp2_with fail
  refine LN.out.mono ?_
  rintro e w2 ⟨rfl, rfl⟩
  go_wp2_with fail
  go_ret
  exact ⟨rfl, rfl⟩
theorem wv_at {w : World} {V : Nat} {v : Value} {fl : List It} (h : WvV w V v fl) (i : Nat) (hi : i < fl.length) : Calls Tryz.prog 39 #[.pointer (some ⟨V, 0, none⟩), .int .i64 i] w fun e w' => e = .returned (.tuple #[.int .i64 fl[i].1, .string fl[i].2, .bool true]) ∧ ∃ n, w' = w.drewN n := by
  have HA := hid (wv_has h i hi)
  obtain ⟨⟨a, b, c, d, e, hb⟩, h2, h3⟩ := h
  obtain ⟨p, cap, rfl⟩ := h2.val
  have c5 : w.cell? ⟨V, 5, none⟩ = some (.slice p fl.length cap) := hb.cell 5
  obtain ⟨g, rfl, hg, hc, -, q0, q1⟩ := h2.at i hi
  generalize fl[i] = x at *
  generalize fl.length = n at *
  clear hb h2 h3
  go_enter Tryz.func39, Tryz.ntmps39
  go_wp2_with fail
  refine HA.out.mono ?_
  rintro e w2 ⟨rfl, rfl⟩
  go_wp2_with fail
  go_quiet (fail)
  go_wp2_with fail
  exact bodyPost_ret (v := .tuple #[.int .i64 x.1, .string x.2, .bool true]) (by simp [results, Tryz.results39, go_sem]) rfl ⟨rfl, _, rfl⟩
end Go.Proofs.YtdnlejboijkcfaaGreatDoor
