/- Texts laid together. -/
import Derived.Test.YtdnlejboijkcfaaGreatDoorP31
import Derived.Test.YtdnlejboijkcfaaGreatDoorP10
/- wave: Send, Take. -/
namespace Go.Proofs.YtdnlejboijkcfaaGreatDoor
set_option maxHeartbeats 8000000
set_option maxRecDepth 100000
open Go.RowKit Tb
theorem wv_cut {w : World} {V : Nat} {v : Value} {fl : List It} {x : It} (h : WvV w V v (fl ++ [x])) (hz : fl.length ≤ 300) : Calls Tryz.prog 89 #[.pointer (some ⟨V, 0, none⟩), .int .i64 fl.length] w fun e w' => e = .returned (.tuple #[]) ∧ ∃ v', WvV w' V v' fl ∧ (∀ b, v'.ownBlock = some b → v.ownBlock = some b) ∧ ChB (fun j => j = V) w w' := by
  have h0 := h
  obtain ⟨⟨a, b, c, d, e, hb⟩, h2, h3⟩ := h
  have hlen : (fl ++ [x]).length = fl.length + 1 := by simp
  rcases h2 with ⟨_, hn⟩ | ⟨g, cap, cur, rfl, hg, hnc, hcs, htk⟩
  · simp at hn
  rw [hlen] at hb hnc h0
  have c5 : w.cell? ⟨V, 5, none⟩ = some (.slice (some ⟨g, 0, none⟩) (fl.length + 1) cap) := hb.cell 5
  have f5 := hb.free 5
  have l5 := hb.lt
  have R : Hid (∃ v', WvV (w.drew.setCell ⟨V, 5, none⟩ (.slice (some ⟨g, 0, none⟩) fl.length fl.length)) V v' fl ∧ (∀ b, v'.ownBlock = some b → g = b)) := by
    have hgV : g ≠ V := h3 g rfl
    refine ⟨.slice (some ⟨g, 0, none⟩) fl.length fl.length, ⟨⟨a, b, c, d, e, (hb.drewN 1).set 5 _⟩, .inr ⟨g, fl.length, cur, rfl, (Below.heap_setCell w.drew ⟨V, 5, none⟩ _ g hgV).trans hg, nlr, by omega, ?_⟩, fun j hj => ?_⟩, fun j hj => by simpa [Value.ownBlock] using hj⟩
    · have e2 : cur.toList.take (fl.length * 2) = (cur.toList.take ((fl ++ [x]).length * 2)).take (fl.length * 2) := by rw [List.take_take, hlen]; congr 1; omega
      rw [e2, htk, wv_app, ← wv_len]
      exact List.take_left
    · have : g = j := by simpa [Value.ownBlock] using hj
      omega
  have hw : IntKind.i64.wrap ((fl.length : Int) + 1) = (fl.length : Int) + 1 := IntWalk.i64_in _ ⟨by omega, by omega⟩
  have hT : ((fl.length : Int) + 1).toNat = fl.length + 1 := by omega
  have hs0 : fl.length + 1 - (fl.length + 1) = 0 := by omega
  have hb5 : ∀ j, j ≠ V → (w.drew.setCell ⟨V, 5, none⟩ (.slice (some ⟨g, 0, none⟩) fl.length fl.length)).heap[j]? = w.heap[j]? := fun j hj => Below.heap_setCell w.drew ⟨V, 5, none⟩ _ j hj
  clear h3 hg hcs htk hb h0 hlen hz
  generalize fl.length = n at *
  have hle : n ≤ cap := by omega
  have zi : (n : Int) ≤ (n : Int) + 1 := by omega
  have zj : (0 : Int) ≤ (n : Int) + 1 := by omega
  by_cases hcap : cap = n + 1
  · subst hcap
    go_enter Tryz.func89, Tryz.ntmps89
    go_region_law ((refine step_cutW (g := g) (n := n) _ _ (by rfl) (by rfl) (by rfl) (by rfl) ?_))
    all_goals
      go_wp2_with fail
      go_end0
      obtain ⟨v', r1, r2⟩ := R.out
      exact ⟨rfl, v', r1, fun b hb => by rw [← r2 b hb]; rfl, ⟨rfl, rfl, rfl, by simp, fun j _ hj => hb5 j hj⟩⟩
  · have hcf : (cap = n + 1) = False := eq_false hcap
    clear hcap
    go_enter Tryz.func89, Tryz.ntmps89
    go_region_law ((refine step_cutW (g := g) (n := n) _ _ (by rfl) (by rfl) (by rfl) (by rfl) ?_))
    all_goals
      go_wp2_with fail
      go_end0
      obtain ⟨v', r1, r2⟩ := R.out
      exact ⟨rfl, v', r1, fun b hb => by rw [← r2 b hb]; rfl, ⟨rfl, rfl, rfl, by simp, fun j _ hj => hb5 j hj⟩⟩
theorem cnt_f (p : Option Addr) (W : World) : (Instr.field 158 (.agg #[.pointer p]) 0).run Tryz.prog W = .ok (.pointer p) W := by
  simp [Instr.field, run_underlying Tryz.underlying158]
  rfl
attribute [local go_sem] cnt_f
theorem wv_with (w : World) (V : Nat) : Calls Tryz.prog 90 #[.pointer (some ⟨V, 0, none⟩)] w fun e w' => e = .returned (.agg #[.pointer (some ⟨V, 0, none⟩)]) ∧ Below w.heap.size w w' := by
  have X := Blk.new w #[.pointer none] 158
  have hb0 : Below w.heap.size w (w.alloc (.cells #[.pointer none] 158)) := (Below.refl _ _).alloc nlr _
  obtain ⟨W1, eW⟩ : ∃ W1, (w.alloc (.cells #[.pointer none] 158)) = W1 := ⟨_, rfl⟩
  rw [eW] at X hb0
  have x0 : W1.cell? ⟨w.heap.size, 0, none⟩ = some (.pointer none) := X.cell 0
  have f0 := X.free 0
  have l0 := X.lt
  have hb1 := hb0.setCell (p := ⟨w.heap.size, 0, none⟩) nlr (.pointer (some ⟨V, 0, none⟩))
  have z0 : (W1.setCell ⟨w.heap.size, 0, none⟩ (.pointer (some ⟨V, 0, none⟩))).cell? ⟨w.heap.size, 0, none⟩ = some (.pointer (some ⟨V, 0, none⟩)) := (X.set 0 _).cell 0
  go_enter Tryz.func90, Tryz.ntmps90
  go_wp2_with fail
  exact bodyPost_ret (v := .agg #[.pointer (some ⟨V, 0, none⟩)]) (by simp [results, Tryz.results90, go_sem, z0]) rfl ⟨rfl, hb1⟩
theorem WvV.count {W : World} {V : Nat} {v : Value} {fl : List It} (h : WvV W V v fl) (i : Nat) (hi : i < 5) (n : Int) : WvV (W.setCell ⟨V, i, none⟩ (.int .i64 n)) V v fl := by
  obtain ⟨⟨a, b, c, d, e, hb⟩, h2, h3⟩ := h
  have hk : ∀ j, j ≠ V → (W.setCell ⟨V, i, none⟩ (.int .i64 n)).heap[j]? = W.heap[j]? := fun j hj => Below.heap_setCell _ ⟨V, i, none⟩ _ j hj
  have hs := hb.set i (.int .i64 n)
  refine ⟨?_, h2.keep (fun j _ hv => hk j (h3 j hv)), h3⟩
  match i, hi, hs with
  | 0, _, hs => exact ⟨n, b, c, d, e, hs⟩
  | 1, _, hs => exact ⟨a, n, c, d, e, hs⟩
  | 2, _, hs => exact ⟨a, b, n, d, e, hs⟩
  | 3, _, hs => exact ⟨a, b, c, n, e, hs⟩
  | 4, _, hs => exact ⟨a, b, c, d, n, hs⟩
theorem wv_sent {w : World} {V : Nat} {v : Value} {fl : List It} (h : WvV w V v fl) : Calls Tryz.prog 141 #[.pointer (some ⟨V, 0, none⟩)] w fun e w' => e = .returned (.tuple #[]) ∧ WvV w' V v fl ∧ ChB (fun j => j = V) w w' := by
  have HC := hid (fun n => h.count 0 (by decide) n)
  obtain ⟨⟨a, b, c, d, e, hb⟩, h2, h3⟩ := h
  have c0 : w.cell? ⟨V, 0, none⟩ = some (.int .i64 a) := hb.cell 0
  have f0 := hb.free 0
  have l0 := hb.lt
  have hk : ∀ n j, j ≠ V → (w.setCell ⟨V, 0, none⟩ (.int .i64 n)).heap[j]? = w.heap[j]? := fun n j hj => Below.heap_setCell _ ⟨V, 0, none⟩ _ j hj
  clear h2 h3 hb
  go_enter Tryz.func141, Tryz.ntmps141
  go_wp2_with fail
  go_end0
  exact ⟨rfl, HC.out _, rfl, rfl, rfl, by simp, fun j _ hj => hk _ j hj⟩
def WvTurn (V : Nat) (v : Value) (fl : List It) (w w' : World) : Prop :=
  ∃ v', WvV w' V v' fl ∧ (∀ b, v'.ownBlock = some b → v.ownBlock = some b ∨ w.heap.size ≤ b) ∧ ChB (fun j => j = V ∨ v.ownBlock = some j) w w'
theorem WvTurn.then {V : Nat} {v : Value} {fl gl : List It} {w w1 w2 : World} (h : WvTurn V v fl w w1) (k : ∀ v1, WvV w1 V v1 fl → ∃ v2, WvV w2 V v2 gl ∧ (∀ b, v2.ownBlock = some b → v1.ownBlock = some b) ∧ ChB (fun j => j = V) w1 w2) : WvTurn V v gl w w2 := by
  obtain ⟨v1, h1, h2, h3⟩ := h
  obtain ⟨v2, k1, k2, k3⟩ := k v1 h1
  exact ⟨v2, k1, fun b hb => h2 b (k2 b hb), h3.trans k3 (fun j _ q => .inl q)⟩
theorem wv_put {w : World} {V : Nat} {v : Value} {fl : List It} (h : WvV w V v fl) (hz : fl.length ≤ 200) (d : Int) (t : ByteArray) : Calls Tryz.prog 140 #[.pointer (some ⟨V, 0, none⟩), .agg #[.int .i64 d, .string t]] w fun e w' => e = .returned (.int .i64 0) ∧ WvTurn V v (fl ++ [(d, t)]) w w' := by
  have X1 := Blk.new w #[.int .i64 d, .string t] 154
  have hb1 : Below w.heap.size w (w.alloc (.cells #[.int .i64 d, .string t] 154)) := (Below.refl _ _).alloc nlr _
  have h1 := h.below hb1
  have hlt := h.r.lt
  obtain ⟨W1, eW⟩ : ∃ W1, (w.alloc (.cells #[.int .i64 d, .string t] 154)) = W1 := ⟨_, rfl⟩
  rw [eW] at X1 hb1 h1
  have HS : Hid (W1.heap.size = w.heap.size + 1) := by show _ = _; rw [← eW]; simp
  obtain ⟨p, cap, rfl⟩ := h.r.val
  obtain ⟨⟨a, b, c, d5, e5, hb⟩, h2, h3⟩ := h1
  have c5 : W1.cell? ⟨V, 5, none⟩ = some (.slice p fl.length cap) := hb.cell 5
  have f5 := hb.free 5
  have l5 := hb.lt
  have x0 : W1.cell? ⟨w.heap.size, 0, none⟩ = some (.int .i64 d) := X1.cell 0
  have x1 : W1.cell? ⟨w.heap.size, 1, none⟩ = some (.string t) := X1.cell 1
  have z0 : decide ((256 : Int) ≤ (fl.length : Int)) = false := decide_eq_false (by omega)
  have R2 : WvR (W1.drew.alloc (.cells #[.int .i64 d, .string t] 154)) (.slice p fl.length cap) fl := h2.below ((below_drewN (Below.refl _ _) 1).alloc nlr _)
  have BK : Blk (W1.drew.alloc (.cells #[.int .i64 d, .string t] 154)) W1.heap.size #[.int .i64 d, .string t] 154 := Blk.new W1.drew _ _
  have c5b : (W1.alloc (.cells #[.int .i64 d, .string t] 154)).cell? ⟨V, 5, none⟩ = some (.slice p fl.length cap) := (hb.alloc _).cell 5
  have HB2 := (hb.drewN 1).alloc (.cells #[.int .i64 d, .string t] 154)
  have hl2 := h2.lt
  have hlen : fl.length < 2000000 := by omega
  clear h h2 hz X1 hb
  go_enter Tryz.func140, Tryz.ntmps140
  go_upto_region 3 with fail
  go_region_law ((refine step_appendW (w := W1.drew.alloc (.cells #[.int .i64 d, .string t] 154)) (H := W1.heap.size) (d := d) (t := t) (v := .slice p fl.length cap) _ _ R2 (by omega) BK (by rfl) (by rfl) (by rfl) (by rfl) ?_; intro g cp w8 n8; have X8 := HB2.keep (n8.gr.block V (by simp; omega) (fun e => h3 V e.symm rfl)); have x8 : w8.cell? ⟨V, 5, none⟩ = some (.slice p fl.length cap) := X8.cell 5; have f8 := X8.free 5; have l8 := X8.lt))
  all_goals
    have hgV : g ≠ V := by
      rcases n8.own with q | q
      · exact h3 g q
      · have := q.1
        simp only [World.size_alloc] at this
        intro e
        have : V < W1.drew.heap.size := l5
        omega
    have hbA : Below w.heap.size w (W1.drew.alloc (.cells #[.int .i64 d, .string t] 154)) := (below_drewN hb1 1).alloc hb1.size _
    have hg8 := n8.gr
    have P : Hid (WvTurn V (.slice p fl.length cap) (fl ++ [(d, t)]) w (w8.setCell ⟨V, 5, none⟩ (.slice (some ⟨g, 0, none⟩) (fl.length + 1) cp))) := by
      have hk : ∀ j, j ≠ V → (w8.setCell ⟨V, 5, none⟩ (.slice (some ⟨g, 0, none⟩) (fl.length + 1) cp)).heap[j]? = w8.heap[j]? := fun j hj => Below.heap_setCell _ ⟨V, 5, none⟩ _ j hj
      refine ⟨_, ⟨⟨a, b, c, d5, e5, X8.set 5 _⟩, n8.r.keep (fun j _ hj => hk j (by
        have : g = j := by simpa [Value.ownBlock] using hj
        omega)), fun j hj => ?_⟩, fun j hj => ?_, ?_⟩
      · have : g = j := by simpa [Value.ownBlock] using hj
        omega
      · have e : g = j := by simpa [Value.ownBlock] using hj
        rw [← e]
        rcases n8.own with q | q
        · exact .inl q
        · have := hbA.size
          exact .inr (by omega)
      · refine ⟨hg8.os.trans hbA.os, hg8.tape.trans hbA.tape, hg8.output.trans hbA.output, ?_, fun j hj hn => ?_⟩
        · have h1 := hg8.size
          have h2 := hbA.size
          show _ ≤ (w8.setCell _ _).heap.size
          simp only [World.size_setCell]
          omega
        · have h2 := hbA.size
          exact (hk j (fun e => hn (.inl e))).trans ((hg8.block j (by omega) (fun e => hn (.inr e.symm))).trans (hbA.block j hj))
    clear n8 X8 hg8 hbA
    go_wp2_with fail
    go_ret
    exact ⟨rfl, P.out⟩
theorem wv_send {w : World} {V : Nat} {v : Value} {fl : List It} (h : WvV w V v fl) (hz : fl.length ≤ 200) (d : Int) (t : ByteArray) : Calls Tryz.prog 87 #[.pointer (some ⟨V, 0, none⟩), .int .i64 d, .string t] w fun e w' => e = .returned (.int .i64 0) ∧ WvTurn V v (fl ++ [(d, t)]) w w' := by
  have PT := hid (wv_put h hz d t)
  clear h
  go_enter Tryz.func87, Tryz.ntmps87
  go_wp2_with fail
  refine PT.out.mono ?_
  rintro e w1 ⟨rfl, T1⟩
  have HT := hid T1
  clear T1 PT
  go_wp2_with fail
  refine (wv_with w1 V).mono ?_
  rintro e w2 ⟨rfl, hb2⟩
  have T2 : WvTurn V v (fl ++ [(d, t)]) w w2 := HT.out.then fun v1 h1 => ⟨v1, h1.below hb2, fun b hb => hb, ChB.of_below hb2⟩
  obtain ⟨v2, h2, h3, h4⟩ := T2
  have SN := hid (wv_sent h2)
  have K := hid (And.intro h3 h4)
  clear HT h2 h3 h4
  go_wp2_with fail
  refine SN.out.mono ?_
  rintro e w3 ⟨rfl, h5, h6⟩
  have P : Hid (WvTurn V v (fl ++ [(d, t)]) w w3) := ⟨v2, h5, K.out.1, K.out.2.trans h6 (fun j _ q => .inl q)⟩
  clear h5 h6
  go_wp2_with fail
  go_ret
  exact ⟨rfl, P.out⟩
theorem wv_take {w : World} {V : Nat} {v : Value} {fl : List It} {x : It} (h : WvV w V v (fl ++ [x])) (hz : fl.length ≤ 200) : Calls Tryz.prog 41 #[.pointer (some ⟨V, 0, none⟩), .int .i64 fl.length] w fun e w' => e = .returned (.tuple #[.int .i64 x.1, .string x.2, .bool true]) ∧ WvTurn V v fl w w' := by
  have AT := hid (wv_at h fl.length (by simp))
  rw [show (fl ++ [x])[fl.length]'(by simp) = x by simp] at AT
  have CU := hid (fun W (q : Below w.heap.size w W) => wv_cut (h.below q) (by omega))
  have HH := hid h
  clear h
  go_enter Tryz.func41, Tryz.ntmps41
  go_wp2_with fail
  refine AT.out.mono ?_
  rintro e w1 ⟨rfl, n, rfl⟩
  have hb1 : Below w.heap.size w (w.drewN n) := below_drewN (Below.refl _ _) n
  have C1 := hid (CU.out _ hb1)
  have H1 := hid (HH.out.below hb1)
  clear AT CU HH
  generalize w.drewN n = w1 at *
  go_wp2_with fail
  refine C1.out.mono ?_
  rintro e w2 ⟨rfl, v2, h2, h3, h4⟩
  have T2 : Hid (WvTurn V v fl w w2) := ⟨v2, h2, fun b hb => .inl (h3 b hb), (ChB.of_below hb1).trans h4 (fun j _ q => .inl q)⟩
  clear h2 h3 h4 C1 H1 hb1
  go_wp2_with fail
  refine (wv_with w2 V).mono ?_
  rintro e w3 ⟨rfl, hb3⟩
  have T3 : WvTurn V v fl w w3 := T2.out.then fun v1 h1 => ⟨v1, h1.below hb3, fun b hb => hb, ChB.of_below hb3⟩
  obtain ⟨v3, h3, h4, h5⟩ := T3
  have HC := hid (fun n => h3.count 1 (by decide) n)
  have K := hid (And.intro h4 h5)
  obtain ⟨⟨a, b, c, d, e, hb⟩, -, -⟩ := h3
  have c1 : w3.cell? ⟨V, 1, none⟩ = some (.int .i64 b) := hb.cell 1
  have f1 := hb.free 1
  have l1 := hb.lt
  have hk : ∀ n j, j ≠ V → (w3.setCell ⟨V, 1, none⟩ (.int .i64 n)).heap[j]? = w3.heap[j]? := fun n j hj => Below.heap_setCell _ ⟨V, 1, none⟩ _ j hj
  have P : Hid (∀ n, WvTurn V v fl w (w3.setCell ⟨V, 1, none⟩ (.int .i64 n))) := fun n => ⟨v3, HC.out n, K.out.1, K.out.2.trans (S' := fun j => j = V) ⟨rfl, rfl, rfl, by simp, fun j _ hj => hk n j hj⟩ (fun j _ q => .inl q)⟩
  clear h4 h5 hb hb3 T2 hk
  go_wp2_with fail
  exact bodyPost_ret (v := .tuple #[.int .i64 x.1, .string x.2, .bool true]) (by simp [results, Tryz.results41, go_sem]) rfl ⟨rfl, P.out _⟩
end Go.Proofs.YtdnlejboijkcfaaGreatDoor
