/- Texts laid together. -/
import Derived.Test.YtdnlejboijkcfaaGreatDoorP33
import Derived.Test.YtdnlejboijkcfaaGreatDoorP34
import Derived.Test.YtdnlejboijkcfaaGreatDoorP09
import Derived.Laws.EntriesVeiled
/- grove.walk, grove.Order: all sensors, each behind all below it. -/
namespace Go.Proofs.YtdnlejboijkcfaaGreatDoor
set_option maxHeartbeats 8000000
set_option maxRecDepth 100000
open Go.RowKit Tb
attribute [local go_sem] Oper.semAt_some
structure FrO (B O : Nat) (w w' : World) : Prop where
  os : w'.os = w.os
  tape : w'.tape = w.tape
  output : w'.output = w.output
  keep : ∀ k, k < B → k ≠ O → w'.heap[k]? = w.heap[k]?
  oth : KeepsOthers w w'
theorem FrO.trans {B O : Nat} {u v w : World} (h : FrO B O u v) (k : FrO B O v w) : FrO B O u w := ⟨k.os.trans h.os, k.tape.trans h.tape, k.output.trans h.output, fun j hj hn => (k.keep j hj hn).trans (h.keep j hj hn), h.oth.trans k.oth⟩
theorem keepsO_below {w w' : World} (h : Below w.heap.size w w') : KeepsOthers w w' := KeepsOthers.of_grownBy (below_grownBy h) (fun j o e _ => by cases e)
theorem FrO.of_below {B O : Nat} {w w' : World} (h : Below w.heap.size w w') (hB : B ≤ w.heap.size) : FrO B O w w' := ⟨h.os, h.tape, h.output, fun k hk _ => h.block k (by omega), keepsO_below h⟩
theorem FrO.set {B O : Nat} (w : World) (j : Nat) (v : Value) : FrO B O w (w.setCell ⟨O, j, none⟩ v) := ⟨rfl, rfl, rfl, fun k _ hn => Below.heap_setCell w ⟨O, j, none⟩ v k hn, KeepsOthers.setCell _ _ _⟩
theorem OwnI.isC {w : World} {B : Nat} {v : Value} {xs : List Int} (h : OwnI w B v xs) (j : Nat) (o : Obj) (e : v.ownBlock = some j) (ho : w.heap[j]? = some o) : o.isCells = true := by
  rcases h.2 with ⟨rfl, _⟩ | ⟨g, cap, cur, rfl, _, hh, _⟩
  · simp [Value.ownBlock] at e
  · obtain rfl : g = j := by simpa [Value.ownBlock] using e
    rw [hh] at ho; cases ho; rfl
theorem FrO.row {B O : Nat} {w w' : World} {v : Value} {xs : List Int} (h : w.grownBy w' v.ownBlock) (o : OwnI w B v xs) (hB : B ≤ w.heap.size) : FrO B O w w' :=
  ⟨h.os, h.tape, h.output, fun k hk _ => h.block k (by omega) (fun e => by have := o.lt k e.symm; omega), KeepsOthers.of_grownBy h (fun j o' e ho => o.isC j o' e ho)⟩
def toI (xs : List Nat) : List Int := xs.map fun (x : Nat) => (x : Int)
theorem toI_app (xs ys : List Nat) : toI (xs ++ ys) = toI xs ++ toI ys := List.map_append
theorem toI_len (xs : List Nat) : (toI xs).length = xs.length := List.length_map ..
structure WkS (B P D O : Nat) (v : Value) (ps : List Int) (o : List Int) (W : World) : Prop where
  p : Blk W P #[v] 22
  d : Blk W D #[.func (.func 133) #[] #[.pointer (some ⟨P, 0, none⟩), .pointer (some ⟨D, 0, none⟩), .pointer (some ⟨O, 0, none⟩)]] 155
  rd : RdI W v ps
  vb : ps ≠ [] → ∀ k, v.ownBlock = some k → k < B ∧ k ≠ O
  tab : Tab W
  tB : 2 < B ∧ 2 ≠ O
  lt : P < B ∧ D < B ∧ O < B ∧ P ≠ O ∧ D ≠ O
  o : ∃ y, Blk W O #[y] 22 ∧ OwnI W B y o
  hB : B ≤ W.heap.size
theorem WkS.rest {B P D O : Nat} {v : Value} {ps o o' : List Int} {W W' : World} (h : WkS B P D O v ps o W) (f : FrO B O W W') (ho : ∃ y, Blk W' O #[y] 22 ∧ OwnI W' B y o') : WkS B P D O v ps o' W' := by
  obtain ⟨l1, l2, l3, l4, l5⟩ := h.lt
  refine ⟨h.p.keep (f.keep _ l1 l4), h.d.keep (f.keep _ l2 l5), ?_, h.vb, h.tab.keep (f.keep _ h.tB.1 h.tB.2) f.oth.size, h.tB, h.lt, ho, by have := h.hB; have := f.oth.size; omega⟩
  by_cases e : ps = []
  · have := h.rd
    subst e
    exact this.any
  · exact h.rd.keep (fun g _ hg => f.keep g (h.vb e g hg).1 (h.vb e g hg).2) f.oth.size
theorem WkS.below {B P D O : Nat} {v : Value} {ps o : List Int} {W W' : World} (h : WkS B P D O v ps o W) (b : Below W.heap.size W W') : WkS B P D O v ps o W' := by
  obtain ⟨y, h1, h2⟩ := h.o
  exact h.rest (FrO.of_below b h.hB) ⟨y, h1.below b nlr, h2.below b nlr⟩
theorem WkS.own {B P D O E : Nat} {v : Value} {ps o : List Int} {W0 A A' : World} {row : Option Nat} (h : WkS B P D O v ps o A ∧ FrO B O W0 A) (hE : B ≤ E) (hE0 : W0.heap.size ≤ E) (hg : A.grownBy A' row) (hr : ∀ r, row = some r → E ≤ r ∧ ∃ o : Obj, A.heap[r]? = some o ∧ o.isCells = false) : WkS B P D O v ps o A' ∧ FrO B O W0 A' := by
  obtain ⟨⟨y, h1, h2⟩, f⟩ := And.intro h.1.o h.2
  have fa : ∀ k, k < B → k ≠ O → A'.heap[k]? = A.heap[k]? := fun k hk _ => hg.block k (by have := h.1.hB; omega) (fun e => by have := (hr k e.symm).1; omega)
  have f' : FrO B O W0 A' := ⟨hg.os.trans f.os, hg.tape.trans f.tape, hg.output.trans f.output, fun k hk hn => (fa k hk hn).trans (f.keep k hk hn),
    ⟨by have := f.oth.size; have := hg.size; omega, fun l o hl hc => by
      have q := f.oth.same l o hl hc
      have hl0 := (Array.getElem?_eq_some_iff.1 hl).1
      rw [hg.block l (Array.getElem?_eq_some_iff.1 q).1 (fun e => by have := (hr l e.symm).1; omega)]
      exact q⟩⟩
  obtain ⟨l1, l2, l3, l4, l5⟩ := h.1.lt
  refine ⟨⟨h.1.p.keep (fa _ l1 l4), h.1.d.keep (fa _ l2 l5), ?_, h.1.vb, h.1.tab.keep (fa _ h.1.tB.1 h.1.tB.2) hg.size, h.1.tB, h.1.lt, ⟨y, (grownBy_keeps_cells hg (fun r e => (hr r e).2) h1 rfl).trans h1, h2.grown hg (fun k hk e => ?_)⟩, by have := h.1.hB; have := hg.size; omega⟩, f'⟩
  · by_cases e : ps = []
    · have := h.1.rd
      subst e
      exact this.any
    · exact h.1.rd.keep (fun g _ hg' => fa g (h.1.vb e g hg').1 (h.1.vb e g hg').2) hg.size
  · obtain ⟨_, q, q1, q2⟩ := hr k e.symm
    rw [h2.isC k q hk q1] at q2; cases q2
def DownP (f : Nat) (B P D O : Nat) (v : Value) (ps : List Int) : Prop :=
  ∀ (i d : Nat) (W : World) (o : List Int), i < ps.length → Dep ps d i → ps.length - d ≤ f → WkS B P D O v ps o W → o.length + 2400 * f ≤ 200000 →
    Calls Tryz.prog 133 #[.int .i64 i, .pointer (some ⟨P, 0, none⟩), .pointer (some ⟨D, 0, none⟩), .pointer (some ⟨O, 0, none⟩)] W fun e W' => e = .returned (.tuple #[]) ∧ ∃ ys, OrdP ps d i ys ∧ WkS B P D O v ps (o ++ toI ys) W' ∧ FrO B O W W'
theorem g_down {f B P D O : Nat} {v : Value} {ps : List Int} (hn : ps.length ≤ 48) (ht : Tree ps) (ih : DownP f B P D O v ps) : DownP (f + 1) B P D O v ps := by
  intro i d W o hi hd hf S ho
  obtain ⟨p, cap, rfl⟩ := S.rd.val
  have KD := hid (g_kids S.rd hn i)
  have hk48 : kidsN ps i ps.length < 2 ^ 48 := Nat.lt_of_lt_of_le (kids_lt ps i _) (Nat.pow_le_pow_right (by decide) hn)
  have KB := hid (kids_bit ps i ps.length)
  have p0 : W.cell? ⟨P, 0, none⟩ = some (.slice p ps.length cap) := S.p.cell 0
  obtain ⟨s, es⟩ : ∃ s, kidsN ps i ps.length = s := ⟨_, rfl⟩
  rw [es] at KD KB hk48
  clear es
  have HS := hid S
  have hlw := S.hB
  clear S
  have HN := hid hn
  obtain ⟨N, eN⟩ : ∃ N, ps.length = N := ⟨_, rfl⟩
  have EN := hid eN
  rw [eN] at hi hf hn p0 KD HS KB ih ⊢
  clear eN
  refine (callsIn_wide (n := 5)).1 ?_
  refine callsIn_of_wp_marks Tryz.func133 rfl trivial ?_ rfl
  simp only [Tryz.ntmps133, List.size_toArray, List.length_cons, List.length_nil, Nat.reduceAdd, Nat.reduceSub, Array.replicate_succ, Array.replicate_zero, List.push_toArray, List.append_toArray, List.nil_append, List.cons_append]
  gi_wp2_with (first
    | (refine ⟨trivial, ?_⟩; gi_at_call 80; refine (callsIn_wide.2 KD.out).mono ?_; rintro e W1 ⟨rfl, rfl⟩)
    | (refine ⟨trivial, ?_⟩; gi_at_call 134; refine (callsIn_wide.2 (cw_each _ _)).mono ?_; rintro e W2 ⟨rfl, rfl⟩))
  have X1 := Blk.new W #[.int .u64 s] 53
  have hb1 : Below W.heap.size W (W.alloc (.cells #[.int .u64 s] 53)) := (Below.refl _ _).alloc nlr _
  have S1 := HS.out.below hb1
  have hs1 : (W.alloc (.cells #[.int .u64 s] 53)).heap.size = W.heap.size + 1 := by simp
  have F1 : FrO B O W (W.alloc (.cells #[.int .u64 s] 53)) := FrO.of_below hb1 hlw
  generalize (W.alloc (.cells #[.int .u64 s] 53)) = w0 at *
  have s0 : w0.cell? ⟨W.heap.size, 0, none⟩ = some (.int .u64 s) := X1.cell 0
  have TB := hid S1.tB
  clear hb1 KD HS
  refine wpIn_rangeFunc_ownG (F := Fence.wide) rfl (by decide) (gf := 173) (lb := #[.pointer (some ⟨W.heap.size, 0, none⟩)]) rfl trivial (enters_of Tryz.func173 (by kernel_rfl) rfl)
    (crew_stops 4 (by decide) W.heap.size s hk48 (by omega) s0 S1.tab) (fun h k => h.trans k) (fun W' l o1 o2 hl _ _ _ => ⟨by simp, World.putObj_heap_other (by have := S1.tab.1; omega)⟩) (Below.refl _ _) (fun _ => rfl)
    (fun (pre : List (InS s)) W' => ∃ ys, (ys.length ≤ pre.length * 48 ∧ ((pre.map (·.1)).Nodup → KidsP ps d (pre.map (·.1)) ys)) ∧ WkS B P D O (.slice p N cap) ps (o ++ toI ys) W' ∧ FrO B O W W')
    (fun _ _ _ => False)
    (fun _ _ _ _ ⟨ys, h1, h2⟩ hg hr => ⟨ys, h1, WkS.own h2 (by omega) (by omega) hg hr⟩)
    (fun _ _ _ _ _ hs _ _ => hs)
    ⟨[], ⟨Nat.zero_le _, fun _ => KidsP.nil ps d⟩, by rw [show o ++ toI [] = o from List.append_nil o]; exact S1, F1⟩
    (fun x : InS s => { tmps := #[.int .i64 i, .pointer (some ⟨P, 0, none⟩), .pointer (some ⟨D, 0, none⟩), .pointer (some ⟨O, 0, none⟩), undef, .int .i64 x.1, .slice p N cap, .int .i64 i, .int .u64 s, .func (.func 173) #[] #[.pointer (some ⟨W.heap.size, 0, none⟩)], .int .i64 x.1, undef, undef, undef, undef, undef, undef, undef], defers := [] }) ?assign ?body ?done ?stop
  case assign =>
    intro l x W' K hK
    gi_wp2
    exact hK
  case body =>
    rintro l0 pre ⟨k, hk, hks⟩ W1 ⟨ys, ⟨hyl, hkp⟩, S2, F2⟩ hpl
    obtain ⟨hkN, hki⟩ := (KB.out k).1 hks
    have hdk : Dep ps (d + 1) k := ⟨i, by rw [EN.out]; exact hi, hki, hd⟩
    have hdn : d + 1 < N := by
      obtain ⟨d', hd', hdd⟩ := ht k (by rw [EN.out]; exact hkN)
      have := hdd.uniq hdk
      rw [EN.out] at hd'; omega
    have hyl2 : ys.length ≤ 2400 := by omega
    have CD := hid (ih k (d + 1) W1 (o ++ toI ys) (by rw [EN.out]; exact hkN) hdk (by rw [EN.out]; omega) S2 (by rw [List.length_append, toI_len]; omega))
    have d0 : W1.cell? ⟨D, 0, none⟩ = some (.func (.func 133) #[] #[.pointer (some ⟨P, 0, none⟩), .pointer (some ⟨D, 0, none⟩), .pointer (some ⟨O, 0, none⟩)]) := S2.d.cell 0
    have HKP := hid hkp
    have FR := hid F2
    clear hkp hki S2 F2
    dsimp only
    gi_wp2_with (refine ⟨trivial, ?_⟩; gi_at_call 133; refine (CallsIn.inRound l0 (callsIn_wide.2 CD.out)).mono ?_; rintro e W3 ⟨rfl, zs, o3, S3, F3⟩)
    have hzl := o3.len
    have tb := TB.out
    refine ⟨⟨F3.oth.size, fun k o _ => F3.oth.same k o⟩, ⟨F3.oth.size, F3.keep _ tb.1 tb.2⟩, ys ++ zs, ⟨?_, fun hnd => ?_⟩, ?_, FR.out.trans F3⟩
    · rw [List.length_append, List.length_append]
      rw [EN.out] at hzl
      simp only [List.length_cons, List.length_nil]
      omega
    · rw [List.map_append, List.nodup_append] at hnd
      rw [List.map_append]
      exact (HKP.out hnd.1).step (fun q => hnd.2.2 k q k (by simp) rfl) o3
    · rw [toI_app, ← List.append_assoc]; exact S3
  case done =>
    rintro D1 xs W1 hD ⟨hnd, hall⟩ ⟨ys, ⟨hyl, hkp⟩, S2, F2⟩ hK
    have OP := hid ((hkp hnd).fin (by rw [EN.out]; exact hi) hd (fun j => by rw [hall, KB.out, EN.out]))
    have hyl2 := (hkp hnd).len
    rw [EN.out] at hyl2
    obtain ⟨y, B1, own⟩ := S2.o
    obtain ⟨py, cy, rfl⟩ := own.val
    have o0 : W1.cell? ⟨O, 0, none⟩ = some (.slice py (o ++ toI ys).length cy) := B1.cell 0
    have of := B1.free 0
    have hol := B1.lt
    have HS := hid S2
    have FR := hid F2
    have HB := S2.hB
    have hl3 := S2.lt.2.2.1
    have hX : (o ++ toI ys).length < 2000000 := by rw [List.length_append, toI_len]; omega
    have hDB : B ≤ D1 := by omega
    clear hkp hnd hall S2 F2 hyl ih ht KB hd TB hk48 X1 S1 F1 s0 ho hf
    generalize hZ : o ++ toI ys = Z at *
    have EZ := hid hZ
    clear hZ
    gi_wp2_with (gi_at_builtin; refine appendI_in _ _ own (by omega) (by omega) rfl rfl rfl rfl rfl ?_; intro v6 W6 o6 g6; obtain ⟨p6, k6, rfl⟩ := o6.val; have B6 : Blk W6 O #[.slice py Z.length cy] 22 := B1.keep (g6.block O hol (fun e => by have := own.lt O e.symm; omega)); have of6 := B6.free 0; have hol6 := B6.lt; have c6 : W6.cell? ⟨O, 0, none⟩ = some (.slice py Z.length cy) := B6.cell 0)
    have F6 : FrO B O W (W6.setCell ⟨O, 0, none⟩ (.slice p6 (Z.length + 1) k6)) := (FR.out.trans (FrO.row g6 own HB)).trans (FrO.set W6 0 _)
    have eZ : Z ++ [(i : Int)] = o ++ toI (ys ++ [i]) := by rw [toI_app, ← List.append_assoc, EZ.out]; rfl
    have hz1 : (Z ++ [(i : Int)]).length = Z.length + 1 := by simp
    have S6 : WkS B P D O (.slice p N cap) ps (o ++ toI (ys ++ [i])) (W6.setCell ⟨O, 0, none⟩ (.slice p6 (Z.length + 1) k6)) := by
      refine HS.out.rest ((FrO.row g6 own HB).trans (FrO.set W6 0 _)) ⟨.slice p6 (Z.length + 1) k6, B6.set 0 _, ?_⟩
      rw [← eZ, ← hz1]
      exact o6.keep (fun k hk => Below.heap_setCell W6 ⟨O, 0, none⟩ _ k (by have := o6.lt k hk; show k ≠ O; omega))
    have hD2 : (W6.setCell ⟨O, 0, none⟩ (.slice p6 (Z.length + 1) k6)).heap[D1]? = some (.deferred (some [])) :=
      (FrO.row (O := O) g6 own HB |>.trans (FrO.set W6 0 _)).oth.same D1 _ hK rfl
    have Q := WkS.own (E := w0.heap.size) (W0 := W) ⟨S6, F6⟩ (by omega) (by omega) (grownBy_putObj' _ D1 (.deferred none)) (fun r e => by cases e; exact ⟨hD, _, hD2, rfl⟩)
    refine ⟨by simp, .inl ⟨_, _, rfl, run_takeDeferred hD2, ?_⟩⟩
    exact ⟨_, by simp [results, Tryz.f133, go_sem], rfl, ys ++ [i], OP.out, Q.1, Q.2⟩
  case stop => exact fun _ _ _ _ _ _ h => h.elim
theorem g_downs {B P D O : Nat} {v : Value} {ps : List Int} (hn : ps.length ≤ 48) (ht : Tree ps) : ∀ f, DownP f B P D O v ps
  | 0 => fun i d W o hi hd hf => by
    obtain ⟨d', hd', hdd⟩ := ht i hi
    have := hdd.uniq hd
    omega
  | f + 1 => g_down hn ht (g_downs hn ht f)
theorem g_walk {w : World} {v : Value} {ps : List Int} {r : Nat} (hr : RdI w v ps) (R : Right ps r) (hT : Tab w) :
    Calls Tryz.prog 78 #[v, .int .i64 r] w fun e w' => ∃ y ys, OrdP ps 0 r ys ∧ e = .returned y ∧ OwnI w' w.heap.size y (toI ys) ∧ Below w.heap.size w w' := by
  obtain ⟨p, cap, rfl⟩ := hr.val
  have hrt := R.rt
  have h48 := R.n2
  have DN := hid (g_downs (B := w.heap.size + 3) (P := w.heap.size) (D := w.heap.size + 1 + 1) (O := w.heap.size + 1) (v := .slice p ps.length cap) R.n2 R.tree ps.length r 0)
  have hd0 : Hid (Dep ps 0 r) := (R.root r R.rt).2 rfl
  obtain ⟨W3, eW3⟩ : ∃ W, (((w.alloc (.cells #[.slice p ps.length cap] 22)).alloc (.cells #[.slice none 0 0] 22)).alloc (.cells #[.nilFunc] 155)) = W := ⟨_, rfl⟩
  have hs3 : W3.heap.size = w.heap.size + 3 := by rw [← eW3]; simp
  have B1 : Blk W3 w.heap.size #[.slice p ps.length cap] 22 := by rw [← eW3]; exact ((Blk.new w _ _).alloc _).alloc _
  have B2 : Blk W3 (w.heap.size + 1) #[.slice none 0 0] 22 := by
    rw [← eW3]
    have := Blk.new (w.alloc (.cells #[.slice p ps.length cap] 22)) #[.slice none 0 0] 22
    rw [World.size_alloc] at this
    exact this.alloc _
  have B3 : Blk W3 (w.heap.size + 1 + 1) #[.nilFunc] 155 := by
    rw [← eW3]
    have := Blk.new ((w.alloc (.cells #[.slice p ps.length cap] 22)).alloc (.cells #[.slice none 0 0] 22)) #[.nilFunc] 155
    rw [World.size_alloc, World.size_alloc] at this
    exact this
  have hb3 : Below w.heap.size w W3 := by
    rw [← eW3]
    exact (((Below.refl _ _).alloc nlr _).alloc (by simp) _).alloc (by simp; omega) _
  obtain ⟨W4, eW4⟩ : ∃ W, W3.setCell ⟨w.heap.size + 1 + 1, 0, none⟩ (.func (.func 133) #[] #[.pointer (some ⟨w.heap.size, 0, none⟩), .pointer (some ⟨w.heap.size + 1 + 1, 0, none⟩), .pointer (some ⟨w.heap.size + 1, 0, none⟩)]) = W := ⟨_, rfl⟩
  have hb4 : Below w.heap.size w W4 := by rw [← eW4]; exact hb3.setCell (p := ⟨w.heap.size + 1 + 1, 0, none⟩) (by show _ ≤ w.heap.size + 1 + 1; omega) _
  have hs4 : W4.heap.size = w.heap.size + 3 := by rw [← eW4]; simpa using hs3
  have S4 : WkS (w.heap.size + 3) w.heap.size (w.heap.size + 1 + 1) (w.heap.size + 1) (.slice p ps.length cap) ps [] W4 := by
    refine ⟨?_, ?_, hr.below hb4 nlr, fun hne k hk => ?_, hT.below hb4, ⟨by have := hT.1; omega, by have := hT.1; omega⟩, by omega, ⟨.slice none 0 0, ?_, OwnI.nil _ _⟩, by omega⟩
    · rw [← eW4]; exact B1.keep (Below.heap_setCell W3 ⟨w.heap.size + 1 + 1, 0, none⟩ _ _ (by show _ ≠ w.heap.size + 1 + 1; omega))
    · rw [← eW4]; exact B3.set 0 _
    · rcases hr.ltE with q | q
      · exact absurd q hne
      · have := q k hk; omega
    · rw [← eW4]; exact B2.keep (Below.heap_setCell W3 ⟨w.heap.size + 1 + 1, 0, none⟩ _ _ (by show _ ≠ w.heap.size + 1 + 1; omega))
  have CD := hid (DN.out W4 [] hrt hd0.out (by omega) S4 (by simp; omega))
  have f3 := B3.free 0
  have c3 : W3.cell? ⟨w.heap.size + 1 + 1, 0, none⟩ = some .nilFunc := B3.cell 0
  have l3 := B3.lt
  have d4 : W4.cell? ⟨w.heap.size + 1 + 1, 0, none⟩ = some (.func (.func 133) #[] #[.pointer (some ⟨w.heap.size, 0, none⟩), .pointer (some ⟨w.heap.size + 1 + 1, 0, none⟩), .pointer (some ⟨w.heap.size + 1, 0, none⟩)]) := S4.d.cell 0
  clear DN hd0 hr hT R S4 B1 B2 B3 hb3
  go_enter Tryz.func78, Tryz.ntmps78
  go_wp2_with fail
  refine CD.out.mono ?_
  rintro e w5 ⟨rfl, ys, o5, S5, F5⟩
  obtain ⟨y, Y5, own⟩ := S5.o
  have c5 : w5.cell? ⟨w.heap.size + 1, 0, none⟩ = some y := Y5.cell 0
  have OP := hid o5
  have OW : Hid (OwnI w5 w.heap.size y (toI ys)) := by
    have := own.mono (B' := w.heap.size) (by omega)
    rwa [List.nil_append] at this
  have hb5 : Below w.heap.size w w5 := by
    have h2 : Below w.heap.size W4 w5 := ⟨F5.os, F5.tape, F5.output, F5.oth.size, fun k hk => F5.keep k (by omega) (by omega)⟩
    exact hb4.trans h2
  clear S5 own o5 F5
  go_wp2_with fail
  go_ret
  exact ⟨y, ys, OP.out, rfl, OW.out, hb5⟩
theorem g_order {w : World} {v : Value} {ps : List Int} (hr : RdI w v ps) (hn : ps.length ≤ 48) (hT : Tab w) :
    Calls Tryz.prog 28 #[v] w fun e w' => ((rightB ps = false ∧ e = .returned (.tuple #[.slice none 0 0, .int .i64 15])) ∨ (rightB ps = true ∧ ∃ r y ys, Right ps r ∧ OrdP ps 0 r ys ∧ e = .returned (.tuple #[y, .int .i64 0]) ∧ OwnI w' w.heap.size y (toI ys))) ∧ Below w.heap.size w w' := by
  have RT := hid (g_root hr hn)
  have WK := hid (fun W r (y : RdI W v ps) (R : Right ps r) (t : Tab W) => g_walk y R t)
  have HR := hid hr
  have HT := hid hT
  obtain ⟨p, cap, rfl⟩ := hr.val
  clear hr hT
  go_enter Tryz.func28, Tryz.ntmps28
  go_wp2_with fail
  refine RT.out.mono ?_
  rintro e w2 ⟨⟨hb, rfl⟩ | ⟨hb, r, R, rfl⟩, hb2⟩
  · go_wp2_with fail
    go_ret2
    exact ⟨.inl ⟨hb, rfl⟩, hb2⟩
  · have C := hid (WK.out w2 r (HR.out.below hb2 nlr) R (HT.out.below hb2))
    have RR := hid R
    have HB := hid hb
    clear R hb
    go_wp2_with fail
    refine C.out.mono ?_
    rintro e w3 ⟨y, ys, o3, rfl, own, hb3⟩
    obtain ⟨py, cy, rfl⟩ := own.val
    have OP := hid o3
    have OW := hid (own.mono hb2.size)
    clear o3 own
    go_wp2_with fail
    go_ret2
    exact ⟨.inr ⟨HB.out, r, _, ys, RR.out, OP.out, rfl, OW.out⟩, hb2.trans (hb3.mono hb2.size)⟩
end Go.Proofs.YtdnlejboijkcfaaGreatDoor
