/- Texts laid together. -/
import Derived.Test.YtlciofheonbkiaaGreatP48
import Derived.Test.YtlciofheonbkiaaGreatP12
import Derived.Test.YtlciofheonbkiaaGreatP10
import Derived.Test.YtlciofheonbkiaaGreatP23
namespace Go.Proofs.YtlciofheonbkiaaGreat
set_option maxHeartbeats 8000000
set_option maxRecDepth 100000
open Go.RowKit Nl
def MinP (a b c : Int) : Prop := c ≤ a ∧ c ≤ b ∧ (c = a ∨ c = b)
def MaxP (a b c : Int) : Prop := a ≤ c ∧ b ≤ c ∧ (c = a ∨ c = b)
theorem ChB.setS' {S : Nat → Prop} {w w' : World} (h : ChB S w w') (p : Addr) (hp : S p.block) (v : Value) : ChB S w (w'.setCell p v) :=
  have b := (Below.refl 0 w').setCell (p := p) (Nat.zero_le _) v
  ⟨b.os.trans h.os, b.tape.trans h.tape, b.output.trans h.output, Nat.le_trans h.size b.size, fun k hk hn => by
    rw [Below.heap_setCell _ p _ k (fun e => hn (by rw [e]; exact hp))]
    exact h.block k hk hn⟩
def BoxP (Q : Int → Int → Int → Prop) (bx : Nat) (A B lo hi : Int) (W : World) (e : Ending) (W' : World) : Prop :=
  ∃ A' B', e = .returned (.tuple #[]) ∧ W' = (W.setCell ⟨bx, 0, none⟩ (.int .i64 A')).setCell ⟨bx, 1, none⟩ (.int .i64 B') ∧ Q A lo A' ∧ Q B hi B'
theorem bd_least1 (bx : Nat) (A B lo hi wt : Int) (W : World) (X : Blk W bx #[.int .i64 A, .int .i64 B] 48) :
    Calls Tryz.prog 45 #[.int .i64 lo, .int .i64 hi, .int .i64 wt, .pointer (some ⟨bx, 0, none⟩)] W (BoxP MinP bx A B lo hi W) := by
  have c0 : W.cell? ⟨bx, 0, none⟩ = some (.int .i64 A) := X.cell 0
  have c1 : W.cell? ⟨bx, 1, none⟩ = some (.int .i64 B) := X.cell 1
  have f0 := X.free 0
  have f1 := X.free 1
  have xl := X.lt
  have PP : Hid (∀ A' B', MinP A lo A' → MinP B hi B' → BoxP MinP bx A B lo hi W (.returned (.tuple #[])) ((W.setCell ⟨bx, 0, none⟩ (.int .i64 A')).setCell ⟨bx, 1, none⟩ (.int .i64 B'))) := fun A' B' h1 h2 => ⟨A', B', rfl, rfl, h1, h2⟩
  go_enter Tryz.func45, Tryz.ntmps45
  go_wp2_with fail
  all_goals
    go_end0
    refine PP.out _ _ ?_ ?_ <;> (unfold MinP; omega)
theorem bd_greatest1 (bx : Nat) (A B lo hi wt : Int) (W : World) (X : Blk W bx #[.int .i64 A, .int .i64 B] 48) :
    Calls Tryz.prog 46 #[.int .i64 lo, .int .i64 hi, .int .i64 wt, .pointer (some ⟨bx, 0, none⟩)] W (BoxP MaxP bx A B lo hi W) := by
  have c0 : W.cell? ⟨bx, 0, none⟩ = some (.int .i64 A) := X.cell 0
  have c1 : W.cell? ⟨bx, 1, none⟩ = some (.int .i64 B) := X.cell 1
  have f0 := X.free 0
  have f1 := X.free 1
  have xl := X.lt
  have PP : Hid (∀ A' B', MaxP A lo A' → MaxP B hi B' → BoxP MaxP bx A B lo hi W (.returned (.tuple #[])) ((W.setCell ⟨bx, 0, none⟩ (.int .i64 A')).setCell ⟨bx, 1, none⟩ (.int .i64 B'))) := fun A' B' h1 h2 => ⟨A', B', rfl, rfl, h1, h2⟩
  go_enter Tryz.func46, Tryz.ntmps46
  go_wp2_with fail
  all_goals
    go_end0
    refine PP.out _ _ ?_ ?_ <;> (unfold MaxP; omega)
def EachP (R : Nat → Int → Int → Prop) (n bx : Nat) (w : World) (e : Ending) (w' : World) : Prop :=
  ∃ A B, e = .returned (.tuple #[]) ∧ Blk w' bx #[.int .i64 A, .int .i64 B] 48 ∧ R n A B ∧ ChB (fun j => j = bx) w w'
def EachRel (R : Nat → Int → Int → Prop) (n bx : Nat) (w : World) (gn : Nat) (i : Value) (wr : World) : Prop :=
  ∃ (j : Nat) (A B : Int), i = .int .i64 j ∧ j ≤ n ∧ n ≤ gn + j ∧ Blk wr bx #[.int .i64 A, .int .i64 B] 48 ∧ R j A B ∧ ChB (fun j => j = bx) w wr
theorem bd_each {w : World} {dg q g h m bx : Nat} {kind l k A0 B0 : Int} {zs : List Nd} (fn : Nat) (Q : Int → Int → Int → Prop) (R : Nat → Int → Int → Prop) (eg : ∀ args w, (callFunc fn args).run Tryz.prog w = .ok (.enter fn args) w)
    (HC : ∀ W A B lo hi wt, Blk W bx #[.int .i64 A, .int .i64 B] 48 → Calls Tryz.prog fn #[.int .i64 lo, .int .i64 hi, .int .i64 wt, .pointer (some ⟨bx, 0, none⟩)] W (BoxP Q bx A B lo hi W))
    (step : ∀ j a c A B A' B', j < zs.length → zs.getD j (0, 0) = (a, c) → R j A B → Q A (endsLo l a) A' → Q B (endsHi l a) B' → R (j + 1) A' B')
    (d : DgV w dg q g h kind l k m zs) (hm : m ≤ 100000) (hz : zs.length ≤ 90000) (X : Blk w bx #[.int .i64 A0, .int .i64 B0] 48) (R0 : R 0 A0 B0) :
    Calls Tryz.prog 44 #[.pointer (some ⟨dg, 0, none⟩), .func (Fn.func fn) #[] #[.pointer (some ⟨bx, 0, none⟩)]] w (EachP R zs.length bx w) := by
  have CF := hid (dg_conf d)
  have ND := hid (fun W (y : DgV W dg q g h kind l k m zs) => dg_nodes y hm)
  have HCH := hid HC
  have STEP := hid step
  have IDS := hid (fun z (hz : z ∈ zs) => d.inv.roll.ids z hz)
  have xl := X.lt
  clear HC step
  go_enter Tryz.func44, Tryz.ntmps44
  go_wp2_with fail
  refine CF.out.mono ?_
  rintro e w1 ⟨rfl, hb1⟩
  have ND1 := ND.out w1 (d.below hb1 nlr)
  have s1 := hb1.size
  go_wp2_with (rename_i K hK; show K (Act.put _ (some 12) (.int .i64 l)) w1; refine hK _ _ ?_)
  refine ND1.mono ?_
  rintro e w2 ⟨v, rfl, ho, hb2⟩
  have hol := ho.lt
  have rn := ho.rd
  obtain ⟨p, cap, rfl⟩ := ho.val
  have hbw := hb1.trans (hb2.mono hb1.size)
  have HR := hid rn
  have HOL := hid hol
  obtain ⟨n, en⟩ : ∃ n, zs.length = n := ⟨_, rfl⟩
  rw [en] at hz HR ⊢
  have EL := hid en
  have RR : Hid (EachRel R n bx w n (.int .i64 (0 : Nat)) w2) := ⟨0, A0, B0, rfl, Nat.zero_le _, nlr, X.below hbw nlr, R0, ChB.of_below hbw⟩
  have HB2 := hid hbw
  clear ho rn hol ND1 ND CF d hb1 hb2 en X R0 hbw
  go_wp2_with fail
  go_loopg [16] n (fun gn i wr => EachRel R n bx w gn i wr ∧ (∀ k, (Value.slice p n cap).ownBlock = some k → wr.heap[k]? = w2.heap[k]?) ∧ w2.heap.size ≤ wr.heap.size)
  case atStart => exact ⟨RR.out, fun _ _ => rfl, nlr⟩
  case round =>
    obtain ⟨⟨j, A, B, rfl, hj, hgn, Xb, HRj, hch⟩, hkp, hsz⟩ := hrel
    clear RR
    by_cases hlt : j < n
    · have hlt' : j < zs.length := by rw [EL.out]; exact hlt
      have rdj := HR.out.keep (w' := wr) (fun g _ hv => hkp g hv) hsz
      obtain ⟨gs, off, a, c, rfl, hac, hgs, q0, q1⟩ := rdj.at (k := j) hlt'
      have hmem : (a, c) ∈ zs := by rw [← hac]; simp [List.getD, hlt']
      have EN := hid (fun W => t_ends W (IDS.out _ hmem))
      have ST := hid (fun A' B' => STEP.out j a c A B A' B' hlt' hac HRj)
      have z0 : decide ((j : Int) < (n : Int)) = true := decide_eq_true (by omega)
      have Z1 := Blk.new wr #[.int .i64 a, .int .i64 c] 107
      have hb3 : Below wr.heap.size wr (wr.alloc (.cells #[.int .i64 a, .int .i64 c] 107)) := (Below.refl _ _).alloc nlr _
      have hgw : gs < wr.heap.size := hgs
      have hgb : bx ≠ gs := fun e => by
        have h1 := HOL.out gs rfl
        omega
      have hxr := Xb.lt
      clear hac hmem HRj rdj
      go_wp2_with fail
      generalize hW : (wr.alloc (.cells #[.int .i64 a, .int .i64 c] 107)) = w3 at *
      clear hW
      refine (EN.out _).mono ?_
      rintro e w4 ⟨rfl, hb4⟩
      have Z4 := Z1.below hb4 nlr
      have hb5 := hb3.trans (hb4.mono hb3.size)
      have X4 := Xb.below hb5 nlr
      have y1 : w4.cell? ⟨wr.heap.size, 1, none⟩ = some (.int .i64 c) := Z4.cell 1
      have CL := hid (HCH.out w4 A B (endsLo l a) (endsHi l a) c X4)
      generalize endsLo l a = lo at *
      generalize endsHi l a = hi at *
      clear EN Z1 Z4 hb3 hb4 q0 q1 X4
      go_wp2_with fail
      refine CL.out.mono ?_
      rintro e w' ⟨A', B', rfl, rfl, hA, hB⟩
      have X5 := ((Xb.below hb5 nlr).set 0 (.int .i64 A')).set 1 (.int .i64 B')
      have hch5 : ChB (fun j => j = bx) w ((w4.setCell ⟨bx, 0, none⟩ (.int .i64 A')).setCell ⟨bx, 1, none⟩ (.int .i64 B')) := (((hch.trans (ChB.of_below (S := fun j => j = bx) hb5) (fun _ _ q => q)).setS' ⟨bx, 0, none⟩ rfl _).setS' ⟨bx, 1, none⟩ rfl _)
      have hkp5 : ∀ k, (Value.slice (some ⟨gs, off, none⟩) n cap).ownBlock = some k → ((w4.setCell ⟨bx, 0, none⟩ (.int .i64 A')).setCell ⟨bx, 1, none⟩ (.int .i64 B')).heap[k]? = w2.heap[k]? := fun k hk => by
        have e : gs = k := Option.some.inj hk
        subst e
        rw [Below.heap_setCell _ ⟨bx, 1, none⟩ _ gs (Ne.symm hgb), Below.heap_setCell _ ⟨bx, 0, none⟩ _ gs (Ne.symm hgb), hb5.block gs hgw]
        exact hkp gs hk
      have hsz5 : w2.heap.size ≤ ((w4.setCell ⟨bx, 0, none⟩ (.int .i64 A')).setCell ⟨bx, 1, none⟩ (.int .i64 B')).heap.size := by have := hb5.size; simp; omega
      have R5 := ST.out A' B' hA hB
      have R9 : Hid (∀ i, i = Value.int .i64 ((j : Nat) + 1 : Int) → EachRel R n bx w (n - (j + 1)) i ((w4.setCell ⟨bx, 0, none⟩ (.int .i64 A')).setCell ⟨bx, 1, none⟩ (.int .i64 B'))) := by
        intro i hi
        exact ⟨j + 1, A', B', by rw [hi]; simp, by omega, by omega, X5, R5, hch5⟩
      have KP := hid (And.intro hkp5 hsz5)
      clear X5 hch5 hkp5 hsz5 R5 ST CL hA hB hch hkp Xb
      go_wp2_with fail
      go_roundg (n - (j + 1))
      case rel => exact ⟨R9.out _ (by go_num), KP.out.1, KP.out.2⟩
      case measure => omega
    · obtain rfl : j = n := by omega
      have z0 : decide ((j : Int) < (j : Int)) = false := decide_eq_false (by omega)
      have P : Hid (EachP R j bx w (.returned (.tuple #[])) wr) := ⟨A, B, rfl, Xb, HRj, hch⟩
      clear Xb HRj hch hkp
      go_wp2_with fail
      go_end0
      rw [EL.out]
      exact P.out
def BothP (a b : Int) (w : World) (e : Ending) (w' : World) : Prop := e = .returned (.tuple #[.agg #[.int .i64 a, .int .i64 b], .int .i64 0]) ∧ Below w.heap.size w w'
theorem bd_wrong {w : World} {dg q g h m : Nat} {kind l k : Int} {zs : List Nd} (d : DgV w dg q g h kind l k m zs) (h0 : sumL zs ≠ 0) : Calls Tryz.prog 43 #[.pointer (some ⟨dg, 0, none⟩)] w (Ret (.int .i64 0) w) := by
  have DN := hid (dg_n d)
  have z : (sumL zs == 0) = false := by simpa using h0
  generalize sumL zs = S at *
  go_enter Tryz.func43, Tryz.ntmps43
  go_wp2_with fail
  refine DN.out.mono ?_
  rintro e w2 ⟨rfl, rfl⟩
  go_wp2_with fail
  go_ret
  exact ⟨rfl, rfl⟩
def LeastR (l : Int) (zs : List Nd) (j : Nat) (A B : Int) : Prop := (∀ z ∈ zs.take j, A ≤ endsLo l z.1) ∧ ((∃ z ∈ zs.take j, endsHi l z.1 = B) ∨ (j = 0 ∧ B = 9223372036854775807))
def GreatR (l : Int) (zs : List Nd) (j : Nat) (A B : Int) : Prop := ((∃ z ∈ zs.take j, endsLo l z.1 = A) ∨ (j = 0 ∧ A = 0)) ∧ (∀ z ∈ zs.take j, endsHi l z.1 ≤ B)
theorem take_mem {zs : List Nd} {j : Nat} (hj : j < zs.length) {a c : Int} (e : zs.getD j (0, 0) = (a, c)) {z : Nd} : z ∈ zs.take (j + 1) ↔ z ∈ zs.take j ∨ z = (a, c) := by
  have e2 : zs[j] = (a, c) := by rw [← e]; simp [List.getD, hj]
  rw [List.take_succ_eq_append_getElem hj, e2]
  simp
theorem least_step {l : Int} {zs : List Nd} (hb : ∀ z ∈ zs, endsHi l z.1 < 9223372036854775807) (j : Nat) (a c A B A' B' : Int) (hj : j < zs.length) (e : zs.getD j (0, 0) = (a, c)) (h : LeastR l zs j A B) (hA : MinP A (endsLo l a) A') (hB : MinP B (endsHi l a) B') : LeastR l zs (j + 1) A' B' := by
  obtain ⟨h1, h2⟩ := h
  obtain ⟨a1, a2, -⟩ := hA
  obtain ⟨b1, b2, b3⟩ := hB
  have hm : (a, c) ∈ zs := by rw [← e]; simp [List.getD, hj]
  have hx := hb _ hm
  refine ⟨fun z hz => ?_, .inl ?_⟩
  · rcases (take_mem hj e).1 hz with hz | rfl
    · have := h1 z hz; omega
    · exact a2
  · rcases b3 with rfl | rfl
    · rcases h2 with ⟨z, hz, hq⟩ | ⟨-, rfl⟩
      · exact ⟨z, (take_mem hj e).2 (.inl hz), hq⟩
      · simp only at hx; omega
    · exact ⟨(a, c), (take_mem hj e).2 (.inr rfl), rfl⟩
theorem great_step {l : Int} {zs : List Nd} (hb : ∀ z ∈ zs, 0 ≤ endsLo l z.1) (j : Nat) (a c A B A' B' : Int) (hj : j < zs.length) (e : zs.getD j (0, 0) = (a, c)) (h : GreatR l zs j A B) (hA : MaxP A (endsLo l a) A') (hB : MaxP B (endsHi l a) B') : GreatR l zs (j + 1) A' B' := by
  obtain ⟨h1, h2⟩ := h
  obtain ⟨a1, a2, a3⟩ := hA
  obtain ⟨b1, b2, -⟩ := hB
  have hm : (a, c) ∈ zs := by rw [← e]; simp [List.getD, hj]
  have hx := hb _ hm
  refine ⟨.inl ?_, fun z hz => ?_⟩
  · rcases a3 with rfl | rfl
    · rcases h1 with ⟨z, hz, hq⟩ | ⟨-, rfl⟩
      · exact ⟨z, (take_mem hj e).2 (.inl hz), hq⟩
      · simp only at hx; exact ⟨(a, c), (take_mem hj e).2 (.inr rfl), by show endsLo l a = _; omega⟩
    · exact ⟨(a, c), (take_mem hj e).2 (.inr rfl), rfl⟩
  · rcases (take_mem hj e).1 hz with hz | rfl
    · have := h2 z hz; omega
    · exact b2
theorem ret_both {R : Ending → World → Prop} {tmps : Array Value} {W : World} {g : Nat} {a b : Int} (Y : Blk W g #[.int .i64 a, .int .i64 b] 48) (h2 : tmps.getD 2 undef = .pointer (some ⟨g, 0, none⟩)) (h3 : tmps.getD 3 undef = .int .i64 0) (hR : R (.returned (.tuple #[.agg #[.int .i64 a, .int .i64 b], .int .i64 0])) W) :
    bodyPost Tryz.prog Tryz.f13 R .ret ⟨tmps, []⟩ W := by
  refine bodyPost_ret (v := .tuple #[.agg #[.int .i64 a, .int .i64 b], .int .i64 0]) ?_ rfl hR
  have y0 : W.cell? ⟨g, 0, none⟩ = some (.int .i64 a) := Y.cell 0
  have y1 : W.cell? ⟨g, 1, none⟩ = some (.int .i64 b) := Y.cell 1
  have h2' : tmps[2]?.getD undef = .pointer (some ⟨g, 0, none⟩) := by simpa using h2
  have h3' : tmps[3]?.getD undef = .int .i64 0 := by simpa using h3
  simp [results, Tryz.results13, h2', h3', go_sem, y0, y1]
theorem ret_bothG {R : Ending → World → Prop} {tmps : Array Value} {W : World} {g : Nat} {a b : Int} (Y : Blk W g #[.int .i64 a, .int .i64 b] 48) (h2 : tmps.getD 2 undef = .pointer (some ⟨g, 0, none⟩)) (h3 : tmps.getD 3 undef = .int .i64 0) (hR : R (.returned (.tuple #[.agg #[.int .i64 a, .int .i64 b], .int .i64 0])) W) :
    bodyPost Tryz.prog Tryz.f14 R .ret ⟨tmps, []⟩ W := by
  refine bodyPost_ret (v := .tuple #[.agg #[.int .i64 a, .int .i64 b], .int .i64 0]) ?_ rfl hR
  have y0 : W.cell? ⟨g, 0, none⟩ = some (.int .i64 a) := Y.cell 0
  have y1 : W.cell? ⟨g, 1, none⟩ = some (.int .i64 b) := Y.cell 1
  have h2' : tmps[2]?.getD undef = .pointer (some ⟨g, 0, none⟩) := by simpa using h2
  have h3' : tmps[3]?.getD undef = .int .i64 0 := by simpa using h3
  simp [results, Tryz.results14, h2', h3', go_sem, y0, y1]
theorem bd_least {w : World} {dg q g h m : Nat} {kind l k : Int} {zs : List Nd} (d : DgV w dg q g h kind l k m zs) (hm : m ≤ 100000) (hz : zs.length ≤ 90000) (h0 : sumL zs ≠ 0) (hb : ∀ z ∈ zs, endsHi l z.1 < 9223372036854775807) :
    Calls Tryz.prog 13 #[.pointer (some ⟨dg, 0, none⟩)] w fun e w' => ∃ a b, BothP a b w e w' ∧ LeastR l zs zs.length a b := by
  have WR := hid (fun W (y : DgV W dg q g h kind l k m zs) => bd_wrong y h0)
  have hb1 : Below w.heap.size w (w.alloc (.cells #[.int .i64 0, .int .i64 0] 48)) := (Below.refl _ _).alloc nlr _
  have Y1 := Blk.new w #[.int .i64 0, .int .i64 0] 48
  have X2 := Blk.new (w.alloc (.cells #[.int .i64 0, .int .i64 0] 48)) #[.int .i64 9223372036854775807, .int .i64 9223372036854775807] 48
  rw [World.size_alloc] at X2
  have hb2 := hb1.alloc hb1.size (.cells #[.int .i64 9223372036854775807, .int .i64 9223372036854775807] 48)
  have Y2 := Y1.alloc (.cells #[.int .i64 9223372036854775807, .int .i64 9223372036854775807] 48)
  have EA := hid (bd_each (bx := w.heap.size + 1) 45 MinP (LeastR l zs) (enters_of Tryz.func45 (by kernel_rfl) rfl) (fun W A B lo hi wt X => bd_least1 _ A B lo hi wt W X) (least_step hb) (d.below hb2 nlr) hm hz X2 (⟨fun z hz => by simp at hz, .inr ⟨rfl, rfl⟩⟩))
  have WR1 := hid (WR.out _ (d.below hb1 nlr))
  have hss : w.heap.size < (((w.alloc (.cells #[.int .i64 0, .int .i64 0] 48)).alloc (.cells #[.int .i64 9223372036854775807, .int .i64 9223372036854775807] 48))).heap.size := by simp; omega
  have HB2 := hid hb2
  have HY2 := hid Y2
  clear WR d Y1 X2 Y2 hb1 hb2
  go_enter Tryz.func13, Tryz.ntmps13
  go_wp2_with fail
  refine WR1.out.mono ?_
  rintro e w2 ⟨rfl, rfl⟩
  go_wp2_with fail
  refine EA.out.mono ?_
  rintro e w3 ⟨A, B, rfl, X3, hR, hch⟩
  have Y3 := HY2.out.keep (hch.block w.heap.size hss (by show ¬ w.heap.size = w.heap.size + 1; omega))
  have b0 : w3.cell? ⟨w.heap.size + 1, 0, none⟩ = some (.int .i64 A) := X3.cell 0
  have b1 : w3.cell? ⟨w.heap.size + 1, 1, none⟩ = some (.int .i64 B) := X3.cell 1
  have c0 : w3.cell? ⟨w.heap.size, 0, none⟩ = some (.int .i64 0) := Y3.cell 0
  have c1 : w3.cell? ⟨w.heap.size, 1, none⟩ = some (.int .i64 0) := Y3.cell 1
  have f0 := Y3.free 0
  have f1 := Y3.free 1
  have yl := Y3.lt
  have Y4 := (Y3.set 0 (.int .i64 A)).set 1 (.int .i64 B)
  have hb3 := HB2.out.trans (hch.below (B := w.heap.size) (fun j _ e => by show w.heap.size ≤ j; omega) (by omega))
  have hb4 := (hb3.setCell (p := ⟨w.heap.size, 0, none⟩) nlr (.int .i64 A)).setCell (p := ⟨w.heap.size, 1, none⟩) nlr (.int .i64 B)
  have PP : Hid (∃ a b, BothP a b w (.returned (.tuple #[.agg #[.int .i64 A, .int .i64 B], .int .i64 0])) ((w3.setCell ⟨w.heap.size, 0, none⟩ (.int .i64 A)).setCell ⟨w.heap.size, 1, none⟩ (.int .i64 B)) ∧ LeastR l zs zs.length a b) := ⟨A, B, ⟨rfl, hb4⟩, hR⟩
  clear Y3 hR hch hb3 hb4 EA WR1 HB2 HY2 X3
  go_wp2_with fail
  refine ret_both Y4 ?_ ?_ ?_
  · rfl
  · rfl
  · exact PP.out
theorem bd_greatest {w : World} {dg q g h m : Nat} {kind l k : Int} {zs : List Nd} (d : DgV w dg q g h kind l k m zs) (hm : m ≤ 100000) (hz : zs.length ≤ 90000) (h0 : sumL zs ≠ 0) (hb : ∀ z ∈ zs, 0 ≤ endsLo l z.1) :
    Calls Tryz.prog 14 #[.pointer (some ⟨dg, 0, none⟩)] w fun e w' => ∃ a b, BothP a b w e w' ∧ GreatR l zs zs.length a b := by
  have WR := hid (fun W (y : DgV W dg q g h kind l k m zs) => bd_wrong y h0)
  have hb1 : Below w.heap.size w (w.alloc (.cells #[.int .i64 0, .int .i64 0] 48)) := (Below.refl _ _).alloc nlr _
  have Y1 := Blk.new w #[.int .i64 0, .int .i64 0] 48
  have X2 := Blk.new (w.alloc (.cells #[.int .i64 0, .int .i64 0] 48)) #[.int .i64 0, .int .i64 0] 48
  rw [World.size_alloc] at X2
  have hb2 := hb1.alloc hb1.size (.cells #[.int .i64 0, .int .i64 0] 48)
  have Y2 := Y1.alloc (.cells #[.int .i64 0, .int .i64 0] 48)
  have EA := hid (bd_each (bx := w.heap.size + 1) 46 MaxP (GreatR l zs) (enters_of Tryz.func46 (by kernel_rfl) rfl) (fun W A B lo hi wt X => bd_greatest1 _ A B lo hi wt W X) (great_step hb) (d.below hb2 nlr) hm hz X2 (⟨.inr ⟨rfl, rfl⟩, fun z hz => by simp at hz⟩))
  have WR1 := hid (WR.out _ (d.below hb1 nlr))
  have hss : w.heap.size < (((w.alloc (.cells #[.int .i64 0, .int .i64 0] 48)).alloc (.cells #[.int .i64 0, .int .i64 0] 48))).heap.size := by simp; omega
  have HB2 := hid hb2
  have HY2 := hid Y2
  clear WR d Y1 X2 Y2 hb1 hb2
  go_enter Tryz.func14, Tryz.ntmps14
  go_wp2_with fail
  refine WR1.out.mono ?_
  rintro e w2 ⟨rfl, rfl⟩
  go_wp2_with fail
  refine EA.out.mono ?_
  rintro e w3 ⟨A, B, rfl, X3, hR, hch⟩
  have Y3 := HY2.out.keep (hch.block w.heap.size hss (by show ¬ w.heap.size = w.heap.size + 1; omega))
  have b0 : w3.cell? ⟨w.heap.size + 1, 0, none⟩ = some (.int .i64 A) := X3.cell 0
  have b1 : w3.cell? ⟨w.heap.size + 1, 1, none⟩ = some (.int .i64 B) := X3.cell 1
  have c0 : w3.cell? ⟨w.heap.size, 0, none⟩ = some (.int .i64 0) := Y3.cell 0
  have c1 : w3.cell? ⟨w.heap.size, 1, none⟩ = some (.int .i64 0) := Y3.cell 1
  have f0 := Y3.free 0
  have f1 := Y3.free 1
  have yl := Y3.lt
  have Y4 := (Y3.set 0 (.int .i64 A)).set 1 (.int .i64 B)
  have hb3 := HB2.out.trans (hch.below (B := w.heap.size) (fun j _ e => by show w.heap.size ≤ j; omega) (by omega))
  have hb4 := (hb3.setCell (p := ⟨w.heap.size, 0, none⟩) nlr (.int .i64 A)).setCell (p := ⟨w.heap.size, 1, none⟩) nlr (.int .i64 B)
  have PP : Hid (∃ a b, BothP a b w (.returned (.tuple #[.agg #[.int .i64 A, .int .i64 B], .int .i64 0])) ((w3.setCell ⟨w.heap.size, 0, none⟩ (.int .i64 A)).setCell ⟨w.heap.size, 1, none⟩ (.int .i64 B)) ∧ GreatR l zs zs.length a b) := ⟨A, B, ⟨rfl, hb4⟩, hR⟩
  clear Y3 hR hch hb3 hb4 EA WR1 HB2 HY2 X3
  go_wp2_with fail
  refine ret_bothG Y4 ?_ ?_ ?_
  · rfl
  · rfl
  · exact PP.out
end Go.Proofs.YtlciofheonbkiaaGreat
