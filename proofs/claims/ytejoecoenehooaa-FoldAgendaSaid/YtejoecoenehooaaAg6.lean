/- The walk of FoldAgenda. -/
import Derived.Test.YtejoecoenehooaaAg5
import Derived.Test.YtejoecoenehooaaFold3
import Derived.Test.YtejoecoenehooaaOpenInts
namespace Go.Proofs.Ytejoecoenehooaa
open Go.RowKit Go.Maps Nl

theorem agl_len {w : World} {a b : Nat} {v : Value} {l : List Int} (d : AgL w a b v l) :
    Calls Try.prog 19 #[.pointer (some ⟨a, 0, none⟩)] w fun e w' => e = .returned (.int .i64 l.length) ∧ w = w' := by
  obtain ⟨hs, d, _, hp, _⟩ := d
  rw [← hp.length_eq]
  exact ag_len d
set_option maxRecDepth 100000 in
theorem agn_len (w : World) : Calls Try.prog 19 #[.pointer none] w fun e w' => e = .returned (.int .i64 0) ∧ w = w' := by
  go_enter Try.func19, Try.ntmps19
  go_wp2
  go_ret
  exact ⟨rfl, rfl⟩
set_option maxRecDepth 100000 in
theorem agn_put (id : Int) (w : World) : Calls Try.prog 17 #[.pointer none, .int .i64 id] w fun e w' => e = .returned (.bool false) ∧ w = w' := by
  go_enter Try.func17, Try.ntmps17
  go_wp2
  go_ret
  exact ⟨rfl, rfl⟩
set_option maxRecDepth 100000 in
theorem agn_pop (w : World) : Calls Try.prog 18 #[.pointer none] w fun e w' => e = .returned (.tuple #[.int .i64 0, .bool false]) ∧ w = w' := by
  go_enter Try.func18, Try.ntmps18
  go_wp2_with fail
  refine (agn_len w).mono ?_
  rintro e w' ⟨rfl, rfl⟩
  go_wp2_with fail
  go_ret2
  exact ⟨rfl, rfl⟩

/-- A slice's block is none of the agenda's. -/
def Off3 (a b : Nat) (v vs : Value) : Prop := ∀ k, vs.ownBlock = some k → k ≠ a ∧ k ≠ b ∧ v.ownBlock ≠ some k
def FaRel (w : World) (a b : Nat) (n0 : Nat) (vs i : Value) (wr : World) : Prop :=
  ∃ (k : Nat) (l : List Int) (v : Value), i = .int .i64 k ∧ k ≤ n0 ∧ l.length ≤ 60 + k ∧ AgL wr a b v l ∧ RdI wr vs l ∧ (l = [] ∨ Off3 a b v vs) ∧ w.heap.size ≤ a ∧ w.heap.size ≤ b ∧ (∀ q, v.ownBlock = some q → w.heap.size ≤ q) ∧ Below w.heap.size w wr

theorem RdI.tch3 {w w' : World} {a b : Nat} {v vs : Value} {l : List Int} (h : RdI w vs l) (o : l = [] ∨ Off3 a b v vs) (t : Tch3 a b v w w') : RdI w' vs l := by
  rcases o with rfl | o
  · exact h.any
  · exact h.keep (fun g hg hb => t.block g hg (o g hb).1 (o g hb).2.1 (o g hb).2.2) t.size

theorem AgL.ok {w : World} {a b : Nat} {v : Value} {l : List Int} (d : AgL w a b v l) : Ord l ∧ ∀ x ∈ l, 1 ≤ x ∧ In64 x := by
  obtain ⟨hs, _, _, _, o, h⟩ := d; exact ⟨o, h⟩
theorem off3_next {w : World} {a b : Nat} {v v' vs : Value} {l : List Int} (o : l = [] ∨ Off3 a b v vs) (h : RdI w vs l) (f : Fr w v v') : l = [] ∨ Off3 a b v' vs := by
  rcases o with o | o
  · exact .inl o
  · rcases h.ltE with h | h
    · exact .inl h
    · exact .inr fun q hq => ⟨(o q hq).1, (o q hq).2.1, f.ne (h q hq) (o q hq).2.2⟩
theorem off3_with {w w' : World} {a b : Nat} {v vs vs' : Value} {l l' : List Int} (d : AgL w a b v l) (o : l = [] ∨ Off3 a b v vs) (h : RdI w vs l) (h' : RdI w' vs' l') (hv : vs' = vs ∨ ∀ k, vs'.ownBlock = some k → w.heap.size ≤ k) : l' = [] ∨ Off3 a b v vs' := by
  rcases hv with rfl | hv
  · rcases o with rfl | o
    · obtain ⟨p, c, e⟩ := h.val
      obtain ⟨p', c', e'⟩ := h'.val
      rw [e] at e'
      simp only [List.length_nil, Value.slice.injEq] at e'
      exact .inl (List.eq_nil_of_length_eq_zero e'.2.1.symm)
    · exact .inr o
  · obtain ⟨l1, l2, l3⟩ := d.lt
    exact .inr fun q hq => by
      have := hv q hq
      exact ⟨by omega, by omega, fun e => by have := l3 q e; omega⟩

set_option maxRecDepth 100000 in
set_option maxHeartbeats 4000000 in
theorem FoldAgenda_walk (v0 : Value) (xs0 : List Int) (v1 : Value) (xs1 : List Int) (w : World) (h0 : RdIA w v0 xs0) (h1 : RdIA w v1 xs1) :
    Calls Try.prog 3 #[v0, v1] w fun e w' => e = .returned (.bool true) ∧ Below w.heap.size w w' := by
  obtain ⟨hr0, hx0, hl0⟩ := h0
  obtain ⟨hr1, hx1, hl1⟩ := h1
  obtain ⟨p0, c0, rfl⟩ := hr0.val
  obtain ⟨p1, c1, rfl⟩ := hr1.val
  have Al := hid (fun W : World => f_alive W)
  by_cases b0 : 60 < xs0.length
  · go_enter Try.func3, Try.ntmps3
    go_wp2_with fail
    refine (Al.out w).mono ?_
    rintro e w' ⟨rfl, hb⟩
    go_wp2_with fail
    go_ret
    exact ⟨rfl, hb⟩
  by_cases b1 : 100 < xs1.length
  · go_enter Try.func3, Try.ntmps3
    go_wp2_with fail
    refine (Al.out w).mono ?_
    rintro e w' ⟨rfl, hb⟩
    go_wp2_with fail
    go_ret
    exact ⟨rfl, hb⟩
  have N0 := hid (f_new w hr0 (by omega) hx0)
  have R0 := hid (fun W (q : RdI W (.slice p0 xs0.length c0) xs0) => r_agenda W q (by omega) hx0)
  have hok := agendaL_ok hx0
  obtain ⟨n1, en1⟩ : ∃ n, xs1.length = n := ⟨_, rfl⟩
  have EN1 := hid en1
  have HX1 := hid hx1
  rw [en1] at hr1 b1 ⊢
  have hL0 : (agendaL xs0).length ≤ 60 := by omega
  generalize agendaL xs0 = l0 at *
  clear hok hx0 hx1 en1 hl0 hl1
  go_enter Try.func3, Try.ntmps3
  go_wp2_with fail
  refine N0.out.mono ?_
  rintro e w1 ⟨a, b, v, rfl, d1, ha, hb, hv, hb1⟩
  have hr01 := hr0.below hb1 (Nat.le_refl _)
  have hs1 := hb1.size
  go_wp2_with fail
  refine (R0.out w1 hr01).mono ?_
  rintro e w2 ⟨vs, rfl, ⟨hrs, hvs⟩, hb2⟩
  have d2 := d1.below hb2 (Nat.le_refl _)
  have hs2 := hb2.size
  have hof : Hid (Off3 a b v vs) := fun q hq => by
    have h1 := hvs q hq
    obtain ⟨l1, l2, l3⟩ := d1.lt
    exact ⟨by omega, by omega, fun e => by have := l3 q e; omega⟩
  have hbw := hb1.trans (hb2.mono hs1)
  have HV := hid hv
  clear hv hvs d1 hb1 hb2 N0 R0
  have hr1w := hr1.below hbw (Nat.le_refl _)
  have hsw := hbw.size
  go_wp2_with fail
  go_loopw [6, 30] (fun vs i wr => FaRel w a b n1 vs i wr) (fun _ i _ => n1 - (intOf i).toNat)
  case atStart => exact ⟨0, l0, v, rfl, Nat.zero_le _, by omega, d2, hrs, .inr hof.out, ha, hb, HV.out, hbw⟩
  case round =>
    obtain ⟨k, l, va, rfl, hk, hll, dr, hrl, hoff, ha', hb', hva, hB⟩ := hrel
    rename_i vs' _ _ _ _
    obtain ⟨pl, cl, rfl⟩ := hrl.val
    have HOF := hid hoff
    have HVA := hid hva
    have HRL := hid hrl
    have hBs := hB.size
    clear hva hoff d2 hr1w hr01
    by_cases hlt : k < n1
    · have hkx : k < xs1.length := by rw [EN1.out]; exact hlt
      have hr1k := hr1.below hB (Nat.le_refl _)
      obtain ⟨g1, off1, x, rfl, ex, hg1, hc1⟩ := hr1k.at hkx
      have bx : In64 x := by rw [← ex]; exact HX1.out _ (getD_mem (d := 0) xs1 k hkx)
      have hok := dr.ok
      have Pt := hid (fun W (q : AgL W a b va l) => ag_put x q bx (by omega))
      clear ex hkx hr1k
      by_cases h1 : 1 ≤ x
      · have Wt := hid (r_with x wr HRL.out (by omega) (fun y hy => (hok.2 y hy).2) bx)
        have ep : Hid (putL l x = withL l x) := by show _ = _; unfold putL; rw [if_pos h1]
        have hwl := withL_length hok.1 x
        have HR : Hid (decide (1 ≤ x ∧ x ∉ l) = decide (l.length < (withL l x).length) ∧ (withL l x).length ≤ l.length + 1) := by
          show _ ∧ _
          rw [hwl]
          by_cases hm : x ∈ l
          · simp [hm]
          · simp [hm]; omega
        obtain ⟨R, eR⟩ : ∃ R, decide (l.length < (withL l x).length) = R := ⟨_, rfl⟩
        have ER := hid eR
        clear hwl hok eR
        go_wp2_with fail
        refine Wt.out.mono ?_
        rintro e w3 ⟨v3, rfl, hr3, hv3, hb3⟩
        have d3 := dr.below hb3 (Nat.le_refl _)
        have hO3 := off3_with dr HOF.out HRL.out hr3 hv3
        obtain ⟨p3, c3, rfl⟩ := hr3.val
        have HO3 := hid hO3
        have HV3 := hid hv3
        have HR3 := hid hr3
        have HL3 := HR.out.2
        clear hO3 hv3 dr hrl hr3
        go_wp2_with fail
        refine (Pt.out w3 d3).mono ?_
        rintro e w4 ⟨rfl, v4, d4, f4, t4⟩
        rw [HR.out.1]
        have Q : Hid (∀ W, W = w4 → FaRel w a b n1 (.slice p3 (withL l x).length c3) (.int .i64 ((k : Int) + 1)) W) := fun W e => by
          subst e
          refine ⟨k + 1, withL l x, v4, by go_num, by omega, by omega, by rw [← ep.out]; exact d4, HR3.out.tch3 HO3.out t4, off3_next HO3.out HR3.out f4 |>.imp id id, ha', hb', ?_, ?_⟩
          · intro q hq
            rcases f4 with h | ⟨j, h, hj⟩
            · exact HVA.out q (by rw [← h]; exact hq)
            · rw [h] at hq; cases hq; have := hb3.size; omega
          · exact (hB.trans (hb3.mono hBs)).trans (t4.below ha' hb' HVA.out (by have := hb3.size; omega))
        generalize (withL l x).length = n3 at *
        go_wp2_with fail
        go_roundw
        case rel => exact Q.out _ rfl
        case measure => simp [intOf]; omega
      · have ep : Hid (putL l x = l) := by show _ = _; unfold putL; rw [if_neg h1]
        have HR : Hid (decide (1 ≤ x ∧ x ∉ l) = false) := by show _ = _; simp [h1]
        clear hok
        go_wp2_with fail
        refine (Pt.out wr dr).mono ?_
        rintro e w4 ⟨rfl, v4, d4, f4, t4⟩
        rw [HR.out]
        rw [ep.out] at d4
        have hr4 := hrl.tch3 HOF.out t4
        have hO4 := off3_next HOF.out hrl f4
        have hv4 : ∀ q, v4.ownBlock = some q → w.heap.size ≤ q := fun q hq => by
          rcases f4 with h | ⟨j, h, hj⟩
          · exact HVA.out q (by rw [← h]; exact hq)
          · rw [h] at hq; cases hq; omega
        have hB4 := hB.trans (t4.below ha' hb' HVA.out hBs)
        have HO4 := hid hO4
        have HV4 := hid hv4
        have hs4 := hB4.size
        clear hO4 hv4 dr hrl t4 f4 HOF HVA HRL hB hBs Pt ep HR
        have Ln := hid (fun W v (l : List Int) (q : AgL W a b v l) => agl_len q)
        cases l with
        | nil =>
          have hr5 : RdI w4 (.slice pl 0 cl) [] := hr4
          have hl0 : ([] : List Int).length = 0 := rfl
          rw [hl0]
          have Q : Hid (FaRel w a b n1 (.slice pl 0 cl) (.int .i64 ((k : Int) + 1)) w4) := ⟨k + 1, [], v4, by go_num, by omega, by simp, d4, hr4, .inl rfl, ha', hb', HV4.out, hB4⟩
          clear hr4
          go_wp2_with fail
          refine (ag_pop_no d4).mono ?_
          rintro e w5 ⟨rfl, rfl⟩
          go_wp2_with fail
          refine (Ln.out w4 v4 [] d4).mono ?_
          rintro e w5 ⟨rfl, rfl⟩
          go_wp2_with fail
          go_roundw
          case rel => exact Q.out
          case measure => simp [intOf]; omega
        | cons y t =>
          obtain ⟨n, en⟩ : ∃ n, t.length = n := ⟨_, rfl⟩
          have hnl : (y :: t).length = n + 1 := by simp [en]
          have hn : n < 1000 := by simp only [List.length_cons] at hll; omega
          have hn2 : n ≤ 60 + k := by simp only [List.length_cons] at hll; omega
          have En := hid en
          rw [hnl] at hr4 HO4 ⊢
          obtain ⟨gl, ol, y', rfl, ey, hgl, hcl⟩ := hr4.at (k := 0) (by simp)
          simp only [List.getD_cons_zero] at ey
          subst ey
          rw [Nat.add_zero] at hcl
          obtain ⟨p', sl, rt, hof⟩ := sliceLoI (k := 1) hr4 (by omega)
          rw [show ((1 : Nat) : Int) = 1 from rfl] at sl
          have rt2 : RdI w4 (.slice p' n (cl - 1)) t := by simpa using rt
          have sl2 : ∀ W : World, (Instr.sliceAt 22 (.slice (some ⟨gl, ol, none⟩) (n + 1) cl) (some (.int .i64 1)) none none).run Try.prog W = .ok (.slice p' n (cl - 1)) W := fun W => by rw [sl]; simp
          have ho4 := HO4.out.resolve_left (by simp)
          have hoff2 : Hid (t = [] ∨ Off3 a b v4 (.slice p' n (cl - 1))) := .inr fun q hq => ho4 q (hof q (by simpa using hq))
          have hgo := ho4 gl rfl
          have Pp := hid (ag_pop d4 (by omega))
          have RT := hid rt2
          clear sl rt rt2 hof hnl en hll d4 hr4
          go_wp2_with fail
          refine Pp.out.mono ?_
          rintro e w5 ⟨rfl, v5, d5, e5, t5⟩
          have q5 : w5.cell? ⟨gl, ol, none⟩ = some (.int .i64 y) := (World.cell?_of_block (w := w4) (a := ⟨gl, ol, none⟩) (t5.block gl hgl hgo.1 hgo.2.1 hgo.2.2)).trans hcl
          go_wp2_with fail
          refine (Ln.out w5 v5 t d5).mono ?_
          rintro e w6 ⟨rfl, rfl⟩
          rw [En.out]
          have Q : Hid (FaRel w a b n1 (.slice p' n (cl - 1)) (.int .i64 ((k : Int) + 1)) w5) := by
            show FaRel _ _ _ _ _ _ _
            refine ⟨k + 1, t, v5, by go_num, by omega, by rw [En.out]; omega, d5, RT.out.tch3 hoff2.out t5, ?_, ha', hb', fun q hq => HV4.out q (by rw [← e5]; exact hq), hB4.trans (t5.below ha' hb' HV4.out hs4)⟩
            rcases hoff2.out with h | h
            · exact .inl h
            · exact .inr fun q hq => ⟨(h q hq).1, (h q hq).2.1, by rw [e5]; exact (h q hq).2.2⟩
          go_wp2_with fail
          go_roundw
          case rel => exact Q.out
          case measure => simp [intOf]; omega
    · obtain rfl : k = n1 := by omega
      have Ln := hid (fun W (q : AgL W a b va l) => agl_len q)
      go_wp2_with fail
      refine (agn_pop wr).mono ?_
      rintro e w' ⟨rfl, rfl⟩
      go_wp2_with fail
      refine (Ln.out wr dr).mono ?_
      rintro e w' ⟨rfl, rfl⟩
      go_wp2_with fail
      refine (agn_len wr).mono ?_
      rintro e w' ⟨rfl, rfl⟩
      go_wp2_with fail
      refine (agn_put 1 wr).mono ?_
      rintro e w' ⟨rfl, rfl⟩
      go_wp2_with fail
      refine (Al.out wr).mono ?_
      rintro e w5 ⟨rfl, hb5⟩
      go_wp2_with fail
      go_ret
      exact ⟨rfl, hB.trans (hb5.mono hBs)⟩
end Go.Proofs.Ytejoecoenehooaa
