/- The walk of WireTells. -/
import Derived.Test.YtbbkfjbaocpknaaGreatRv8
import Derived.Test.YtbbkfjbaocpknaaGreatWrAl
import Derived.Test.YtbbkfjbaocpknaaGreatMdAny
namespace Go.Proofs.YtbbkfjbaocpknaaGreat
open Go.RowKit Nl Vy

theorem Vy.byte_xor (c : UInt8) (by' : Int) (h1 : 0 ≤ by') (h2 : by' ≤ 255) : ∃ c2 : UInt8, bits .xor .u8 (c.toNat : Int) by' = (c2.toNat : Int) ∧ (by' = 0 → c2 = c) ∧ (by' ≠ 0 → c ≠ c2) := by
  obtain ⟨b, rfl⟩ := Int.eq_ofNat_of_zero_le h1
  have hb : b < 256 := by omega
  have hc := UInt8.toNat_lt c
  have hx : c.toNat ^^^ b < 256 := Nat.xor_lt_two_pow (n := 8) hc hb
  refine ⟨UInt8.ofNat (c.toNat ^^^ b), ?_, ?_, ?_⟩
  · rw [u8_xor_nat _ _ hc hb, of_low hx]
  · intro h
    obtain rfl : b = 0 := by omega
    rw [Nat.xor_zero, of_nat]
  · intro h e
    have e2 := congrArg UInt8.toNat e
    rw [of_low hx] at e2
    have e3 : c.toNat ^^^ (c.toNat ^^^ b) = c.toNat ^^^ c.toNat := by rw [← e2]
    rw [← Nat.xor_assoc, Nat.xor_self, Nat.zero_xor] at e3
    omega
theorem Vy.set_self {s : List UInt8} {i : Nat} (h : i < s.length) : s.set i (s.getD i 0) = s := by
  apply List.ext_getElem
  · simp
  · intro j h1 h2
    rw [List.getElem_set]
    split
    · rename_i e
      subst e
      simp [List.getD, h]
    · rfl
theorem Vy.enc_bytes {l k : Int} {zs : List Nd} (inv : Dg l k zs) (hz : zs.length ≤ 9000) : (encB l k zs).length ≤ 32 + 18 * zs.length := by
  have hel := enc_len (l := l) (k := k) (n := sumL zs) (ids := zs.map (fun x => x.1)) (ws := zs.map (fun x => x.2)) inv.k2 (by have := inv.roll.most; omega) (fun j => (ids_cnt inv.roll j).2) (fun j => (ids_cnt inv.roll j).1) (by simp; omega) (fun j => (ws_cnt inv.roll j).2) (by simp)
  rw [List.length_map] at hel
  exact hel
theorem Vy.enc_sealed (l k : Int) (zs : List Nd) : ∃ t, encB l k zs = sealL t := ⟨_, rfl⟩
/-- The bytes of a digest are read, and no others of the same sum are. -/
theorem Vy.tells {l k : Int} {zs : List Nd} (inv : Dg l k zs) {i : Nat} {c : UInt8} {by' : Int} (hi : i < (encB l k zs).length) (h0 : by' = 0 → c = (encB l k zs).getD i 0) (h1 : by' ≠ 0 → (encB l k zs).getD i 0 ≠ c) {w w' : World} {e : Ending} (h : RightP ((encB l k zs).set i c) w e w') :
    ∃ er : Int, e = .returned (.int .i64 er) ∧ Below w.heap.size w w' ∧ ((er = 0 ∧ by' = 0) ∨ ((er == 0) = false ∧ (by' == 0) = false)) := by
  obtain ⟨er, rfl, hb, h⟩ := h
  refine ⟨er, rfl, hb, ?_⟩
  by_cases hb0 : by' = 0
  · rw [h0 hb0, set_self hi] at h
    rcases h with ⟨rfl, -⟩ | ⟨-, -, hd⟩
    · exact .inl ⟨rfl, hb0⟩
    · exact absurd rfl (hd l k zs (load_dg inv))
  · rcases h with ⟨-, l', k', zs', -, e⟩ | ⟨h2, -, -⟩
    · exfalso
      obtain ⟨t, ht⟩ := enc_sealed l k zs
      obtain ⟨t', ht'⟩ := enc_sealed l' k' zs'
      have ho := open_seal t'
      rw [← ht', ← e, ht] at ho
      rw [ht] at hi
      have h1 := h1 hb0
      rw [ht] at h1
      rw [open_changed hi h1] at ho
      cases ho
    · have q1 : (er == 0) = false := by simp; omega
      have q2 : (by' == 0) = false := by simpa using hb0
      exact .inr ⟨q1, q2⟩
theorem row_marks {W : World} {C : Array Value} {T : TypeId} {n : Nat} {j : Nat} (hj : j < n) : (W.alloc (.cells C T (n, n + 1))).frozen? ⟨W.heap.size, j, none⟩ = false := by
  rw [World.frozen?_alloc_mark, decide_eq_false (by omega)]; rfl
theorem row_marks_cell {W : World} {C : Array Value} {T : TypeId} {f : Nat × Nat} {j : Nat} : (W.alloc (.cells C T f)).cell? ⟨W.heap.size, j, none⟩ = C[j]? :=
  cell_of_row _ _ _ C T f (by show (W.heap.push (.cells C T f))[W.heap.size]? = _; simp)
set_option maxRecDepth 100000 in
set_option maxHeartbeats 4000000 in
theorem wt_walk (l k kind at' by' : Int) (v : Value) (os : List Op3) (w : World) (bk : In64 k) (ho : RdO w v os) (ba : In64 at') (hb0 : 0 ≤ by') (hb1 : by' ≤ 255) :
    Calls Tryz.prog 5 #[.agg #[.int .i64 l, .int .i64 k, .int .i64 kind, v], .int .i64 at', .int .u8 by'] w fun e w' => e = .returned (.bool true) ∧ Below w.heap.size w w' := by
  have A := hid (fun W : World => w_alive W)
  obtain ⟨p, cap, rfl, hlen, -⟩ := id ho
  have MD := hid (fun (h3 : os.length ≤ 60) (W : World) (h : RdO W (.slice p os.length cap) os) => d_made_any l k kind _ os W bk h (by omega))
  have X1 := Blk.new w #[.int .i64 l, .int .i64 k, .int .i64 kind, .slice p os.length cap] 30
  have hbw1 : Below w.heap.size w (w.alloc (.cells #[.int .i64 l, .int .i64 k, .int .i64 kind, .slice p os.length cap] 30)) := (Below.refl _ _).alloc (Nat.le_refl _) _
  have ho1 := ho.below hbw1 (Nat.le_refl _)
  obtain ⟨b0, hbe⟩ : ∃ b0 : Bool, b0 = (decide (60 < (os.length : Int)) || ((kind == 1) && decide (10 < l))) := ⟨_, rfl⟩
  have HB := hid hbe
  clear ho hbe
  go_enter Tryz.func5, Tryz.ntmps5
  go_upto_region 1 with fail
  generalize (w.alloc (.cells #[.int .i64 l, .int .i64 k, .int .i64 kind, .slice p os.length cap] 30)) = w1 at *
  have x0 : w1.cell? ⟨w.heap.size, 0, none⟩ = some (.int .i64 l) := X1.cell 0
  have x1 : w1.cell? ⟨w.heap.size, 1, none⟩ = some (.int .i64 k) := X1.cell 1
  have x2 : w1.cell? ⟨w.heap.size, 2, none⟩ = some (.int .i64 kind) := X1.cell 2
  have x3 : w1.cell? ⟨w.heap.size, 3, none⟩ = some (.slice p os.length cap) := X1.cell 3
  go_cut [27] (fun s wx => s = .bool b0 ∧ w1 = wx)
  case first =>
    cases z1 : decide (60 < (os.length : Int)) <;> cases z2 : (kind == 1) <;> cases z3 : decide (10 < l)
    all_goals
      have HE := HB.out
      rw [z1, z2, z3] at HE
      have HE := hid HE
      clear HB
      go_wp2_with fail
      go_meet
      exact ⟨by rw [HE.out]; rfl, rfl⟩
  case rest =>
    obtain ⟨rfl, rfl⟩ := hcut
    cases b0
    case true =>
      clear HB MD X1 x0 x1 x2 x3 ho1
      go_wp2_with fail
      refine (A.out _).mono ?_
      rintro e w2 ⟨rfl, hb2⟩
      go_wp2_with fail
      go_ret
      exact ⟨rfl, hbw1.trans (hb2.mono hbw1.size)⟩
    case false =>
      have h60 : os.length ≤ 60 := by
        have h := HB.out
        simp only [Bool.false_eq, Bool.or_eq_false_iff, decide_eq_false_iff_not] at h
        omega
      have M1 := hid (MD.out h60 w1 ho1)
      clear HB MD ho1
      go_wp2_with fail
      refine M1.out.mono ?_
      clear M1 x0 x1 x2 x3
      rintro e w2 (⟨rfl, hb2⟩ | ⟨dg, q, g, h, vb, zs, its, rfl, d2, rb, -, -, hzl, -, -, hb2⟩)
      · have hbw2 := hbw1.trans (hb2.mono hbw1.size)
        have hbw3 := hbw2.alloc hbw2.size (.cells #[.int .i64 0, .slice none 0 0] 53)
        clear X1 hbw1 hb2
        go_wp2_with fail
        refine (A.out _).mono ?_
        rintro e w4 ⟨rfl, hb4⟩
        go_wp2_with fail
        go_ret
        exact ⟨rfl, hbw3.trans (hb4.mono hbw3.size)⟩
      · have hbw2 := hbw1.trans (hb2.mono hbw1.size)
        obtain ⟨pb, cb, rfl⟩ := rb.val
        have hbb : Below w2.heap.size w2 (w2.alloc (.cells #[.int .i64 l, .slice pb its.length cb] 53)) := (Below.refl _ _).alloc (Nat.le_refl _) _
        have d3 := d2.below hbb (Nat.le_refl _)
        have hbw3 := hbw2.trans (hbb.mono hbw2.size)
        have INV := hid d3.inv
        have EN : Hid (Calls Tryz.prog 21 #[.pointer (some ⟨dg, 0, none⟩)] (w2.alloc (.cells #[.int .i64 l, .slice pb its.length cb] 53)) _) := hid (w_encode d3 (by decide) (by omega))
        rw [show encL l k (sumL zs) (zs.map (fun x => x.1)) (zs.map (fun x => x.2)) = encB l k zs from rfl] at EN
        have hel := enc_bytes d3.inv (by omega)
        have TL := hid (fun i c (hi : i < (encB l k zs).length) h0 h1 w w' e h => tells d3.inv (i := i) (c := c) (by' := by') hi h0 h1 (w := w) (w' := w') (e := e) h)
        obtain ⟨E, eE⟩ : ∃ E, encB l k zs = E := ⟨_, rfl⟩
        rw [eE] at EN hel TL
        have hE2 : E.length ≤ 9000 := by omega
        clear X1 hbw1 hb2 d2 d3 rb hbw2 hbb eE hel INV
        go_wp2_with fail
        refine EN.out.mono ?_
        rintro e w4 ⟨rfl, hb4⟩
        have hbw4 := hbw3.trans (hb4.mono hbw3.size)
        clear EN hb4 hbw3
        have hsz : (⟨E.toArray⟩ : ByteArray).size = E.length := by show E.toArray.size = E.length; simp
        by_cases hat : 0 ≤ at' ∧ at' < (E.length : Int)
        · obtain ⟨i, rfl⟩ := Int.eq_ofNat_of_zero_le hat.1
          have hi : i < E.length := by omega
          have z1 : decide ((i : Int) < 0) = false := decide_eq_false (by omega)
          have z2 : decide ((E.length : Int) ≤ (i : Int)) = false := decide_eq_false (by omega)
          have z3 : decide (E.length ≤ i) = false := decide_eq_false (by omega)
          have CV := run_bytes_of_string (P := Tryz.prog) w4 9 65 5 ⟨E.toArray⟩ rfl rfl rfl
          rw [hsz] at CV
          generalize grownCap w4 E.length 0 5 = cp at CV
          have hR : ∀ j (hj : j < E.length), (bytesRow ⟨E.toArray⟩ cp)[j]? = some (.int .u8 (E[j].toNat : Int)) := fun j hj => by
            rw [bytesRow_at _ _ _ (by simpa using hj)]
            simp
          have hRs : E.length ≤ (bytesRow ⟨E.toArray⟩ cp).size := by
            rcases Nat.lt_or_ge (bytesRow ⟨E.toArray⟩ cp).size E.length with h | h
            · have h1 := hR (bytesRow ⟨E.toArray⟩ cp).size h
              simp at h1
            · exact h
          generalize bytesRow ⟨E.toArray⟩ cp = C at CV hR hRs
          have q5 : (w4.alloc (.cells C 5 (C.size, C.size + 1))).drew.cell? ⟨w4.heap.size, i, none⟩ = some (.int .u8 (E[i].toNat : Int)) := (row_marks_cell (W := w4.drew)).trans (hR i hi)
          have f5 : (w4.alloc (.cells C 5 (C.size, C.size + 1))).drew.frozen? ⟨w4.heap.size, i, none⟩ = false := row_marks (W := w4.drew) (by omega)
          have qa : ∀ j (hj : j < E.length), (w4.alloc (.cells C 5 (C.size, C.size + 1))).drew.cell? ⟨w4.heap.size, j, none⟩ = some (.int .u8 (E[j].toNat : Int)) := fun j hj => (row_marks_cell (W := w4.drew)).trans (hR j hj)
          have hb5 : Below w4.heap.size w4 (w4.alloc (.cells C 5 (C.size, C.size + 1))).drew := (below_drewN (Below.refl w4.heap.size w4) 1).alloc (Nat.le_refl _) _
          have hbw5 := hbw4.trans (hb5.mono hbw4.size)
          have QA := hid qa
          clear hR hRs qa hb5
          go_upto_region 10 with fail
          generalize (w4.alloc (.cells C 5 (C.size, C.size + 1))).drew = w5 at *
          clear CV
          obtain ⟨c2, hx, hx0, hx1⟩ := byte_xor E[i] by' hb0 hb1
          have hg : E.getD i 0 = E[i] := by simp [List.getD, hi]
          rw [← hg] at hx0 hx1
          have TX := hid (fun w w' e h => TL.out i c2 hi hx0 hx1 w w' e h)
          have hbw6 := hbw5.setCell (p := ⟨w4.heap.size, i, none⟩) (show w.heap.size ≤ w4.heap.size from hbw4.size) (.int .u8 (c2.toNat : Int))
          have hcv : (convert 65 9 (.slice (some ⟨w4.heap.size, 0, none⟩) E.length cp)).run Tryz.prog (w5.setCell ⟨w4.heap.size, i, none⟩ (.int .u8 (c2.toNat : Int))) = .ok (.string ⟨(E.set i c2).toArray⟩) (w5.setCell ⟨w4.heap.size, i, none⟩ (.int .u8 (c2.toNat : Int))) := by
            have e := run_convert_bytes_back (P := Tryz.prog) (w5.setCell ⟨w4.heap.size, i, none⟩ (.int .u8 (c2.toNat : Int))) 65 9 5 ⟨w4.heap.size, 0, none⟩ cp (E.set i c2) rfl rfl rfl (fun j hj => by
              have hj' : j < E.length := by simpa using hj
              rw [Addr.add_mid, Nat.zero_add, List.getElem_set]
              by_cases e : i = j
              · subst e
                rw [if_pos rfl, World.cell?_setCell_same _ _ _ q5]
              · rw [if_neg e, World.cell?_setCell_other _ _ _ _ (by intro h; cases h; exact e rfl)]
                exact QA.out j hj')
            rw [List.length_set] at e
            exact e
          have RW := hid (fun W => w_right' ⟨(E.set i c2).toArray⟩ W (by show (E.set i c2).toArray.size ≤ 200000; simp; omega))
          rw [show (⟨(E.set i c2).toArray⟩ : ByteArray).data.toList = E.set i c2 by simp] at RW
          generalize E.set i c2 = E2 at *
          clear hg hx0 hx1 QA TL hbw5 hbw4
          go_wp2_with fail
          refine (RW.out _).mono ?_
          intro e w7 hR
          obtain ⟨er, rfl, hb7, hE⟩ := TX.out _ _ _ hR
          have hbw7 := hbw6.trans (hb7.mono hbw6.size)
          clear hR TX RW hb7 hbw6 hcv q5 f5 hx
          rcases hE with ⟨rfl, rfl⟩ | ⟨e1, e2⟩
          · go_wp2_with fail
            refine (A.out _).mono ?_
            rintro e w8 ⟨rfl, hb8⟩
            go_wp2_with fail
            go_ret
            exact ⟨rfl, hbw7.trans (hb8.mono hbw7.size)⟩
          · go_wp2_with fail
            refine (A.out _).mono ?_
            rintro e w8 ⟨rfl, hb8⟩
            go_wp2_with fail
            go_ret
            exact ⟨rfl, hbw7.trans (hb8.mono hbw7.size)⟩
        · rcases (show at' < 0 ∨ (0 ≤ at' ∧ (E.length : Int) ≤ at') by omega) with h1 | ⟨h1, h2⟩
          · have z1 : decide (at' < 0) = true := decide_eq_true h1
            clear hat
            go_wp2_with fail
            refine (A.out _).mono ?_
            rintro e w5 ⟨rfl, hb5⟩
            go_wp2_with fail
            go_ret
            exact ⟨rfl, hbw4.trans (hb5.mono hbw4.size)⟩
          · have z1 : decide (at' < 0) = false := decide_eq_false (by omega)
            have z2 : decide ((E.length : Int) ≤ at') = true := decide_eq_true h2
            clear hat
            go_wp2_with fail
            refine (A.out _).mono ?_
            rintro e w5 ⟨rfl, hb5⟩
            go_wp2_with fail
            go_ret
            exact ⟨rfl, hbw4.trans (hb5.mono hbw4.size)⟩
theorem bd_u8 (a : Int) (h : (Lit.int .u8 a).wf = true) : 0 ≤ a ∧ a ≤ 255 := by
  simp only [Lit.wf, Bool.and_eq_true, decide_eq_true_eq] at h
  have h1 : IntKind.u8.min = 0 := by decide
  have h2 : IntKind.u8.max = 255 := by decide
  omega
theorem WireTells_walk (v0 : Value) (s0 : Int × Int × Int × Value × List Op3) (at' by' : Int) (w : World)
    (h0 : v0 = .agg #[.int .i64 s0.1, .int .i64 s0.2.1, .int .i64 s0.2.2.1, s0.2.2.2.1] ∧ ((Lit.int .i64 s0.1).wf = true ∧ (Lit.int .i64 s0.2.1).wf = true ∧ (Lit.int .i64 s0.2.2.1).wf = true) ∧ RdO w s0.2.2.2.1 s0.2.2.2.2) (ba : In64 at') (bb : 0 ≤ by' ∧ by' ≤ 255) :
    Calls Tryz.prog 5 #[v0, .int .i64 at', .int .u8 by'] w fun e w' => e = .returned (.bool true) ∧ Below w.heap.size w w' := by
  obtain ⟨rfl, ⟨-, hk, -⟩, r0⟩ := h0
  exact wt_walk _ _ _ at' by' _ _ w (bd_i64 _ hk) r0 ba bb.1 bb.2
end Go.Proofs.YtbbkfjbaocpknaaGreat
