/- The walk of ProbeApart. -/
import Derived.Test.YtpkccicofgbfbaaOpenOps
import Derived.Test.YtpkccicofgbfbaaStore2b
import Derived.Test.YtpkccicofgbfbaaProbe9
import Derived.Test.YtpkccicofgbfbaaProbe4b
namespace Go.Proofs.Ytpkccicofgbfbaa
open Go.RowKit Nl

/-! A probe that is nil. -/
set_option maxRecDepth 100000 in
theorem np_right (id : Int) (w : World) : Calls Try.prog 54 #[.pointer none, .int .i64 id] w fun e w' => e = .returned (.bool false) ∧ w = w' := by
  go_enter Try.func54, Try.ntmps54
  go_wp2_with fail
  go_ret
  exact ⟨rfl, rfl⟩
set_option maxRecDepth 100000 in
theorem np_l (w : World) : Calls Try.prog 38 #[.pointer none] w fun e w' => e = .returned (.int .i64 0) ∧ w = w' := by
  go_enter Try.func38, Try.ntmps38
  go_wp2_with fail
  go_ret
  exact ⟨rfl, rfl⟩
set_option maxRecDepth 100000 in
theorem np_len (w : World) : Calls Try.prog 35 #[.pointer none] w fun e w' => e = .returned (.int .i64 0) ∧ w = w' := by
  go_enter Try.func35, Try.ntmps35
  go_wp2_with fail
  go_ret
  exact ⟨rfl, rfl⟩
set_option maxRecDepth 100000 in
theorem np_total (w : World) : Calls Try.prog 39 #[.pointer none] w fun e w' => e = .returned (.int .i64 0) ∧ w = w' := by
  go_enter Try.func39, Try.ntmps39
  go_wp2_with fail
  go_ret
  exact ⟨rfl, rfl⟩
set_option maxRecDepth 100000 in
theorem np_size (w : World) : Calls Try.prog 31 #[.pointer none] w fun e w' => e = .returned (.int .i64 0) ∧ w = w' := by
  go_enter Try.func31, Try.ntmps31
  go_wp2_with fail
  go_ret
  exact ⟨rfl, rfl⟩
set_option maxRecDepth 100000 in
theorem np_get (id : Int) (w : World) : Calls Try.prog 36 #[.pointer none, .int .i64 id] w fun e w' => e = .returned (.int .i64 0) ∧ w = w' := by
  go_enter Try.func36, Try.ntmps36
  go_wp2_with fail
  refine (np_right id w).mono ?_
  rintro e w' ⟨rfl, rfl⟩
  go_wp2_with fail
  go_ret
  exact ⟨rfl, rfl⟩
set_option maxRecDepth 100000 in
theorem np_add (id : Int) (c : Int) (w : World) : Calls Try.prog 40 #[.pointer none, .int .i64 id, .int .i64 c] w fun e w' => e = .returned (.int .i64 1) ∧ w = w' := by
  go_enter Try.func40, Try.ntmps40
  go_wp2_with fail
  go_ret
  exact ⟨rfl, rfl⟩
set_option maxRecDepth 100000 in
theorem np_take (id : Int) (w : World) : Calls Try.prog 41 #[.pointer none, .int .i64 id] w fun e w' => e = .returned (.int .i64 0) ∧ w = w' := by
  go_enter Try.func41, Try.ntmps41
  go_wp2_with fail
  refine (np_right id w).mono ?_
  rintro e w' ⟨rfl, rfl⟩
  go_wp2_with fail
  go_ret
  exact ⟨rfl, rfl⟩
set_option maxRecDepth 100000 in
theorem np_snap (w : World) : Calls Try.prog 42 #[.pointer none] w fun e w' => e = .returned (.slice none 0 0) ∧ w = w' := by
  go_enter Try.func42, Try.ntmps42
  go_wp2_with fail
  go_ret
  exact ⟨rfl, rfl⟩
set_option maxRecDepth 100000 in
theorem np_clone (w : World) : Calls Try.prog 43 #[.pointer none] w fun e w' => e = .returned (.pointer none) ∧ w = w' := by
  go_enter Try.func43, Try.ntmps43
  go_wp2_with fail
  go_ret
  exact ⟨rfl, rfl⟩
set_option maxRecDepth 100000 in
theorem np_walk (id : Int) (w : World) : Calls Try.prog 33 #[.pointer none, .int .i64 id] w fun e w' => e = .returned (.int .i64 0) ∧ w = w' := by
  go_enter Try.func33, Try.ntmps33
  go_wp2_with fail
  refine (np_right id w).mono ?_
  rintro e w' ⟨rfl, rfl⟩
  go_wp2_with fail
  go_ret
  exact ⟨rfl, rfl⟩
set_option maxRecDepth 100000 in
theorem np_slot (i : Int) (w : World) : Calls Try.prog 32 #[.pointer none, .int .i64 i] w fun e w' => e = .returned (.agg #[.int .i64 0, .int .i64 0]) ∧ Below w.heap.size w w' := by
  go_enter Try.func32, Try.ntmps32
  go_wp2_with fail
  exact bodyPost_ret (v := .agg #[.int .i64 0, .int .i64 0]) (by simp [results, Try.results32, go_sem]) rfl ⟨rfl, (Below.refl _ _).alloc (Nat.le_refl _) _⟩

/-! Only the blocks S may have changed. -/
structure ChQ (S : Nat → Prop) (w w' : World) : Prop where
  os : w'.os = w.os
  tape : w'.tape = w.tape
  output : w'.output = w.output
  size : w.heap.size ≤ w'.heap.size
  block : ∀ k, k < w.heap.size → ¬ S k → w'.heap[k]? = w.heap[k]?
theorem ChQ.trans {S : Nat → Prop} {a b c : World} (h1 : ChQ S a b) (h2 : ChQ S b c) : ChQ S a c :=
  ⟨h2.os.trans h1.os, h2.tape.trans h1.tape, h2.output.trans h1.output, Nat.le_trans h1.size h2.size, fun k hk e => (h2.block k (Nat.lt_of_lt_of_le hk h1.size) e).trans (h1.block k hk e)⟩
theorem ChQ.of_below {S : Nat → Prop} {w w' : World} (h : Below w.heap.size w w') : ChQ S w w' := ⟨h.os, h.tape, h.output, h.size, fun k hk _ => h.block k hk⟩
theorem ChQ.of_tch {S : Nat → Prop} {g h : Nat} {w w' : World} (t : Tch g h w w') (hg : S g) (hh : S h) : ChQ S w w' :=
  ⟨t.os, t.tape, t.output, t.size, fun k hk e => t.block k hk (fun q => e (q ▸ hg)) (fun q => e (q ▸ hh))⟩
theorem ChQ.below {S : Nat → Prop} {w w' : World} {B : Nat} (h : ChQ S w w') (hS : ∀ k, S k → B ≤ k) (hB : B ≤ w.heap.size) : Below B w w' :=
  ⟨h.os, h.tape, h.output, h.size, fun k hk => h.block k (by omega) (fun q => by have := hS k q; omega)⟩
def NotQ (v : Value) (xs : List Nd) (S : Nat → Prop) : Prop := xs = [] ∨ ∀ j, v.ownBlock = some j → ¬ S j
theorem NotQ.next {w w' : World} {v v' : Value} {xs xs' : List Nd} {S : Nat → Prop} {n : Nat} (o : NotQ v xs S) (h : RdN w v xs) (h' : RdN w' v' xs') (hv : v' = v ∨ ∀ k, v'.ownBlock = some k → n ≤ k) (hS : ∀ j, S j → j < n) : NotQ v' xs' S := by
  rcases hv with rfl | hv
  · rcases o with rfl | o
    · obtain ⟨p, c, e⟩ := h.val
      obtain ⟨p', c', e'⟩ := h'.val
      rw [e] at e'
      simp only [List.length_nil, Value.slice.injEq] at e'
      exact .inl (List.eq_nil_of_length_eq_zero e'.2.1.symm)
    · exact .inr o
  · exact .inr fun j hj hs => by have := hv j hj; have := hS j hs; omega
theorem NotQ.keep {w w' : World} {v : Value} {xs : List Nd} {S S' : Nat → Prop} (o : NotQ v xs S) (r : RdN w v xs) (c : ChQ S' w w') (hS : ∀ j, S' j → S j) : RdN w' v xs := by
  rcases o with rfl | o
  · exact r.any
  · exact r.keep (fun j hj e => c.block j hj (fun hp => o j e (hS j hp))) c.size
theorem NotQ.more {w : World} {v : Value} {xs : List Nd} {S S' : Nat → Prop} (o : NotQ v xs S) (r : RdN w v xs) (hS : ∀ j, S' j → S j ∨ w.heap.size ≤ j) : NotQ v xs S' := by
  rcases o with h | o
  · exact .inl h
  · rcases r.ltE with h | h
    · exact .inl h
    · exact .inr fun j hj hs => by
        rcases hS j hs with e | e
        · exact o j hj e
        · have := h j hj; omega
/-- A probe, and the document's store at b with the same nodes; its list lies in none of the blocks S. -/
def TS (g h b j : Nat) : Prop := j = g ∨ j = h ∨ j = b
structure TrP (S : Nat → Prop) (w : World) (g h b : Nat) (l : Int) (bb : Nat) (cs : List Nd) (v : Value) : Prop where
  pn : PnV w g h l bb cs
  blk : Blk w b #[.int .i64 l, v] 30
  rd : RdN w v (snapP cs)
  off : NotQ v (snapP cs) S
  ne : b ≠ g ∧ b ≠ h
theorem TrP.lt {S : Nat → Prop} {w : World} {g h b bb : Nat} {l : Int} {cs : List Nd} {v : Value} (t : TrP S w g h b l bb cs v) : ∀ j, TS g h b j → j < w.heap.size := fun j hj => by
  obtain ⟨h1, h2, _⟩ := t.pn.lt
  rcases hj with e | e | e
  · omega
  · omega
  · rw [e]; exact t.blk.lt
/-- Another one is done something: this one stays. -/
theorem TrP.keep {S C : Nat → Prop} {w w' : World} {g h b bb : Nat} {l : Int} {cs : List Nd} {v : Value} (t : TrP S w g h b l bb cs v) (c : ChQ C w w') (d : ∀ j, TS g h b j → ¬ C j) (hS : ∀ j, C j → S j) : TrP S w' g h b l bb cs v := by
  obtain ⟨⟨⟨cap, rest, p1, p2, p3⟩, pv⟩, x, r, o, n⟩ := t
  exact ⟨⟨⟨cap, rest, p1.keep (c.block g p1.lt (d g (.inl rfl))), p2.keep (c.block h p2.lt (d h (.inr (.inl rfl)))), p3⟩, pv⟩, x.keep (c.block b x.lt (d b (.inr (.inr rfl)))), o.keep r c hS, o, n⟩
theorem TrP.below {S : Nat → Prop} {w w' : World} {g h b bb B : Nat} {l : Int} {cs : List Nd} {v : Value} (t : TrP S w g h b l bb cs v) (hb : Below B w w') (hB : w.heap.size ≤ B) : TrP S w' g h b l bb cs v :=
  ⟨t.pn.below hb hB, t.blk.below hb hB, t.rd.below hb hB, t.off, t.ne⟩
theorem TrP.more {S S' : Nat → Prop} {w : World} {g h b bb : Nat} {l : Int} {cs : List Nd} {v : Value} (t : TrP S w g h b l bb cs v) (hS : ∀ j, S' j → S j ∨ w.heap.size ≤ j) : TrP S' w g h b l bb cs v := ⟨t.pn, t.blk, t.rd, t.off.more t.rd hS, t.ne⟩
/-- A call's cells. -/
def OpsAtP (w : World) (p : Option Addr) (os : List Op3) : Prop := ∀ k, k < os.length → ∃ g off, p = some ⟨g, off, none⟩ ∧ g < w.heap.size ∧
    w.cell? ⟨g, off + k * 3, none⟩ = some (.int .i64 (os.getD k (0, 0, 0)).1) ∧ w.cell? ⟨g, off + k * 3 + 1, none⟩ = some (.int .i64 (os.getD k (0, 0, 0)).2.1) ∧ w.cell? ⟨g, off + k * 3 + 2, none⟩ = some (.int .i64 (os.getD k (0, 0, 0)).2.2) ∧
    (-9223372036854775808 ≤ (os.getD k (0, 0, 0)).1 ∧ (os.getD k (0, 0, 0)).1 ≤ 9223372036854775807) ∧ (-9223372036854775808 ≤ (os.getD k (0, 0, 0)).2.1 ∧ (os.getD k (0, 0, 0)).2.1 ≤ 9223372036854775807) ∧ (-9223372036854775808 ≤ (os.getD k (0, 0, 0)).2.2 ∧ (os.getD k (0, 0, 0)).2.2 ≤ 9223372036854775807)
theorem OpsAtP.at {w wr : World} {p : Option Addr} {os : List Op3} (h : OpsAtP w p os) (hb : Below w.heap.size w wr) {k : Nat} (hk : k < os.length) :
    ∃ g off kind id c, p = some ⟨g, off, none⟩ ∧ wr.cell? ⟨g, off + k * 3, none⟩ = some (.int .i64 kind) ∧ wr.cell? ⟨g, off + k * 3 + 1, none⟩ = some (.int .i64 id) ∧ wr.cell? ⟨g, off + k * 3 + 2, none⟩ = some (.int .i64 c) ∧
      (-9223372036854775808 ≤ id ∧ id ≤ 9223372036854775807) ∧ (-9223372036854775808 ≤ c ∧ c ≤ 9223372036854775807) := by
  obtain ⟨g, off, hp, hg, c1, c2, c3, _, k2, k3⟩ := h k hk
  have eb := hb.block g hg
  exact ⟨g, off, _, _, _, hp, (World.cell?_of_block (w := w) (w' := wr) (a := ⟨g, off + k * 3, none⟩) eb).trans c1, (World.cell?_of_block (w := w) (w' := wr) (a := ⟨g, off + k * 3 + 1, none⟩) eb).trans c2, (World.cell?_of_block (w := w) (w' := wr) (a := ⟨g, off + k * 3 + 2, none⟩) eb).trans c3, k2, k3⟩

/-- The other one: its blocks, its list's too; that it stays. -/
def PX (g h b : Nat) (v : Value) (xs : List Nd) (j : Nat) : Prop := TS g h b j ∨ (xs ≠ [] ∧ v.ownBlock = some j)
def PT (g h b : Nat) (l : Int) (bb : Nat) (cs : List Nd) (v : Value) (W : World) : Prop := PnV W g h l bb cs ∧ Blk W b #[.int .i64 l, v] 30 ∧ RdN W v (snapP cs)
theorem PT.stable {g h b bb : Nat} {l : Int} {cs : List Nd} {v : Value} {S : Nat → Prop} {W W' : World} (t : PT g h b l bb cs v W) (c : ChQ S W W') (d : ∀ j, S j → ¬ PX g h b v (snapP cs) j) : PT g h b l bb cs v W' := by
  obtain ⟨⟨⟨cap, rest, p1, p2, p3⟩, pv⟩, x, r⟩ := t
  refine ⟨⟨⟨cap, rest, p1.keep (c.block g p1.lt (fun q => d g q (.inl (.inl rfl)))), p2.keep (c.block h p2.lt (fun q => d h q (.inl (.inr (.inl rfl))))), p3⟩, pv⟩, x.keep (c.block b x.lt (fun q => d b q (.inl (.inr (.inr rfl))))), ?_⟩
  by_cases he : snapP cs = []
  · rw [he] at r ⊢; exact r.any
  · exact r.keep (fun j hj e => c.block j hj (fun q => d j q (.inr ⟨he, e⟩))) c.size
/-- What stands between two calls: the one that is called goes on (its slots h, its list v); the other one, if any, stays as T says (X: its blocks, its list's too; Y: its blocks). -/
def PARel (w : World) (g b : Nat) (l : Int) (n m0 : Nat) (X Y : Nat → Prop) (T : World → Prop) (i : Value) (wr : World) : Prop :=
  ∃ (k h bb : Nat) (cs : List Nd) (v : Value), i = .int .i64 k ∧ k ≤ n ∧ TrP (fun j => TS g h b j ∨ Y j) wr g h b l bb cs v ∧ Lim (m0 + k) cs ∧ 1 ≤ bb ∧ w.heap.size ≤ h ∧ (∀ j, TS g h b j → ¬ X j) ∧ (∀ j, X j → j < wr.heap.size) ∧ T wr ∧ Below w.heap.size w wr

set_option maxRecDepth 100000 in
set_option maxHeartbeats 8000000 in
theorem ProbeApart_walk (l : Int) (v1 : Value) (os1 : List Op3) (v2 : Value) (os2 : List Op3) (v3 : Value) (os3 : List Op3) (w : World) (hl : -9223372036854775808 ≤ l) (hl1 : l ≤ 9223372036854775807) (ho1 : RdO w v1 os1) (ho2 : RdO w v2 os2) (ho3 : RdO w v3 os3) :
    Calls Try.prog 10 #[.int .i64 l, v1, v2, v3] w fun e w' => e = .returned (.bool true) ∧ Below w.heap.size w w' := by
  obtain ⟨p1, cap1, rfl, hlen1, hcells1⟩ := ho1
  obtain ⟨p2, cap2, rfl, hlen2, hcells2⟩ := ho2
  obtain ⟨p3, cap3, rfl, hlen3, hcells3⟩ := ho3
  have O1 : OpsAtP w p1 os1 := hcells1
  have O2 : OpsAtP w p2 os2 := hcells2
  have O3 : OpsAtP w p3 os3 := hcells3
  clear hcells1 hcells2 hcells3
  have A := hid (fun W : World => pb_alive W)
  have hne0 := fun W : World => node_eq 0 0 0 0 W
  have hz : ((0 : Int) == 0 && (0 : Int) == 0) = true := rfl
  rw [hz] at hne0
  clear hz
  have hno : (l < 1 ∨ 48 < l ∨ 60 < os1.length ∨ 60 < os2.length ∨ 60 < os3.length) ∨ (1 ≤ l ∧ l ≤ 48 ∧ os1.length ≤ 60 ∧ os2.length ≤ 60 ∧ os3.length ≤ 60) := by omega
  rcases hno with hno | ⟨h4, h5, g1, g2, g3⟩
  · have hno' : l < 1 ∨ (1 ≤ l ∧ 48 < l) ∨ (1 ≤ l ∧ l ≤ 48 ∧ 60 < os1.length) ∨ (1 ≤ l ∧ l ≤ 48 ∧ os1.length ≤ 60 ∧ 60 < os2.length) ∨ (1 ≤ l ∧ l ≤ 48 ∧ os1.length ≤ 60 ∧ os2.length ≤ 60 ∧ 60 < os3.length) := by omega
    clear hno O1 O2 O3
    rcases hno' with g1 | ⟨g1, g2⟩ | ⟨g1, g2, g3⟩ | ⟨g1, g2, g3, g4⟩ | ⟨g1, g2, g3, g4, g5⟩
    all_goals
      go_enter Try.func10, Try.ntmps10
      go_wp2_with (first
        | (go_at_call 38; refine (np_l _).mono ?_; rintro e w' ⟨rfl, rfl⟩)
        | (go_at_call 35; refine (np_len _).mono ?_; rintro e w' ⟨rfl, rfl⟩)
        | (go_at_call 39; refine (np_total _).mono ?_; rintro e w' ⟨rfl, rfl⟩)
        | (go_at_call 36; refine (np_get _ _).mono ?_; rintro e w' ⟨rfl, rfl⟩)
        | (go_at_call 40; refine (np_add _ _ _).mono ?_; rintro e w' ⟨rfl, rfl⟩)
        | (go_at_call 41; refine (np_take _ _).mono ?_; rintro e w' ⟨rfl, rfl⟩)
        | (go_at_call 42; refine (np_snap _).mono ?_; rintro e w' ⟨rfl, rfl⟩)
        | (go_at_call 43; refine (np_clone _).mono ?_; rintro e w' ⟨rfl, rfl⟩)
        | (go_at_call 31; refine (np_size _).mono ?_; rintro e w' ⟨rfl, rfl⟩)
        | (go_at_call 33; refine (np_walk _ _).mono ?_; rintro e w' ⟨rfl, rfl⟩)
        | (go_at_call 32; refine (np_slot _ _).mono ?_; rintro e w0 ⟨rfl, hb0⟩
           have hs0 := hb0.size))
      refine (A.out _).mono ?_
      rintro e w' ⟨rfl, hb⟩
      go_wp2_with fail
      go_ret
      exact ⟨rfl, hb0.trans (hb.mono hs0)⟩
  · have N := hid (fun W : World => p_new l W h4 h5)
    obtain ⟨z0, ez⟩ : ∃ z, List.replicate 8 ((0 : Int), (0 : Int)) = z := ⟨_, rfl⟩
    have es : snapP z0 = [] := by subst ez; decide
    have el : Lim 0 z0 := by subst ez; exact Lim.new
    have Es := hid es
    have El := hid el
    rw [ez] at N
    clear ez es el
    go_enter Try.func10, Try.ntmps10
    go_wp2_with (first
      | (go_at_call 38; refine (np_l _).mono ?_; rintro e w' ⟨rfl, rfl⟩)
      | (go_at_call 35; refine (np_len _).mono ?_; rintro e w' ⟨rfl, rfl⟩)
      | (go_at_call 39; refine (np_total _).mono ?_; rintro e w' ⟨rfl, rfl⟩)
      | (go_at_call 36; refine (np_get _ _).mono ?_; rintro e w' ⟨rfl, rfl⟩)
      | (go_at_call 40; refine (np_add _ _ _).mono ?_; rintro e w' ⟨rfl, rfl⟩)
      | (go_at_call 41; refine (np_take _ _).mono ?_; rintro e w' ⟨rfl, rfl⟩)
      | (go_at_call 42; refine (np_snap _).mono ?_; rintro e w' ⟨rfl, rfl⟩)
      | (go_at_call 43; refine (np_clone _).mono ?_; rintro e w' ⟨rfl, rfl⟩)
      | (go_at_call 31; refine (np_size _).mono ?_; rintro e w' ⟨rfl, rfl⟩)
      | (go_at_call 33; refine (np_walk _ _).mono ?_; rintro e w' ⟨rfl, rfl⟩)
      | (go_at_call 32; refine (np_slot _ _).mono ?_; rintro e w0 ⟨rfl, hb0⟩
         have hs0 := hb0.size))
    refine (N.out _).mono ?_
    rintro e w1 ⟨g, h0, rfl, dv1, hg, hh, hb1⟩
    have hs1 := hb1.size
    have hbw1 := hb0.trans (hb1.mono hs0)
    clear hne0 N
    go_wp2_with fail
    have hba1 : Below w1.heap.size w1 (w1.alloc (.cells #[.int .i64 l, .slice none 0 0] 30)) := (Below.refl _ _).alloc (Nat.le_refl _) _
    have X1 := Blk.new w1 #[.int .i64 l, .slice none 0 0] 30
    have dv2 := dv1.below hba1 (Nat.le_refl _)
    obtain ⟨hg1, hh1, hgh⟩ := dv1.lt
    have hbw2 := hbw1.trans (hba1.mono hbw1.size)
    have Tr0 : TrP (fun j => TS g h0 w1.heap.size j ∨ False) (w1.alloc (.cells #[.int .i64 l, .slice none 0 0] 30)) g h0 w1.heap.size l 3 z0 (.slice none 0 0) :=
      ⟨dv2, X1, by rw [Es.out]; exact RdN.nil _, .inl Es.out, by omega, by omega⟩
    have hs2 : (w1.alloc (.cells #[.int .i64 l, .slice none 0 0] 30)).heap.size = w1.heap.size + 1 := by simp
    have hgw : w.heap.size ≤ g := by omega
    have hbw : w.heap.size ≤ w1.heap.size := by omega
    have R0 : Hid (PARel w g w1.heap.size l os1.length 0 (fun _ => False) (fun _ => False) (fun _ => True) (.int .i64 (0 : Nat)) (w1.alloc (.cells #[.int .i64 l, .slice none 0 0] 30))) :=
      ⟨0, h0, 3, z0, _, rfl, Nat.zero_le _, Tr0, El.out, by decide, by omega, fun _ _ q => q, fun _ q => q.elim, trivial, hbw2⟩
    have hTc : Hid (∀ h W W', True → ChQ (TS g h w1.heap.size) W W' → (∀ j, TS g h w1.heap.size j → ¬ (fun _ : Nat => False) j) → True) := fun _ _ _ _ _ _ => trivial
    have hYX : Hid (∀ j : Nat, (fun _ : Nat => False) j → (fun _ : Nat => False) j) := fun _ q => q
    generalize (w1.alloc (.cells #[.int .i64 l, .slice none 0 0] 30)) = wz at *
    clear Tr0 dv2 X1 dv1 hba1 hb1 hb0 El Es hbw1
    generalize w1.heap.size = b at *
    go_loopw [116] (fun i wr => PARel w g b l os1.length 0 (fun _ => False) (fun _ => False) (fun _ => True) i wr) (fun i _ => os1.length - (intOf i).toNat)
    case atStart => exact R0.out
    case round =>
      obtain ⟨k, h, bb, cs, v0, rfl, hk, Tr, hlim, hbb, hhw, hX, hXl, hT, hbl⟩ := hrel
      have hwr := hbl.size
      have hlt := Tr.lt
      obtain ⟨p0, cap0, rfl⟩ := Tr.rd.val
      by_cases h6 : k < os1.length
      · obtain ⟨gq, off, kind, id, c, rfl, c1, c2, c3, k2, k3⟩ := O1.at hbl h6
        have hbits := hlim.bits Tr.pn.2 (by omega)
        have hlim' := hlim.do Tr.pn.2 (show bb + 1 ≤ 62 by omega) kind id c
        have hxl : (snapP cs).length < 1000000 := by rw [snapP_length]; have := hlim.1; omega
        have hxt : 0 ≤ totV (snapP cs) ∧ totV (snapP cs) ≤ 72057594037927935 := by
          rw [tot_snapP Tr.pn.2]; exact ⟨sumL_nonneg (pos_of_tab Tr.pn.2.tab), Tr.pn.2.most⟩
        have hdo := do_snapP Tr.pn.2 (show bb + 1 ≤ 62 by omega) kind id c
        have hba : Below wr.heap.size wr (wr.alloc (.cells #[.int .i64 kind, .int .i64 id, .int .i64 c] 32)) := (Below.refl _ _).alloc (Nat.le_refl _) _
        have O := Blk.new wr #[.int .i64 kind, .int .i64 id, .int .i64 c] 32
        have hsa : (wr.alloc (.cells #[.int .i64 kind, .int .i64 id, .int .i64 c] 32)).heap.size = wr.heap.size + 1 := by simp
        have Ta := Tr.below hba (Nat.le_refl _)
        have TTa := hTc.out _ _ _ hT (ChQ.of_below (S := TS g h b) hba) hX
        have Do := fun W (q : RdN W (.slice p0 (snapP cs).length cap0) (snapP cs)) => r_stdo (B := 0) l kind id c W ⟨q, fun _ _ => Nat.zero_le _⟩ (Nat.zero_le _) hxl ⟨hl, hl1⟩ k2 k3 hxt
        rw [hdo] at Do
        have Do' := hid Do
        have Law := hid (pb_do kind id c Ta.pn (by omega) hbb k2 k3)
        obtain ⟨⟨⟨bb', cs'⟩, code⟩, ed⟩ : ∃ r, pDo l bb cs kind id c = r := ⟨_, rfl⟩
        rw [ed] at Law Do' hlim'
        have Hlim := hid hlim'
        have hbla := hbl.trans (hba.mono hwr)
        have hYl := fun j (q : (fun _ => False) j) => hXl j (hYX.out j q)
        clear ed hlim' hdo hxt Do hxl Tr hT
        go_wp2_with fail
        generalize (wr.alloc (.cells #[.int .i64 kind, .int .i64 id, .int .i64 c] 32)) = wa at *
        refine Law.out.mono ?_
        rintro e w2 ⟨rfl, h5, D2, hh5, T2⟩
        dsimp only at D2 ⊢
        have hs2 := T2.size
        obtain ⟨hn1, hn2⟩ := Ta.ne
        have hlb : b < wr.heap.size := hlt b (.inr (.inr rfl))
        have hlg := hlt g (.inl rfl)
        have hlh := hlt h (.inr (.inl rfl))
        have X2 := Ta.blk.tch T2 hn1 hn2
        have O2 := O.tch T2 (by omega) (by omega)
        have C2 : ChQ (TS g h b) wa w2 := ChQ.of_tch T2 (.inl rfl) (.inr (.inl rfl))
        have R2 := Ta.off.keep Ta.rd C2 (fun j hj => .inl hj)
        have TT2 := hTc.out _ _ _ TTa C2 hX
        have hl5 := D2.lt
        have hn5 : b ≠ h5 := by
          rcases hh5 with e | e
          · rw [e]; exact hn2
          · omega
        have hX5 : ∀ j, TS g h5 b j → ¬ (fun _ => False) j := fun j hj hx => by
          rcases hj with e | e | e
          · exact hX j (.inl e) hx
          · rcases hh5 with e2 | e2
            · exact hX j (.inr (.inl (e.trans e2))) hx
            · have := hXl j hx; omega
          · exact hX j (.inr (.inr e)) hx
        have NQ2 := Ta.off.more (S' := fun j => TS g h5 b j ∨ (fun _ => False) j) Ta.rd (fun j hj => by
          rcases hj with (e | e | e) | hj
          · exact .inl (.inl (.inl e))
          · rcases hh5 with e2 | e2
            · exact .inl (.inl (.inr (.inl (e.trans e2))))
            · exact .inr (by omega)
          · exact .inl (.inl (.inr (.inr e)))
          · exact .inl (.inr hj))
        have hhw5 : w.heap.size ≤ h5 := by rcases hh5 with e | e <;> omega
        have B2 := hbla.trans (T2.below (B := w.heap.size) (by omega) hhw hbla.size)
        have x0 : w2.cell? ⟨b, 0, none⟩ = some (.int .i64 l) := X2.cell 0
        have x1 : w2.cell? ⟨b, 1, none⟩ = some (.slice p0 (snapP cs).length cap0) := X2.cell 1
        have o0 : w2.cell? ⟨wr.heap.size, 0, none⟩ = some (.int .i64 kind) := O2.cell 0
        have o1 : w2.cell? ⟨wr.heap.size, 1, none⟩ = some (.int .i64 id) := O2.cell 1
        have o2 : w2.cell? ⟨wr.heap.size, 2, none⟩ = some (.int .i64 c) := O2.cell 2
        have hll : w2.heap.size ≤ w2.heap.size := Nat.le_refl _
        clear Law c1 c2 c3 TTa Ta O O2 C2 T2 hbla hll
        as_aux_lemma =>
          go_wp2_with fail
          refine (Do'.out w2 R2).mono ?_
          rintro e w3 ⟨v3, rfl, hr3, hv3, hb3⟩
          dsimp only at hr3 hv3 ⊢
          have hs3 := hb3.size
          obtain ⟨pz, capz, rfl⟩ : ∃ p cap, v3 = .slice p (snapP cs').length cap := hr3.1.val
          have X3 := X2.below hb3 (Nat.le_refl _)
          have D3 := D2.below hb3 (Nat.le_refl _)
          have TT3 := hTc.out _ _ _ TT2 (ChQ.of_below (S := TS g h5 b) hb3) hX5
          have B3 := B2.trans (hb3.mono B2.size)
          have NQ3 := NQ2.next R2 hr3.1 hv3 (fun j hj => by
            rcases hj with (e | e | e) | hj
            · omega
            · omega
            · omega
            · have := hYl j hj; omega)
          have y0 : w3.cell? ⟨b, 0, none⟩ = some (.int .i64 l) := X3.cell 0
          have y1 : w3.cell? ⟨b, 1, none⟩ = some (.slice p0 (snapP cs).length cap0) := X3.cell 1
          have f0 := X3.free 0
          have f1 := X3.free 1
          have hlb3 : b < w3.heap.size := by omega
          clear x0 x1 o0 o1 o2 hv3
          go_wp2_with fail
          go_roundw
          case rel =>
            obtain ⟨hL1, hL2, hL3⟩ := Hlim.out
            have T4 := (Tch.set1 (g := b) (h := b) w3 0 (.int .i64 l)).trans (Tch.set1 _ 1 (.slice pz (snapP cs').length capz))
            have C4 : ChQ (TS g h5 b) w3 _ := ChQ.of_tch T4 (.inr (.inr rfl)) (.inr (.inr rfl))
            refine ⟨k + 1, h5, bb', cs', .slice pz (snapP cs').length capz, by go_num, by omega, ⟨D3.tch T4 (Ne.symm hn1) (Ne.symm hn1) (Ne.symm hn5) (Ne.symm hn5), (X3.set 0 (.int .i64 l)).set 1 (.slice pz (snapP cs').length capz), NQ3.keep hr3.1 C4 (fun j hj => .inl hj), NQ3, hn1, hn5⟩, by have := hL2; rwa [Nat.add_assoc] at this, by omega, hhw5, hX5, (fun j hj => by have := hXl j hj; simp; omega), hTc.out _ _ _ TT3 C4 hX5, ?_⟩
            exact B3.trans (T4.below (B := w.heap.size) (by omega) (by omega) B3.size)
          case measure => simp [intOf]; omega
      · obtain rfl : k = os1.length := by omega
        have hbits := hlim.bits Tr.pn.2 (by omega)
        have hcl : cs.length < 1048576 := by omega
        have hcl2 : cs.length ≤ 1000000 := by omega
        have CL := hid (p_clone Tr.pn hcl)
        go_wp2_with fail
        refine CL.out.mono ?_
        rintro e wc ⟨g2, h2, rfl, dc, hg2, hh2, hbc⟩
        have hsc := hbc.size
        have Xc := Tr.blk.below hbc (Nat.le_refl _)
        have Rc := Tr.rd.below hbc (Nat.le_refl _)
        have Trc := Tr.below hbc (Nat.le_refl _)
        have Bc := hbl.trans (hbc.mono hwr)
        have x0 : wc.cell? ⟨b, 0, none⟩ = some (.int .i64 l) := Xc.cell 0
        have x1 : wc.cell? ⟨b, 1, none⟩ = some (.slice p0 (snapP cs).length cap0) := Xc.cell 1
        obtain ⟨hcg, hch, -⟩ := dc.lt
        clear CL
        go_wp2_with fail
        refine (pb_like dc hcl2 Rc).mono ?_
        rintro e wd ⟨rfl, hbd⟩
        have hsd := hbd.size
        have Xd := Xc.below hbd (Nat.le_refl _)
        have Rd := Rc.below hbd (Nat.le_refl _)
        have Trd := Trc.below hbd (Nat.le_refl _)
        have dcd := dc.below hbd (Nat.le_refl _)
        have Bd := Bc.trans (hbd.mono Bc.size)
        clear x0 x1
        have x0 : wd.cell? ⟨b, 0, none⟩ = some (.int .i64 l) := Xd.cell 0
        have x1 : wd.cell? ⟨b, 1, none⟩ = some (.slice p0 (snapP cs).length cap0) := Xd.cell 1
        go_wp2_with fail
        have hbe : Below wd.heap.size wd (wd.alloc (.cells #[.int .i64 l, .slice p0 (snapP cs).length cap0] 30)) := (Below.refl _ _).alloc (Nat.le_refl _) _
        have Xe := Blk.new wd #[.int .i64 l, .slice p0 (snapP cs).length cap0] 30
        have Re := Rd.below hbe (Nat.le_refl _)
        have Tre := Trd.below hbe (Nat.le_refl _)
        have dce := dcd.below hbe (Nat.le_refl _)
        have Be := Bd.trans (hbe.mono Bd.size)
        have hse : (wd.alloc (.cells #[.int .i64 l, .slice p0 (snapP cs).length cap0] 30)).heap.size = wd.heap.size + 1 := by simp
        generalize (wd.alloc (.cells #[.int .i64 l, .slice p0 (snapP cs).length cap0] 30)) = we at *
        have hwdl : wr.heap.size ≤ wd.heap.size := by omega
        generalize wd.heap.size = b2 at *
        have hS2 : ∀ j, TS g2 h2 b2 j → wr.heap.size ≤ j := fun j hj => by rcases hj with e | e | e <;> omega
        have hS2' : ∀ j, TS g2 h2 b2 j → j < we.heap.size := fun j hj => by rcases hj with e | e | e <;> omega
        have HN := hid (show NotQ (.slice p0 (snapP cs).length cap0) (snapP cs) (TS g2 h2 b2) from Tr.off.more Tr.rd (fun j hj => .inr (hS2 j hj)))
        have HNe := hid (show b2 ≠ g2 ∧ b2 ≠ h2 by omega)
        have HLA := hid (show Lim (os1.length + 0) cs by have := hlim; rwa [Nat.zero_add] at this)
        have HbA := hid hbb
        have hle2 : w.heap.size ≤ g2 := by omega
        have hle3 : w.heap.size ≤ h2 := by omega
        have hle4 : w.heap.size ≤ b2 := by omega
        have R1 : Hid (PARel w g b l os2.length os1.length (PX g2 h2 b2 (.slice p0 (snapP cs).length cap0) (snapP cs)) (TS g2 h2 b2) (PT g2 h2 b2 l bb cs (.slice p0 (snapP cs).length cap0)) (.int .i64 (0 : Nat)) we) := by
          refine ⟨0, h, bb, cs, _, rfl, Nat.zero_le _, ⟨Tre.pn, Tre.blk, Tre.rd, Tr.off.more Tr.rd (fun j hj => ?_), Tre.ne⟩, HLA.out, hbb, hhw, fun j hj hx => ?_, fun j hx => ?_, ⟨dce, Xe, Re⟩, Be⟩
          · rcases hj with hj | hj
            · exact .inl (.inl hj)
            · exact .inr (hS2 j hj)
          · have h1 := hlt j hj
            rcases hx with hx | ⟨hx1, hx2⟩
            · have := hS2 j hx; omega
            · rcases Tr.off with e | e
              · exact hx1 e
              · exact e j hx2 (.inl hj)
          · rcases hx with hx | ⟨hx1, hx2⟩
            · exact hS2' j hx
            · rcases Re.ltE with e | e
              · exact absurd e hx1
              · exact e j hx2
        obtain ⟨vA, evA⟩ : ∃ v, Value.slice p0 (snapP cs).length cap0 = v := ⟨_, rfl⟩
        rw [evA] at R1 HN
        obtain ⟨csA, rfl⟩ : ∃ c, c = cs := ⟨_, rfl⟩
        obtain ⟨bbA, rfl⟩ : ∃ c, c = bb := ⟨_, rfl⟩
        obtain ⟨XA2, eAX2⟩ : ∃ X : Nat → Prop, X = PX g2 h2 b2 vA (snapP csA) := ⟨_, rfl⟩
        obtain ⟨TA2, eAT2⟩ : ∃ T : World → Prop, T = PT g2 h2 b2 l bbA csA vA := ⟨_, rfl⟩
        have hTc2 : Hid (∀ h W W', TA2 W → ChQ (TS g h b) W W' → (∀ j, TS g h b j → ¬ XA2 j) → TA2 W') := fun h W W' t c d => by rw [eAT2] at t ⊢; rw [eAX2] at d; exact t.stable c d
        obtain ⟨YA2, eAY2⟩ : ∃ Y : Nat → Prop, Y = TS g2 h2 b2 := ⟨_, rfl⟩
        have hYX2 : Hid (∀ j, YA2 j → XA2 j) := fun j q => by rw [eAX2]; rw [eAY2] at q; exact .inl q
        rw [← eAX2, ← eAT2, ← eAY2] at R1
        clear hTc hYX hX hXl Tr Trc Trd Tre hlim dc dcd dce Xc Xd Xe Rc Rd Re hlt R0 hbc hbd hbe x0 x1 hT evA Bc Bd Be hS2 hS2'
        have R0 := R1
        have hTc := hTc2
        have hYX := hYX2
        clear R1 hTc2 hYX2
        go_loopw [143] (fun i wr => PARel w g b l os2.length os1.length XA2 YA2 TA2 i wr) (fun i _ => os2.length - (intOf i).toNat)
        case atStart => exact R0.out
        case round =>
          obtain ⟨k, h, bb, cs, v0, rfl, hk, Tr, hlim, hbb, hhw, hX, hXl, hT, hbl⟩ := hrel
          have hwr := hbl.size
          have hlt := Tr.lt
          obtain ⟨p0, cap0, rfl⟩ := Tr.rd.val
          by_cases h6 : k < os2.length
          · obtain ⟨gq, off, kind, id, c, rfl, c1, c2, c3, k2, k3⟩ := O2.at hbl h6
            have hbits := hlim.bits Tr.pn.2 (by omega)
            have hlim' := hlim.do Tr.pn.2 (show bb + 1 ≤ 62 by omega) kind id c
            have hxl : (snapP cs).length < 1000000 := by rw [snapP_length]; have := hlim.1; omega
            have hxt : 0 ≤ totV (snapP cs) ∧ totV (snapP cs) ≤ 72057594037927935 := by
              rw [tot_snapP Tr.pn.2]; exact ⟨sumL_nonneg (pos_of_tab Tr.pn.2.tab), Tr.pn.2.most⟩
            have hdo := do_snapP Tr.pn.2 (show bb + 1 ≤ 62 by omega) kind id c
            have hba : Below wr.heap.size wr (wr.alloc (.cells #[.int .i64 kind, .int .i64 id, .int .i64 c] 32)) := (Below.refl _ _).alloc (Nat.le_refl _) _
            have O := Blk.new wr #[.int .i64 kind, .int .i64 id, .int .i64 c] 32
            have hsa : (wr.alloc (.cells #[.int .i64 kind, .int .i64 id, .int .i64 c] 32)).heap.size = wr.heap.size + 1 := by simp
            have Ta := Tr.below hba (Nat.le_refl _)
            have TTa := hTc.out _ _ _ hT (ChQ.of_below (S := TS g h b) hba) hX
            have Do := fun W (q : RdN W (.slice p0 (snapP cs).length cap0) (snapP cs)) => r_stdo (B := 0) l kind id c W ⟨q, fun _ _ => Nat.zero_le _⟩ (Nat.zero_le _) hxl ⟨hl, hl1⟩ k2 k3 hxt
            rw [hdo] at Do
            have Do' := hid Do
            have Law := hid (pb_do kind id c Ta.pn (by omega) hbb k2 k3)
            obtain ⟨⟨⟨bb', cs'⟩, code⟩, ed⟩ : ∃ r, pDo l bb cs kind id c = r := ⟨_, rfl⟩
            rw [ed] at Law Do' hlim'
            have Hlim := hid hlim'
            have hbla := hbl.trans (hba.mono hwr)
            have hYl := fun j (q : YA2 j) => hXl j (hYX.out j q)
            clear ed hlim' hdo hxt Do hxl Tr hT
            go_wp2_with fail
            generalize (wr.alloc (.cells #[.int .i64 kind, .int .i64 id, .int .i64 c] 32)) = wa at *
            refine Law.out.mono ?_
            rintro e w2 ⟨rfl, h5, D2, hh5, T2⟩
            dsimp only at D2 ⊢
            have hs2 := T2.size
            obtain ⟨hn1, hn2⟩ := Ta.ne
            have hlb : b < wr.heap.size := hlt b (.inr (.inr rfl))
            have hlg := hlt g (.inl rfl)
            have hlh := hlt h (.inr (.inl rfl))
            have X2 := Ta.blk.tch T2 hn1 hn2
            have O2 := O.tch T2 (by omega) (by omega)
            have C2 : ChQ (TS g h b) wa w2 := ChQ.of_tch T2 (.inl rfl) (.inr (.inl rfl))
            have R2 := Ta.off.keep Ta.rd C2 (fun j hj => .inl hj)
            have TT2 := hTc.out _ _ _ TTa C2 hX
            have hl5 := D2.lt
            have hn5 : b ≠ h5 := by
              rcases hh5 with e | e
              · rw [e]; exact hn2
              · omega
            have hX5 : ∀ j, TS g h5 b j → ¬ XA2 j := fun j hj hx => by
              rcases hj with e | e | e
              · exact hX j (.inl e) hx
              · rcases hh5 with e2 | e2
                · exact hX j (.inr (.inl (e.trans e2))) hx
                · have := hXl j hx; omega
              · exact hX j (.inr (.inr e)) hx
            have NQ2 := Ta.off.more (S' := fun j => TS g h5 b j ∨ YA2 j) Ta.rd (fun j hj => by
              rcases hj with (e | e | e) | hj
              · exact .inl (.inl (.inl e))
              · rcases hh5 with e2 | e2
                · exact .inl (.inl (.inr (.inl (e.trans e2))))
                · exact .inr (by omega)
              · exact .inl (.inl (.inr (.inr e)))
              · exact .inl (.inr hj))
            have hhw5 : w.heap.size ≤ h5 := by rcases hh5 with e | e <;> omega
            have B2 := hbla.trans (T2.below (B := w.heap.size) (by omega) hhw hbla.size)
            have x0 : w2.cell? ⟨b, 0, none⟩ = some (.int .i64 l) := X2.cell 0
            have x1 : w2.cell? ⟨b, 1, none⟩ = some (.slice p0 (snapP cs).length cap0) := X2.cell 1
            have o0 : w2.cell? ⟨wr.heap.size, 0, none⟩ = some (.int .i64 kind) := O2.cell 0
            have o1 : w2.cell? ⟨wr.heap.size, 1, none⟩ = some (.int .i64 id) := O2.cell 1
            have o2 : w2.cell? ⟨wr.heap.size, 2, none⟩ = some (.int .i64 c) := O2.cell 2
            have hll : w2.heap.size ≤ w2.heap.size := Nat.le_refl _
            clear Law c1 c2 c3 TTa Ta O O2 C2 T2 hbla hll
            as_aux_lemma =>
              go_wp2_with fail
              refine (Do'.out w2 R2).mono ?_
              rintro e w3 ⟨v3, rfl, hr3, hv3, hb3⟩
              dsimp only at hr3 hv3 ⊢
              have hs3 := hb3.size
              obtain ⟨pz, capz, rfl⟩ : ∃ p cap, v3 = .slice p (snapP cs').length cap := hr3.1.val
              have X3 := X2.below hb3 (Nat.le_refl _)
              have D3 := D2.below hb3 (Nat.le_refl _)
              have TT3 := hTc.out _ _ _ TT2 (ChQ.of_below (S := TS g h5 b) hb3) hX5
              have B3 := B2.trans (hb3.mono B2.size)
              have NQ3 := NQ2.next R2 hr3.1 hv3 (fun j hj => by
                rcases hj with (e | e | e) | hj
                · omega
                · omega
                · omega
                · have := hYl j hj; omega)
              have y0 : w3.cell? ⟨b, 0, none⟩ = some (.int .i64 l) := X3.cell 0
              have y1 : w3.cell? ⟨b, 1, none⟩ = some (.slice p0 (snapP cs).length cap0) := X3.cell 1
              have f0 := X3.free 0
              have f1 := X3.free 1
              have hlb3 : b < w3.heap.size := by omega
              clear x0 x1 o0 o1 o2 hv3
              go_wp2_with fail
              go_roundw
              case rel =>
                obtain ⟨hL1, hL2, hL3⟩ := Hlim.out
                have T4 := (Tch.set1 (g := b) (h := b) w3 0 (.int .i64 l)).trans (Tch.set1 _ 1 (.slice pz (snapP cs').length capz))
                have C4 : ChQ (TS g h5 b) w3 _ := ChQ.of_tch T4 (.inr (.inr rfl)) (.inr (.inr rfl))
                refine ⟨k + 1, h5, bb', cs', .slice pz (snapP cs').length capz, by go_num, by omega, ⟨D3.tch T4 (Ne.symm hn1) (Ne.symm hn1) (Ne.symm hn5) (Ne.symm hn5), (X3.set 0 (.int .i64 l)).set 1 (.slice pz (snapP cs').length capz), NQ3.keep hr3.1 C4 (fun j hj => .inl hj), NQ3, hn1, hn5⟩, by have := hL2; rwa [Nat.add_assoc] at this, by omega, hhw5, hX5, (fun j hj => by have := hXl j hj; simp; omega), hTc.out _ _ _ TT3 C4 hX5, ?_⟩
                exact B3.trans (T4.below (B := w.heap.size) (by omega) (by omega) B3.size)
              case measure => simp [intOf]; omega
          · obtain rfl : k = os2.length := by omega
            have hbits := hlim.bits Tr.pn.2 (by omega)
            rw [eAT2] at hT
            rw [eAX2] at hX hXl
            obtain ⟨DA, BA, RA⟩ := hT
            have HclB := hid (show cs.length ≤ 1000000 by omega)
            have NA : NotQ vA (snapP csA) (fun j => TS g2 h2 b2 j ∨ TS g h b j) := by
              by_cases he : snapP csA = []
              · exact .inl he
              · right
                intro j hj hs
                rcases hs with hs | hs
                · rcases HN.out with e | e
                  · exact he e
                  · exact e j hj hs
                · exact hX j hs (.inr ⟨he, hj⟩)
            have hne2 := HNe.out
            have TrA : TrP (fun j => TS g2 h2 b2 j ∨ TS g h b j) wr g2 h2 b2 l bbA csA vA := ⟨DA, BA, RA, NA, hne2⟩
            have R1 : Hid (PARel w g2 b2 l os3.length os1.length (PX g h b (.slice p0 (snapP cs).length cap0) (snapP cs)) (TS g h b) (PT g h b l bb cs (.slice p0 (snapP cs).length cap0)) (.int .i64 (0 : Nat)) wr) := by
              refine ⟨0, h2, bbA, csA, vA, rfl, Nat.zero_le _, TrA, HLA.out, HbA.out, by omega, fun j hj hx => ?_, fun j hx => ?_, ⟨Tr.pn, Tr.blk, Tr.rd⟩, hbl⟩
              · rcases hx with hx | ⟨hx1, hx2⟩
                · exact hX j hx (.inl hj)
                · rcases Tr.off with e | e
                  · exact hx1 e
                  · exact e j hx2 (.inr (by rw [eAY2]; exact hj))
              · rcases hx with hx | ⟨hx1, hx2⟩
                · exact hlt j hx
                · rcases Tr.rd.ltE with e | e
                  · exact absurd e hx1
                  · exact e j hx2
            obtain ⟨XA3, eAX3⟩ : ∃ X : Nat → Prop, X = PX g h b (.slice p0 (snapP cs).length cap0) (snapP cs) := ⟨_, rfl⟩
            obtain ⟨TA3, eAT3⟩ : ∃ T : World → Prop, T = PT g h b l bb cs (.slice p0 (snapP cs).length cap0) := ⟨_, rfl⟩
            have hTc3 : Hid (∀ h W W', TA3 W → ChQ (TS g2 h b2) W W' → (∀ j, TS g2 h b2 j → ¬ XA3 j) → TA3 W') := fun h W W' t c d => by rw [eAT3] at t ⊢; rw [eAX3] at d; exact t.stable c d
            obtain ⟨YA3, eAY3⟩ : ∃ Y : Nat → Prop, Y = TS g h b := ⟨_, rfl⟩
            have hYX3 : Hid (∀ j, YA3 j → XA3 j) := fun j q => by rw [eAX3]; rw [eAY3] at q; exact .inl q
            rw [← eAX3, ← eAT3, ← eAY3] at R1
            obtain ⟨csB, rfl⟩ : ∃ c, c = cs := ⟨_, rfl⟩
            obtain ⟨bbB, rfl⟩ : ∃ c, c = bb := ⟨_, rfl⟩
            obtain ⟨hB, rfl⟩ : ∃ c, c = h := ⟨_, rfl⟩
            obtain ⟨pB, rfl⟩ : ∃ c, c = p0 := ⟨_, rfl⟩
            obtain ⟨capB, rfl⟩ : ∃ c, c = cap0 := ⟨_, rfl⟩
            have hh1w : w.heap.size ≤ h2 := by omega
            clear hTc hYX hX hXl Tr TrA NA hlim DA BA RA HN HNe HLA HbA hlt eAX2 eAT2 R0
            have R0 := R1
            have hTc := hTc3
            have hYX := hYX3
            clear R1 hTc3 hYX3
            go_wp2_with fail
            go_loopw [159] (fun i wr => PARel w g2 b2 l os3.length os1.length XA3 YA3 TA3 i wr) (fun i _ => os3.length - (intOf i).toNat)
            case atStart => exact R0.out
            case round =>
              obtain ⟨k, h, bb, cs, v0, rfl, hk, Tr, hlim, hbb, hhw, hX, hXl, hT, hbl⟩ := hrel
              have hwr := hbl.size
              have hlt := Tr.lt
              obtain ⟨p0, cap0, rfl⟩ := Tr.rd.val
              by_cases h6 : k < os3.length
              · obtain ⟨gq, off, kind, id, c, rfl, c1, c2, c3, k2, k3⟩ := O3.at hbl h6
                have hbits := hlim.bits Tr.pn.2 (by omega)
                have hlim' := hlim.do Tr.pn.2 (show bb + 1 ≤ 62 by omega) kind id c
                have hxl : (snapP cs).length < 1000000 := by rw [snapP_length]; have := hlim.1; omega
                have hxt : 0 ≤ totV (snapP cs) ∧ totV (snapP cs) ≤ 72057594037927935 := by
                  rw [tot_snapP Tr.pn.2]; exact ⟨sumL_nonneg (pos_of_tab Tr.pn.2.tab), Tr.pn.2.most⟩
                have hdo := do_snapP Tr.pn.2 (show bb + 1 ≤ 62 by omega) kind id c
                have hba : Below wr.heap.size wr (wr.alloc (.cells #[.int .i64 kind, .int .i64 id, .int .i64 c] 32)) := (Below.refl _ _).alloc (Nat.le_refl _) _
                have O := Blk.new wr #[.int .i64 kind, .int .i64 id, .int .i64 c] 32
                have hsa : (wr.alloc (.cells #[.int .i64 kind, .int .i64 id, .int .i64 c] 32)).heap.size = wr.heap.size + 1 := by simp
                have Ta := Tr.below hba (Nat.le_refl _)
                have TTa := hTc.out _ _ _ hT (ChQ.of_below (S := TS g2 h b2) hba) hX
                have Do := fun W (q : RdN W (.slice p0 (snapP cs).length cap0) (snapP cs)) => r_stdo (B := 0) l kind id c W ⟨q, fun _ _ => Nat.zero_le _⟩ (Nat.zero_le _) hxl ⟨hl, hl1⟩ k2 k3 hxt
                rw [hdo] at Do
                have Do' := hid Do
                have Law := hid (pb_do kind id c Ta.pn (by omega) hbb k2 k3)
                obtain ⟨⟨⟨bb', cs'⟩, code⟩, ed⟩ : ∃ r, pDo l bb cs kind id c = r := ⟨_, rfl⟩
                rw [ed] at Law Do' hlim'
                have Hlim := hid hlim'
                have hbla := hbl.trans (hba.mono hwr)
                have hYl := fun j (q : YA3 j) => hXl j (hYX.out j q)
                clear ed hlim' hdo hxt Do hxl Tr hT
                go_wp2_with fail
                generalize (wr.alloc (.cells #[.int .i64 kind, .int .i64 id, .int .i64 c] 32)) = wa at *
                refine Law.out.mono ?_
                rintro e w2 ⟨rfl, h5, D2, hh5, T2⟩
                dsimp only at D2 ⊢
                have hs2 := T2.size
                obtain ⟨hn1, hn2⟩ := Ta.ne
                have hlb : b2 < wr.heap.size := hlt b2 (.inr (.inr rfl))
                have hlg := hlt g2 (.inl rfl)
                have hlh := hlt h (.inr (.inl rfl))
                have X2 := Ta.blk.tch T2 hn1 hn2
                have O2 := O.tch T2 (by omega) (by omega)
                have C2 : ChQ (TS g2 h b2) wa w2 := ChQ.of_tch T2 (.inl rfl) (.inr (.inl rfl))
                have R2 := Ta.off.keep Ta.rd C2 (fun j hj => .inl hj)
                have TT2 := hTc.out _ _ _ TTa C2 hX
                have hl5 := D2.lt
                have hn5 : b2 ≠ h5 := by
                  rcases hh5 with e | e
                  · rw [e]; exact hn2
                  · omega
                have hX5 : ∀ j, TS g2 h5 b2 j → ¬ XA3 j := fun j hj hx => by
                  rcases hj with e | e | e
                  · exact hX j (.inl e) hx
                  · rcases hh5 with e2 | e2
                    · exact hX j (.inr (.inl (e.trans e2))) hx
                    · have := hXl j hx; omega
                  · exact hX j (.inr (.inr e)) hx
                have NQ2 := Ta.off.more (S' := fun j => TS g2 h5 b2 j ∨ YA3 j) Ta.rd (fun j hj => by
                  rcases hj with (e | e | e) | hj
                  · exact .inl (.inl (.inl e))
                  · rcases hh5 with e2 | e2
                    · exact .inl (.inl (.inr (.inl (e.trans e2))))
                    · exact .inr (by omega)
                  · exact .inl (.inl (.inr (.inr e)))
                  · exact .inl (.inr hj))
                have hhw5 : w.heap.size ≤ h5 := by rcases hh5 with e | e <;> omega
                have B2 := hbla.trans (T2.below (B := w.heap.size) (by omega) hhw hbla.size)
                have x0 : w2.cell? ⟨b2, 0, none⟩ = some (.int .i64 l) := X2.cell 0
                have x1 : w2.cell? ⟨b2, 1, none⟩ = some (.slice p0 (snapP cs).length cap0) := X2.cell 1
                have o0 : w2.cell? ⟨wr.heap.size, 0, none⟩ = some (.int .i64 kind) := O2.cell 0
                have o1 : w2.cell? ⟨wr.heap.size, 1, none⟩ = some (.int .i64 id) := O2.cell 1
                have o2 : w2.cell? ⟨wr.heap.size, 2, none⟩ = some (.int .i64 c) := O2.cell 2
                have hll : w2.heap.size ≤ w2.heap.size := Nat.le_refl _
                clear Law c1 c2 c3 TTa Ta O O2 C2 T2 hbla hll
                as_aux_lemma =>
                  go_wp2_with fail
                  refine (Do'.out w2 R2).mono ?_
                  rintro e w3 ⟨v3, rfl, hr3, hv3, hb3⟩
                  dsimp only at hr3 hv3 ⊢
                  have hs3 := hb3.size
                  obtain ⟨pz, capz, rfl⟩ : ∃ p cap, v3 = .slice p (snapP cs').length cap := hr3.1.val
                  have X3 := X2.below hb3 (Nat.le_refl _)
                  have D3 := D2.below hb3 (Nat.le_refl _)
                  have TT3 := hTc.out _ _ _ TT2 (ChQ.of_below (S := TS g2 h5 b2) hb3) hX5
                  have B3 := B2.trans (hb3.mono B2.size)
                  have NQ3 := NQ2.next R2 hr3.1 hv3 (fun j hj => by
                    rcases hj with (e | e | e) | hj
                    · omega
                    · omega
                    · omega
                    · have := hYl j hj; omega)
                  have y0 : w3.cell? ⟨b2, 0, none⟩ = some (.int .i64 l) := X3.cell 0
                  have y1 : w3.cell? ⟨b2, 1, none⟩ = some (.slice p0 (snapP cs).length cap0) := X3.cell 1
                  have f0 := X3.free 0
                  have f1 := X3.free 1
                  have hlb3 : b2 < w3.heap.size := by omega
                  clear x0 x1 o0 o1 o2 hv3
                  go_wp2_with fail
                  go_roundw
                  case rel =>
                    obtain ⟨hL1, hL2, hL3⟩ := Hlim.out
                    have T4 := (Tch.set1 (g := b2) (h := b2) w3 0 (.int .i64 l)).trans (Tch.set1 _ 1 (.slice pz (snapP cs').length capz))
                    have C4 : ChQ (TS g2 h5 b2) w3 _ := ChQ.of_tch T4 (.inr (.inr rfl)) (.inr (.inr rfl))
                    refine ⟨k + 1, h5, bb', cs', .slice pz (snapP cs').length capz, by go_num, by omega, ⟨D3.tch T4 (Ne.symm hn1) (Ne.symm hn1) (Ne.symm hn5) (Ne.symm hn5), (X3.set 0 (.int .i64 l)).set 1 (.slice pz (snapP cs').length capz), NQ3.keep hr3.1 C4 (fun j hj => .inl hj), NQ3, hn1, hn5⟩, by have := hL2; rwa [Nat.add_assoc] at this, by omega, hhw5, hX5, (fun j hj => by have := hXl j hj; simp; omega), hTc.out _ _ _ TT3 C4 hX5, ?_⟩
                    exact B3.trans (T4.below (B := w.heap.size) (by omega) (by omega) B3.size)
                  case measure => simp [intOf]; omega
              · obtain rfl : k = os3.length := by omega
                have hbits := hlim.bits Tr.pn.2 (by omega)
                rw [eAT3] at hT
                obtain ⟨D1, Bk1, R1⟩ := hT
                have x0 : wr.cell? ⟨b, 0, none⟩ = some (.int .i64 l) := Bk1.cell 0
                have x1 : wr.cell? ⟨b, 1, none⟩ = some (.slice pB (snapP csB).length capB) := Bk1.cell 1
                have LK1 := hid (pb_like D1 HclB.out R1)
                have hcl2 : cs.length ≤ 1000000 := by omega
                clear hlim hX hXl
                go_wp2_with fail
                refine LK1.out.mono ?_
                rintro e w5 ⟨rfl, hb5⟩
                have hs5 := hb5.size
                have X5 := Tr.blk.below hb5 (Nat.le_refl _)
                have D5 := Tr.pn.below hb5 (Nat.le_refl _)
                have R5 := Tr.rd.below hb5 (Nat.le_refl _)
                have B5 := hbl.trans (hb5.mono hwr)
                clear x0 x1 LK1
                have x0 : w5.cell? ⟨b2, 0, none⟩ = some (.int .i64 l) := X5.cell 0
                have x1 : w5.cell? ⟨b2, 1, none⟩ = some (.slice p0 (snapP cs).length cap0) := X5.cell 1
                as_aux_lemma =>
                  go_wp2_with fail
                  refine (pb_like D5 hcl2 R5).mono ?_
                  rintro e w6 ⟨rfl, hb6⟩
                  have B6 := B5.trans (hb6.mono B5.size)
                  go_wp2_with fail
                  refine (A.out _).mono ?_
                  rintro e w7 ⟨rfl, hb7⟩
                  go_wp2_with fail
                  go_ret
                  exact ⟨rfl, B6.trans (hb7.mono B6.size)⟩
end Go.Proofs.Ytpkccicofgbfbaa
