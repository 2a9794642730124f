/- The walks of the reader's methods. -/
import Derived.Test.YtbbkfjbaocpknaaGreatRv3
import Derived.Test.YtbbkfjbaocpknaaGreatBB
namespace Go.Proofs.YtbbkfjbaocpknaaGreat
open Go.RowKit Vy

/-- The reader in the box r: what is left, or none once something was wrong. -/
def RdSt (W : World) (r : Nat) (st : VSt) : Prop := ∃ (s : ByteArray) (er : Int), Blk W r #[.string s, .int .i64 er] 157 ∧ s.size ≤ 200000 ∧ ((er = 0 ∧ st = some s.data.toList) ∨ (1 ≤ er ∧ er ≤ 100 ∧ st = none))
theorem RdSt.lt {W : World} {r : Nat} {st : VSt} (h : RdSt W r st) : r < W.heap.size := by obtain ⟨_, _, X, -⟩ := h; exact X.lt
theorem RdSt.keep {W W' : World} {r : Nat} {st : VSt} (h : RdSt W r st) (e : W'.heap[r]? = W.heap[r]?) : RdSt W' r st := by obtain ⟨s, er, X, h1, h2⟩ := h; exact ⟨s, er, X.keep e, h1, h2⟩
theorem RdSt.below {W W' : World} {r : Nat} {st : VSt} (h : RdSt W r st) (b : Below W.heap.size W W') : RdSt W' r st := h.keep (b.block r h.lt)
def RPost (r : Nat) (st : VSt) (v : Value) (w : World) (e : Ending) (w' : World) : Prop := e = .returned v ∧ RdSt w' r st ∧ Tch r r w w'
set_option maxRecDepth 100000 in
set_option maxHeartbeats 1000000 in
theorem w_fail {w : World} {r : Nat} {st : VSt} (h : RdSt w r st) (b : Bool) (e' : Int) (he : b = true → 1 ≤ e' ∧ e' ≤ 100) :
    Calls Tryz.prog 104 #[.pointer (some ⟨r, 0, none⟩), .bool b, .int .i64 e'] w (RPost r (failS b st) (.tuple #[]) w) := by
  have H := hid h
  obtain ⟨s, er, X, hs, hd⟩ := h
  have c1 : w.cell? ⟨r, 1, none⟩ = some (.int .i64 er) := X.cell 1
  have f1 := X.free 1
  have X2 := X.set 1 (.int .i64 e')
  have T2 := Tch.set1 (g := r) (h := r) w 1 (.int .i64 e')
  cases b with
  | false =>
    have P : Hid (RPost r (failS false st) (.tuple #[]) w (.returned (.tuple #[])) w) := ⟨rfl, H.out, Tch.refl _ _ _⟩
    clear H hd X X2 T2
    go_enter Tryz.func104, Tryz.ntmps104
    go_wp2_with fail
    go_end0
    exact P.out
  | true =>
    obtain ⟨he1, he2⟩ := he rfl
    rcases hd with ⟨rfl, rfl⟩ | ⟨h1, h2, rfl⟩
    · have P : Hid (RPost r (failS true (some s.data.toList)) (.tuple #[]) w (.returned (.tuple #[])) (w.setCell ⟨r, 1, none⟩ (.int .i64 e'))) := ⟨rfl, ⟨s, e', X2, hs, .inr ⟨he1, he2, rfl⟩⟩, T2⟩
      clear H X X2 T2
      go_enter Tryz.func104, Tryz.ntmps104
      go_wp2_with fail
      go_end0
      exact P.out
    · have P : Hid (RPost r (failS true none) (.tuple #[]) w (.returned (.tuple #[])) w) := ⟨rfl, H.out, Tch.refl _ _ _⟩
      have z : (er == 0) = false := by simp; omega
      clear H X X2 T2
      go_enter Tryz.func104, Tryz.ntmps104
      go_wp2_with fail
      go_end0
      exact P.out
/-- Its string and its error. -/
theorem RdSt.open {W : World} {r : Nat} {st : VSt} (h : RdSt W r st) : ∃ (s : ByteArray) (er : Int), Blk W r #[.string s, .int .i64 er] 157 ∧ s.size ≤ 200000 ∧ ((er = 0 ∧ st = some s.data.toList) ∨ (1 ≤ er ∧ er ≤ 100 ∧ st = none)) := h
theorem failS_none (b : Bool) : failS b none = none := by cases b <;> rfl
theorem Vy.size_list (s : ByteArray) : s.data.toList.length = s.size := by simp
set_option maxRecDepth 100000 in
set_option maxHeartbeats 1000000 in
theorem w_raw {w : World} {r : Nat} {st : VSt} (h : RdSt w r st) (n : Nat) (hn : n ≤ 100) :
    Calls Tryz.prog 105 #[.pointer (some ⟨r, 0, none⟩), .int .i64 n] w (fun e w' => ∃ t : ByteArray, t.data.toList = rawV n st ∧ t.size ≤ n ∧ RPost r (rawS n st) (.string t) w e w') := by
  have FL := hid (fun W st (y : RdSt W r st) b e' he => w_fail y b e' he)
  have H := hid h
  obtain ⟨s, er, X, hs, hd⟩ := h
  have c0 : w.cell? ⟨r, 0, none⟩ = some (.string s) := X.cell 0
  have hsl := size_list s
  by_cases hlt : s.size < n
  · have z : decide ((s.size : Int) < (n : Int)) = true := decide_eq_true (by omega)
    have F1 := hid (FL.out w st H.out true 9 (fun _ => by decide))
    have e1 : failS true st = none := rfl
    rw [e1] at F1
    have hv : rawV n st = [] ∧ rawS n st = none := by
      rcases hd with ⟨-, rfl⟩ | ⟨-, -, rfl⟩
      · simp only [rawV, rawS]
        rw [if_neg (by omega), if_neg (by omega)]
        exact ⟨rfl, rfl⟩
      · exact ⟨rfl, rfl⟩
    rw [hv.1, hv.2]
    clear hv hd FL H X e1 hsl
    go_enter Tryz.func105, Tryz.ntmps105
    go_wp2_with fail
    refine F1.out.mono ?_
    rintro e w2 ⟨rfl, R2, t2⟩
    have R2' := hid R2
    obtain ⟨s2, er2, X2, hs2, (⟨-, hx⟩ | ⟨h1, h2, -⟩)⟩ := R2
    · cases hx
    · have c1 : w2.cell? ⟨r, 1, none⟩ = some (.int .i64 er2) := X2.cell 1
      have z2 : (er2 != 0) = true := by simp; omega
      clear X2 F1
      go_wp2_with fail
      go_ret
      exact ⟨⟨#[]⟩, rfl, Nat.zero_le _, rfl, R2'.out, t2⟩
  · have z : decide ((s.size : Int) < (n : Int)) = false := decide_eq_false (by omega)
    have F1 := hid (FL.out w st H.out false 9 (fun q => by cases q))
    have e1 : failS false st = st := rfl
    rw [e1] at F1
    clear FL e1
    rcases hd with ⟨rfl, rfl⟩ | ⟨h1, h2, rfl⟩
    · have hv : rawV n (some s.data.toList) = s.data.toList.take n ∧ rawS n (some s.data.toList) = some (s.data.toList.drop n) := by
        simp only [rawV, rawS]
        rw [if_pos (by omega), if_pos (by omega)]
        exact ⟨rfl, rfl⟩
      rw [hv.1, hv.2]
      have hn0 : (n : Int).toNat = n := Int.toNat_natCast n
      clear hv H X hsl
      go_enter Tryz.func105, Tryz.ntmps105
      go_wp2_with fail
      refine F1.out.mono ?_
      rintro e w2 ⟨rfl, R2, t2⟩
      obtain ⟨s2, er2, X2, hs2, (⟨rfl, hx⟩ | ⟨-, -, hx⟩)⟩ := R2
      · have es : s2 = s := by
          have hx := Option.some.inj hx
          rw [bs_list s2, bs_list s, ← hx]
        subst es
        have c1 : w2.cell? ⟨r, 1, none⟩ = some (.int .i64 0) := X2.cell 1
        have c0 : w2.cell? ⟨r, 0, none⟩ = some (.string s2) := X2.cell 0
        have f0 := X2.free 0
        have X3 := X2.set 0 (.string (s2.extract n s2.size))
        have t3 := t2.trans (Tch.set1 (g := r) (h := r) w2 0 (.string (s2.extract n s2.size)))
        have P : Hid (∃ t : ByteArray, t.data.toList = s2.data.toList.take n ∧ t.size ≤ n ∧ RPost r (some (s2.data.toList.drop n)) (.string t) w (.returned (.string (s2.extract 0 n))) (w2.setCell ⟨r, 0, none⟩ (.string (s2.extract n s2.size)))) :=
          ⟨_, pre_list s2 n, by simp; omega, rfl, ⟨_, 0, X3, by simp; omega, .inl ⟨rfl, by rw [sub_list]⟩⟩, t3⟩
        clear X2 X3 F1 hx t2 t3
        go_wp2_with fail
        go_ret
        exact P.out
      · cases hx
    · have hv : rawV n none = [] ∧ rawS n none = none := ⟨rfl, rfl⟩
      rw [hv.1, hv.2]
      clear hv H X hsl
      go_enter Tryz.func105, Tryz.ntmps105
      go_wp2_with fail
      refine F1.out.mono ?_
      rintro e w2 ⟨rfl, R2, t2⟩
      have R2' := hid R2
      obtain ⟨s2, er2, X2, hs2, (⟨-, hx⟩ | ⟨h1, h2, -⟩)⟩ := R2
      · cases hx
      · have c1 : w2.cell? ⟨r, 1, none⟩ = some (.int .i64 er2) := X2.cell 1
        have z2 : (er2 != 0) = true := by simp; omega
        clear X2 F1
        go_wp2_with fail
        go_ret
        exact ⟨⟨#[]⟩, rfl, Nat.zero_le _, rfl, R2'.out, t2⟩
set_option maxRecDepth 100000 in
set_option maxHeartbeats 1000000 in
theorem w_byte {w : World} {r : Nat} {st : VSt} (h : RdSt w r st) :
    Calls Tryz.prog 107 #[.pointer (some ⟨r, 0, none⟩)] w (RPost r (rawS 1 st) (.int .i64 (byteV st : Nat)) w) := by
  have RW := hid (w_raw h 1 (by decide))
  go_enter Tryz.func107, Tryz.ntmps107
  go_wp2_with fail
  refine RW.out.mono ?_
  rintro e w2 ⟨t, ht, hts, rfl, R2, t2⟩
  have hl := size_list t
  by_cases h0 : t.size = 0
  · have ht0 : t = ⟨#[]⟩ := by
      rw [bs_list t, List.length_eq_zero_iff.1 (hl.trans h0)]
    have P : Hid (RPost r (rawS 1 st) (.int .i64 (byteV st : Nat)) w (.returned (.int .i64 0)) w2) := ⟨by
      unfold byteV; rw [← ht, List.length_eq_zero_iff.1 (hl.trans h0)]; rfl, R2, t2⟩
    subst ht0
    clear ht R2 t2 RW hl hts h0
    go_wp2_with fail
    go_ret
    exact P.out
  · have hp : 0 < t.size := by omega
    have hne : (t.toList == []) = false := by
      rw [ByteArray.toList_eq]
      refine beq_eq_false_iff_ne.2 (fun q => ?_)
      rw [q] at hl
      simp at hl
      omega
    have hc := sdrop hp
    rw [List.drop_zero] at hc
    have P : Hid (RPost r (rawS 1 st) (.int .i64 (byteV st : Nat)) w (.returned (.int .i64 (t[0].toNat : Nat))) w2) := ⟨by
      unfold byteV; rw [← ht, hc], R2, t2⟩
    have hcb := t[0].toNat_lt
    have hw : wrap64 (t[0].toNat : Int) = t[0].toNat := IntWalk.wrap64_in _ ⟨by omega, by omega⟩
    clear ht R2 t2 RW hl hc
    go_wp2_with fail
    go_ret
    exact P.out
end Go.Proofs.YtbbkfjbaocpknaaGreat
