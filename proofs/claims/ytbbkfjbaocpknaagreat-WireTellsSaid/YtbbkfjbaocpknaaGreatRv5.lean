/- The walks of the reader's methods: number, between, ids. -/
import Derived.Test.YtbbkfjbaocpknaaGreatRv4
namespace Go.Proofs.YtbbkfjbaocpknaaGreat
open Go.RowKit Vy

theorem Vy.num_some {s r : List UInt8} {n : Nat} (h : getF s = some (n, r)) : numS (some s) = some r ∧ numV (some s) = n := by
  simp only [numS, numV, h]
  exact ⟨trivial, trivial⟩
theorem Vy.num_none {s : List UInt8} (h : getF s = none) : numS (some s) = none ∧ numV (some s) = 0 := by
  simp only [numS, numV, h]
  exact ⟨trivial, trivial⟩
theorem Vy.str_eq {s t : ByteArray} (h : s.data.toList = t.data.toList) : s = t := by rw [bs_list s, bs_list t, h]
set_option maxRecDepth 100000 in
set_option maxHeartbeats 1000000 in
theorem w_number {w : World} {r : Nat} {st : VSt} (h : RdSt w r st) :
    Calls Tryz.prog 108 #[.pointer (some ⟨r, 0, none⟩)] w (RPost r (numS st) (.int .i64 (numV st : Nat)) w) := by
  have H := hid h
  have GT := hid (fun (t : ByteArray) (W : World) => v_get t W)
  have FL := hid (fun W st (y : RdSt W r st) b e' he => w_fail y b e' he)
  obtain ⟨s, er, X, hs, (⟨rfl, rfl⟩ | ⟨h1, h2, rfl⟩)⟩ := h
  · have c0 : w.cell? ⟨r, 0, none⟩ = some (.string s) := X.cell 0
    have c1 : w.cell? ⟨r, 1, none⟩ = some (.int .i64 0) := X.cell 1
    clear X
    go_enter Tryz.func108, Tryz.ntmps108
    go_wp2_with fail
    refine (GT.out s w).mono ?_
    rintro e w1 ⟨rfl, (⟨er, rfl, he1, he2, hg⟩ | ⟨n, size, rfl, hsz, hsz1, hg, hnb⟩)⟩
    · obtain ⟨e1, e2⟩ := num_none hg
      have E := hid (And.intro e1 e2)
      have F1 := hid (FL.out w _ H.out true er (fun _ => ⟨he1, he2⟩))
      have z : (er != 0) = true := by simp; omega
      clear hg e1 e2 GT FL H
      go_wp2_with fail
      refine F1.out.mono ?_
      rintro e w2 ⟨rfl, ⟨s2, er2, X2, hs2, (⟨-, hx⟩ | ⟨h1, h2, -⟩)⟩, t2⟩
      · cases hx
      · have c0' : w2.cell? ⟨r, 0, none⟩ = some (.string s2) := X2.cell 0
        have f0 := X2.free 0
        have X3 := X2.set 0 (.string s2)
        have t3 := t2.trans (Tch.set1 (g := r) (h := r) w2 0 (.string s2))
        have P : Hid (RPost r (numS (some s.data.toList)) (.int .i64 (numV (some s.data.toList) : Nat)) w (.returned (.int .i64 0)) (w2.setCell ⟨r, 0, none⟩ (.string s2))) := by
          rw [E.out.1, E.out.2]
          exact ⟨rfl, ⟨_, er2, X3, hs2, .inr ⟨h1, h2, rfl⟩⟩, t3⟩
        have es : s2.extract 0 s2.size = s2 := by apply str_eq; rw [sub_list]; rfl
        clear X2 X3 t2 t3 F1
        go_wp2_with fail
        go_ret
        exact P.out
    · obtain ⟨e1, e2⟩ := num_some hg
      have E := hid (And.intro e1 e2)
      have F1 := hid (FL.out w _ H.out false 0 (fun q => by cases q))
      clear hg e1 e2 GT FL H
      go_wp2_with fail
      refine F1.out.mono ?_
      rintro e w2 ⟨rfl, ⟨s2, er2, X2, hs2, (⟨rfl, hx⟩ | ⟨-, -, hx⟩)⟩, t2⟩
      · obtain rfl : s = s2 := str_eq (Option.some.inj hx)
        have c0' : w2.cell? ⟨r, 0, none⟩ = some (.string s) := X2.cell 0
        have f0 := X2.free 0
        have X3 := X2.set 0 (.string (s.extract size s.size))
        have t3 := t2.trans (Tch.set1 (g := r) (h := r) w2 0 (.string (s.extract size s.size)))
        have P : Hid (RPost r (numS (some s.data.toList)) (.int .i64 (numV (some s.data.toList) : Nat)) w (.returned (.int .i64 n)) (w2.setCell ⟨r, 0, none⟩ (.string (s.extract size s.size)))) := by
          rw [E.out.1, E.out.2]
          exact ⟨rfl, ⟨_, 0, X3, by simp; omega, .inl ⟨rfl, by rw [sub_list]⟩⟩, t3⟩
        clear X2 X3 t2 t3 F1 hx
        go_wp2_with fail
        go_ret
        exact P.out
      · cases hx
  · have c1 : w.cell? ⟨r, 1, none⟩ = some (.int .i64 er) := X.cell 1
    have z : (er != 0) = true := by simp; omega
    have P : Hid (RPost r none (.int .i64 (0 : Nat)) w (.returned (.int .i64 0)) w) := ⟨rfl, H.out, Tch.refl _ _ _⟩
    have e1 : numS none = none ∧ numV none = 0 := ⟨rfl, rfl⟩
    rw [e1.1, e1.2]
    clear X H GT FL e1
    go_enter Tryz.func108, Tryz.ntmps108
    go_wp2_with fail
    go_ret
    exact P.out
set_option maxRecDepth 100000 in
set_option maxHeartbeats 1000000 in
/-- A number that a method reads, and which must lie so. -/
theorem w_between {w : World} {r F : Nat} {st : VSt} (n : Nat) (a b : Int) (hent : ∀ (args : Array Value) (W : World), (callFunc F args).run Tryz.prog W = .ok (.enter F args) W)
    (hC : Calls Tryz.prog F #[.pointer (some ⟨r, 0, none⟩)] w (RPost r st (.int .i64 n) w)) :
    Calls Tryz.prog 106 #[.pointer (some ⟨r, 0, none⟩), .func (.func F) #[.pointer (some ⟨r, 0, none⟩)] #[], .int .i64 a, .int .i64 b] w (RPost r (failS (outB n a b) st) (.int .i64 n) w) := by
  have FL := hid (fun W st (y : RdSt W r st) b e' he => w_fail y b e' he)
  have CA := hid hC
  clear hC
  have key : ∀ (w2 w3 : World) (e : Ending), Tch r r w w2 → RPost r (failS (outB n a b) st) (.tuple #[]) w2 e w3 → Hid (e = .returned (.tuple #[]) ∧ RPost r (failS (outB n a b) st) (.int .i64 n) w (.returned (.int .i64 n)) w3) := fun w2 w3 e t ⟨h1, h2, h3⟩ => ⟨h1, rfl, h2, t.trans h3⟩
  have KY := hid key
  clear key
  by_cases h1 : (n : Int) < a
  · have z1 : decide ((n : Int) < a) = true := decide_eq_true h1
    have eo : outB n a b = true := by simp only [outB, z1, Bool.true_or]
    rw [eo] at KY ⊢
    go_enter Tryz.func106, Tryz.ntmps106
    go_wp2_with fail
    refine CA.out.mono ?_
    rintro e w2 ⟨rfl, R2, t2⟩
    have F1 := hid (FL.out w2 st R2 true 10 (fun _ => by decide))
    clear CA FL R2
    go_wp2_with fail
    refine F1.out.mono ?_
    intro e w3 h3
    obtain ⟨rfl, h4⟩ := (KY.out _ _ _ t2 h3).out
    have P := hid h4
    clear h3 h4 KY F1 t2
    go_wp2_with fail
    go_ret
    exact P.out
  · have z1 : decide ((n : Int) < a) = false := decide_eq_false h1
    by_cases h2 : b < (n : Int)
    · have z2 : decide (b < (n : Int)) = true := decide_eq_true h2
      have eo : outB n a b = true := by simp only [outB, z2, Bool.or_true]
      rw [eo] at KY ⊢
      go_enter Tryz.func106, Tryz.ntmps106
      go_wp2_with fail
      refine CA.out.mono ?_
      rintro e w2 ⟨rfl, R2, t2⟩
      have F1 := hid (FL.out w2 st R2 true 10 (fun _ => by decide))
      clear CA FL R2
      go_wp2_with fail
      refine F1.out.mono ?_
      intro e w3 h3
      obtain ⟨rfl, h4⟩ := (KY.out _ _ _ t2 h3).out
      have P := hid h4
      clear h3 h4 KY F1 t2
      go_wp2_with fail
      go_ret
      exact P.out
    · have z2 : decide (b < (n : Int)) = false := decide_eq_false h2
      have eo : outB n a b = false := by simp only [outB, z1, z2, Bool.or_false]
      rw [eo] at KY ⊢
      go_enter Tryz.func106, Tryz.ntmps106
      go_wp2_with fail
      refine CA.out.mono ?_
      rintro e w2 ⟨rfl, R2, t2⟩
      have F1 := hid (FL.out w2 st R2 false 10 (fun q => by cases q))
      clear CA FL R2
      go_wp2_with fail
      refine F1.out.mono ?_
      intro e w3 h3
      obtain ⟨rfl, h4⟩ := (KY.out _ _ _ t2 h3).out
      have P := hid h4
      clear h3 h4 KY F1 t2
      go_wp2_with fail
      go_ret
      exact P.out
end Go.Proofs.YtbbkfjbaocpknaaGreat
