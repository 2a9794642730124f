/- The walk of the reader's ids. -/
import Derived.Test.YtbbkfjbaocpknaaGreatRv5
import Derived.Test.YtbbkfjbaocpknaaGreatBA
namespace Go.Proofs.YtbbkfjbaocpknaaGreat
open Go.RowKit Nl Vy

def Vy.idsV (most : Int) : VSt → List Int
  | none => []
  | some s => match idsF most s with
    | none => []
    | some (ids, _) => ids
def Vy.allS (l : Int) (ids : List Int) (q : List UInt8) : VSt := if ids.all (rightB l) then some q else none
def Vy.idsS (most l : Int) : VSt → VSt
  | none => none
  | some s => match idsF most s with
    | none => none
    | some (ids, q) => allS l ids q
theorem Vy.all_step {l : Int} {ids : List Int} {q : List UInt8} {j : Nat} (h : j < ids.length) : failS (!rightB l (ids.getD j 0)) (allS l (ids.take j) q) = allS l (ids.take (j + 1)) q := by
  have e : ids.getD j 0 = ids[j] := by simp [List.getD, h]
  rw [e, List.take_succ_eq_append_getElem h]
  unfold allS failS
  rw [List.all_append]
  cases h1 : (ids.take j).all (rightB l) <;> cases h2 : rightB l ids[j] <;> simp [h2]
def PartC (L K kind n : Int) (v : Value) : Array Value := #[.int .i64 L, .int .i64 K, .int .i64 kind, .int .i64 n, v]
set_option maxRecDepth 100000 in
theorem w_right {w : World} {pb : Nat} {L K kind n : Int} {v : Value} (X : Blk w pb (PartC L K kind n v) 120) (id : Int) (bL : In64 L) (bi : In64 id) :
    Calls Tryz.prog 110 #[.int .i64 id, .pointer (some ⟨pb, 0, none⟩)] w fun e w' => e = .returned (.bool (rightB L id)) ∧ w = w' := by
  have c0 : w.cell? ⟨pb, 0, none⟩ = some (.int .i64 L) := X.cell 0
  have RT := hid (twig_right L id w bL.1 bL.2 bi.1 bi.2)
  clear X
  go_enter Tryz.func110, Tryz.ntmps110
  go_wp2_with fail
  refine RT.out.mono ?_
  rintro e w2 ⟨rfl, rfl⟩
  go_wp2_with fail
  go_ret
  exact ⟨rfl, rfl⟩
def IdsPost (r : Nat) (most l : Int) (st : VSt) (w : World) (e : Ending) (w' : World) : Prop := ∃ v, e = .returned v ∧ (idsV most st).length ≤ 200000 ∧ OwnI w' w.heap.size v (idsV most st) ∧ RdSt w' r (idsS most l st) ∧ Tch r r w w'
theorem OwnI.tch {w w' : World} {B r : Nat} {v : Value} {xs : List Int} (h : OwnI w B v xs) (t : Tch r r w w') (hr : r < B) : OwnI w' B v xs :=
  h.keep fun k hk => t.block k (h.lt' k hk) (by have := h.lt k hk; omega) (by have := h.lt k hk; omega)
theorem Tch.of_below' {r : Nat} {w w' w2 : World} (t : Tch r r w w') (b : Below w'.heap.size w' w2) : Tch r r w w2 := t.trans (Tch.of_below b)
set_option maxRecDepth 100000 in
set_option maxHeartbeats 2000000 in
theorem w_ids {w : World} {r pb : Nat} {st : VSt} {L K kind n : Int} {v : Value} (h : RdSt w r st) (X : Blk w pb (PartC L K kind n v) 120) (hrp : pb ≠ r) (most : Int) (bL : In64 L) (bm : In64 most) (hm2 : most ≤ 9223372036854775807) :
    Calls Tryz.prog 109 #[.pointer (some ⟨r, 0, none⟩), .int .i64 most, .func (.func 110) #[] #[.pointer (some ⟨pb, 0, none⟩)]] w (IdsPost r most L st w) := by
  have H := hid h
  have hrl := h.lt
  have FA := hid (fun (t : ByteArray) (W : World) (ht : t.size ≤ 200000) => v_falls most t W ht bm)
  have FL := hid (fun W st (y : RdSt W r st) b e' he => w_fail y b e' he)
  have RT := hid (fun W (y : Blk W pb (PartC L K kind n v) 120) id (bi : In64 id) => w_right y id bL bi)
  have HX := hid X
  obtain ⟨s, er, X0, hs, (⟨rfl, rfl⟩ | ⟨h1, h2, rfl⟩)⟩ := h
  · have c0 : w.cell? ⟨r, 0, none⟩ = some (.string s) := X0.cell 0
    have c1 : w.cell? ⟨r, 1, none⟩ = some (.int .i64 0) := X0.cell 1
    clear X0 X
    go_enter Tryz.func109, Tryz.ntmps109
    go_wp2_with fail
    refine (FA.out s w (by omega)).mono ?_
    rintro e w1 ⟨hb1, (⟨er, rfl, he1, he2, hg⟩ | ⟨ids, vi, size, rfl, hsz, hil, own, hg⟩)⟩
    · have e1 : idsV most (some s.data.toList) = [] ∧ idsS most L (some s.data.toList) = none := by
        simp only [idsV, idsS, hg]; exact ⟨trivial, trivial⟩
      have E := hid e1
      have F1 := hid (FL.out w1 _ (H.out.below hb1) true er (fun _ => ⟨he1, he2⟩))
      have z : (er != 0) = true := by simp; omega
      clear hg e1 FA FL H RT HX c0 c1
      go_wp2_with fail
      refine F1.out.mono ?_
      rintro e w2 ⟨rfl, ⟨s2, er2, X2, hs2, (⟨-, hx⟩ | ⟨h1, h2, -⟩)⟩, t2⟩
      · cases hx
      · have c0' : w2.cell? ⟨r, 0, none⟩ = some (.string s2) := X2.cell 0
        have f0 := X2.free 0
        have X3 := X2.set 0 (.string s2)
        have t3 := ((Tch.of_below (g := r) (h := r) hb1).trans t2).trans (Tch.set1 (g := r) (h := r) w2 0 (.string s2))
        have P : Hid (IdsPost r most L (some s.data.toList) w (.returned (.slice none 0 0)) (w2.setCell ⟨r, 0, none⟩ (.string s2))) := ⟨_, rfl, by rw [E.out.1]; simp, by rw [E.out.1]; exact OwnI.nil _ _, by rw [E.out.2]; exact ⟨_, er2, X3, hs2, .inr ⟨h1, h2, rfl⟩⟩, t3⟩
        have es : s2.extract 0 s2.size = s2 := by apply str_eq; rw [sub_list]; rfl
        clear X2 X3 t2 t3 F1 E
        go_wp2_with fail
        generalize (w2.setCell ⟨r, 0, none⟩ (.string s2)) = w3 at *
        go_loopw [43] (fun i wr => i = .int .i64 0 ∧ wr = w3) (fun _ _ => 0)
        case atStart => exact ⟨rfl, rfl⟩
        case round =>
          obtain ⟨rfl, rfl⟩ := hrel
          go_wp2_with fail
          go_ret
          exact P.out
    · have e1 : idsV most (some s.data.toList) = ids ∧ idsS most L (some s.data.toList) = allS L ids (s.data.toList.drop size) := by
        simp only [idsV, idsS, hg]; exact ⟨trivial, trivial⟩
      have E := hid e1
      have IB := hid ((idsF_iff hm2).1 hg)
      have F1 := hid (FL.out w1 _ (H.out.below hb1) false 0 (fun q => by cases q))
      have Z1 := HX.out.below hb1 (Nat.le_refl _)
      have t1 := Tch.of_below (g := r) (h := r) hb1
      obtain ⟨pi, ci, rfl⟩ := own.val
      clear hg e1 FA H HX hb1 c0 c1
      go_wp2_with fail
      refine F1.out.mono ?_
      rintro e w2 ⟨rfl, ⟨s2, er2, X2, hs2, (⟨rfl, hx⟩ | ⟨-, -, hx⟩)⟩, t2⟩
      · obtain rfl : s = s2 := str_eq (Option.some.inj hx)
        have c0' : w2.cell? ⟨r, 0, none⟩ = some (.string s) := X2.cell 0
        have f0 := X2.free 0
        have X3 := X2.set 0 (.string (s.extract size s.size))
        have tz := t2.trans (Tch.set1 (g := r) (h := r) w2 0 (.string (s.extract size s.size)))
        have t3 := t1.trans tz
        have own3 := own.tch tz hrl
        have Z3 := Z1.tch tz hrp hrp
        have S3 : RdSt (w2.setCell ⟨r, 0, none⟩ (.string (s.extract size s.size))) r (allS L (ids.take 0) (s.data.toList.drop size)) := ⟨_, 0, X3, by simp; omega, .inl ⟨rfl, by rw [sub_list]; rfl⟩⟩
        clear X2 X3 t2 F1 hx t1 tz Z1 own
        go_wp2_with fail
        generalize (w2.setCell ⟨r, 0, none⟩ (.string (s.extract size s.size))) = w3 at *
        go_loopw [43] (fun i wr => ∃ j : Nat, i = .int .i64 j ∧ j ≤ ids.length ∧ RdSt wr r (allS L (ids.take j) (s.data.toList.drop size)) ∧ OwnI wr w.heap.size (.slice pi ids.length ci) ids ∧ Blk wr pb (PartC L K kind n v) 120 ∧ Tch r r w wr) (fun i _ => ids.length - (intOf i).toNat)
        case atStart => exact ⟨0, rfl, Nat.zero_le _, S3, own3, Z3, t3⟩
        case round =>
          clear S3 own3 Z3 t3
          obtain ⟨j, rfl, hj, Sr, ownr, Zr, tr⟩ := hrel
          by_cases hlt : j < ids.length
          · obtain ⟨gs, off, a, hp, hac, hgs, q0⟩ := ownr.rd.at hlt
            subst hp
            have z0 : decide ((j : Int) < (ids.length : Int)) = true := decide_eq_true (by omega)
            have st2 := all_step (l := L) (q := s.data.toList.drop size) hlt
            rw [hac] at st2
            have ba : In64 a := by
              have h1 := IB.out.2.1
              have h2 : ∀ (ids : List Int) (last : Int), 0 ≤ last → riseF last ids → ∀ x ∈ ids, 0 ≤ x ∧ x ≤ 9223372036854775807 := by
                intro ids
                induction ids with
                | nil => intro _ _ _ x hx; cases hx
                | cons y ys ih =>
                  rintro last h0 ⟨b1, b2, b3⟩ x hx
                  rcases List.mem_cons.1 hx with rfl | hx
                  · omega
                  · exact ih y (by omega) b3 x hx
              have h3 := h2 ids 0 (by omega) h1 a (by rw [← hac]; simp [List.getD, hlt])
              exact ⟨by omega, by omega⟩
            have R1 := hid (RT.out wr Zr a ba)
            have F2 := hid (FL.out wr _ Sr (!rightB L a) 10 (fun _ => by decide))
            rw [st2] at F2
            clear st2 hac
            generalize rightB L a = bb at *
            go_wp2_with fail
            refine R1.out.mono ?_
            rintro e w4 ⟨rfl, rfl⟩
            go_wp2_with fail
            refine F2.out.mono ?_
            rintro e w4 ⟨rfl, S4, t4⟩
            have own4 := ownr.tch t4 hrl
            have Z4 := Zr.tch t4 hrp hrp
            have t5 := tr.trans t4
            clear Sr ownr Zr tr t4 F2 R1 q0
            go_wp2_with fail
            go_round
            case rel => exact ⟨j + 1, by go_num, by omega, S4, own4, Z4, t5⟩
            case measure => simp [intOf]; omega
          · obtain rfl : j = ids.length := by omega
            have z0 : decide ((ids.length : Int) < (ids.length : Int)) = false := decide_eq_false (by omega)
            rw [List.take_length] at Sr
            have P : Hid (IdsPost r most L (some s.data.toList) w (.returned (.slice pi ids.length ci)) wr) := ⟨_, rfl, by rw [E.out.1]; omega, by rw [E.out.1]; exact ownr, by rw [E.out.2]; exact Sr, tr⟩
            clear Sr ownr Zr tr E IB
            go_wp2_with fail
            go_ret
            exact P.out
      · cases hx
  · have c1 : w.cell? ⟨r, 1, none⟩ = some (.int .i64 er) := X0.cell 1
    have z : (er != 0) = true := by simp; omega
    have P : Hid (IdsPost r most L none w (.returned (.slice none 0 0)) w) := ⟨_, rfl, by simp [idsV], OwnI.nil _ _, H.out, Tch.refl _ _ _⟩
    clear X H FA FL RT HX X0
    go_enter Tryz.func109, Tryz.ntmps109
    go_wp2_with fail
    go_ret
    exact P.out
end Go.Proofs.YtbbkfjbaocpknaaGreat
