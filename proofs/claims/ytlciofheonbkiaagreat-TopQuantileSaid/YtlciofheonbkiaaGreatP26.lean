/- Texts laid together. -/
import Derived.Test.YtlciofheonbkiaaGreatP25
/- The walks of sheet.Number and the reference's Number. -/
namespace Go.Proofs.YtlciofheonbkiaaGreat
set_option maxHeartbeats 8000000
set_option maxRecDepth 100000
open Go.RowKit Sh
theorem Sh.numL_dig {n k : Nat} {c : UInt8} {r : List UInt8} (h1 : 48 ≤ c.toNat) (h2 : c.toNat ≤ 57) (h3 : 10 * n + (c.toNat - 48) ≤ 9223372036854775807) : numL n k (c :: r) = numL (10 * n + (c.toNat - 48)) (k + 1) r := by
  rw [numL, if_pos (by simp only [isDig, decide_eq_true_eq]; exact ⟨h1, h2⟩), if_neg (by omega)]
theorem Sh.numL_over {n k : Nat} {c : UInt8} {r : List UInt8} (h1 : 48 ≤ c.toNat) (h2 : c.toNat ≤ 57) (h3 : 9223372036854775807 < 10 * n + (c.toNat - 48)) : numL n k (c :: r) = none := by
  rw [numL, if_pos (by simp only [isDig, decide_eq_true_eq]; exact ⟨h1, h2⟩), if_pos h3]
theorem Sh.numL_stop {n k : Nat} {c : UInt8} {r : List UInt8} (h : c.toNat < 48 ∨ 57 < c.toNat) : numL n k (c :: r) = some (n, k) := by
  rw [numL, if_neg (by simp only [isDig, decide_eq_true_eq]; omega)]
def NumPost (l : List UInt8) (w : World) (e : Ending) (w' : World) : Prop := e = .returned (.tuple #[.int .i64 (numV l).1, .int .i64 (numV l).2.1, .bool (numV l).2.2]) ∧ w = w'
def NumRel (s : ByteArray) (n k : Value) : Prop := ∃ m j : Nat, n = .int .i64 m ∧ k = .int .i64 j ∧ j ≤ s.size ∧ m ≤ 9223372036854775807 ∧ Hid (numL 0 0 s.data.toList = numL m j (s.data.toList.drop j))
theorem Sh.num_none {l : List UInt8} {w : World} (h : numL 0 0 l = none) : NumPost l w (.returned (.tuple #[.int .i64 0, .int .i64 0, .bool false])) w := by
  have e : numV l = (0, 0, false) := by unfold numV; rw [h]
  exact ⟨by rw [e]; rfl, rfl⟩
theorem Sh.num_bad {l : List UInt8} {w : World} {m j : Nat} (h : numL 0 0 l = some (m, j)) (hb : j = 0 ∨ (1 < j ∧ l.head? = some 48)) : NumPost l w (.returned (.tuple #[.int .i64 0, .int .i64 0, .bool false])) w := by
  have e : numV l = (0, 0, false) := by unfold numV; rw [h]; simp only; rw [if_pos hb]
  exact ⟨by rw [e]; rfl, rfl⟩
theorem Sh.num_good {l : List UInt8} {w : World} {m j : Nat} (h : numL 0 0 l = some (m, j)) (hb : ¬ (j = 0 ∨ (1 < j ∧ l.head? = some 48))) : NumPost l w (.returned (.tuple #[.int .i64 m, .int .i64 j, .bool true])) w := by
  have e : numV l = (m, j, true) := by unfold numV; rw [h]; simp only; rw [if_neg hb]
  exact ⟨by rw [e], rfl⟩
theorem Sh.sdrop {s : ByteArray} {j : Nat} (h : j < s.size) : s.data.toList.drop j = s[j] :: s.data.toList.drop (j + 1) := by
  have h' : j < s.data.toList.length := by simpa using h
  rw [List.drop_eq_getElem_cons h']
  rfl
theorem Sh.head_at {s : ByteArray} (h : 0 < s.size) : s.data.toList.head? = some s[0] := by
  have := Sh.sdrop h
  rw [List.drop_zero] at this
  rw [this]; rfl
theorem s_digit (c : Int) (w : World) : Calls Tryz.prog 232 #[.int .u8 c] w fun e w' => e = .returned (.bool (decide (48 ≤ c) && decide (c ≤ 57))) ∧ w = w' := by
  by_cases h1 : 48 ≤ c
  all_goals
    go_enter Tryz.func232, Tryz.ntmps232
    go_wp2_with fail
    go_ret
    exact ⟨ret_bool (by first | (simp [h1]; done) | (simp; omega)), rfl⟩
theorem s_number (s : ByteArray) (w : World) (hs : s.size ≤ 9223372036854775807) : Calls Tryz.prog 222 #[.string s] w (NumPost s.data.toList w) := by
  have DG := hid (fun (c : Int) (W : World) => s_digit c W)
  go_enter Tryz.func222, Tryz.ntmps222
  go_wp2_with fail
  go_loop [2, 3] (fun n k => NumRel s n k) (fun _ k => s.size - (intOf k).toNat)
  case atStart => exact ⟨0, 0, rfl, rfl, Nat.zero_le _, by omega, by show _ = _; rw [List.drop_zero]⟩
  case round =>
    obtain ⟨m, j, rfl, rfl, hj, hm, hl⟩ := hrel
    by_cases hlt : j < s.size
    · have hd := sdrop hlt
      have hl2 := hl.out
      rw [hd] at hl2
      have hcb : s[j].toNat < 256 := s[j].toNat_lt
      clear hl hd
      by_cases h1 : 48 ≤ s[j].toNat
      · have g1 : decide (48 ≤ (s[j].toNat : Int)) = true := decide_eq_true (by omega)
        by_cases h2 : s[j].toNat ≤ 57
        · have g2 : decide ((s[j].toNat : Int) ≤ 57) = true := decide_eq_true (by omega)
          have hu : IntKind.u8.wrap ((s[j].toNat : Int) - 48) = (s[j].toNat : Int) - 48 := IntWalk.u8_in _ ⟨by omega, by omega⟩
          by_cases h3 : 10 * m + (s[j].toNat - 48) ≤ 9223372036854775807
          · have HN := hid (hl2.trans (numL_dig h1 h2 h3))
            have eN : ((10 * m + (s[j].toNat - 48) : Nat) : Int) = 10 * (m : Int) + ((s[j].toNat : Int) - 48) := by omega
            have EN := hid eN
            have hx : decide (IntKind.i64.wrap ((9223372036854775807 - ((s[j].toNat : Int) - 48)).tdiv 10) < (m : Int)) = false := by
              rw [Int.tdiv_eq_ediv_of_nonneg (by omega), IntWalk.i64_in _ ⟨by omega, by omega⟩]
              exact decide_eq_false (by omega)
            have hx2 : decide ((9223372036854775807 - ((s[j].toNat : Int) - 48)) / 10 < (m : Int)) = false := decide_eq_false (by omega)
            clear hl2 eN
            go_wp2_with fail
            refine (DG.out _ _).mono ?_
            rintro e w' ⟨rfl, rfl⟩
            go_wp2_with fail
            go_round
            case rel => exact ⟨10 * m + (s[j].toNat - 48), j + 1, by rw [EN.out], by go_num, by omega, h3, HN.out⟩
            case measure => simp [intOf]; omega
          · have P := hid (num_none (w := w) (hl2.trans (numL_over h1 h2 (by omega))))
            have hx : decide (IntKind.i64.wrap ((9223372036854775807 - ((s[j].toNat : Int) - 48)).tdiv 10) < (m : Int)) = true := by
              rw [Int.tdiv_eq_ediv_of_nonneg (by omega), IntWalk.i64_in _ ⟨by omega, by omega⟩]
              exact decide_eq_true (by omega)
            have hx2 : decide ((9223372036854775807 - ((s[j].toNat : Int) - 48)) / 10 < (m : Int)) = true := decide_eq_true (by omega)
            clear hl2
            go_wp2_with fail
            refine (DG.out _ _).mono ?_
            rintro e w' ⟨rfl, rfl⟩
            go_wp2_with fail
            go_ret3
            exact P.out
        · have hn := hl2.trans (numL_stop (.inr (by omega)))
          have g2 : decide ((s[j].toNat : Int) ≤ 57) = false := decide_eq_false (by omega)
          clear hl2 hcb
          by_cases hj0 : j = 0
          · have P := hid (num_bad (w := w) hn (.inl hj0))
            have hz : ((j : Int) == 0) = true := by simp [hj0]
            clear hn hj0
            go_wp2_with fail
            refine (DG.out _ _).mono ?_
            rintro e w' ⟨rfl, rfl⟩
            go_wp2_with fail
            go_ret3
            exact P.out
          · have hz : ((j : Int) == 0) = false := by simp [hj0]
            by_cases hj1 : 1 < j
            · have hsz : 0 < s.size := by omega
              have hh := head_at hsz
              have hg : decide ((1 : Int) < (j : Int)) = true := decide_eq_true (by omega)
              have hg2 : decide (1 < j) = true := decide_eq_true hj1
              by_cases hc0 : s[0].toNat = 48
              · have e48 : s[0] = 48 := by apply UInt8.toNat_inj.1; rw [hc0]; rfl
                have P := hid (num_bad (w := w) hn (.inr ⟨hj1, by rw [hh, e48]⟩))
                have hq : ((s[0].toNat : Int) == 48) = true := by simp [hc0]
                clear hn
                go_wp2_with fail
                refine (DG.out _ _).mono ?_
                rintro e w' ⟨rfl, rfl⟩
                go_wp2_with fail
                go_ret3
                exact P.out
              · have P := hid (num_good (w := w) hn (fun q => q.elim (fun q => hj0 q) (fun q => hc0 (by
                  have := q.2
                  rw [hh] at this
                  rw [Option.some.inj this]; rfl))))
                have hq : ((s[0].toNat : Int) == 48) = false := by
                  simp only [beq_eq_false_iff_ne]
                  omega
                clear hn
                go_wp2_with fail
                refine (DG.out _ _).mono ?_
                rintro e w' ⟨rfl, rfl⟩
                go_wp2_with fail
                go_ret3
                exact P.out
            · have P := hid (num_good (w := w) hn (fun q => q.elim (fun q => hj0 q) (fun q => hj1 q.1)))
              have hg : decide ((1 : Int) < (j : Int)) = false := decide_eq_false (by omega)
              have hg2 : decide (1 < j) = false := decide_eq_false hj1
              clear hn
              go_wp2_with fail
              refine (DG.out _ _).mono ?_
              rintro e w' ⟨rfl, rfl⟩
              go_wp2_with fail
              go_ret3
              exact P.out
      · have hn := hl2.trans (numL_stop (.inl (by omega)))
        have g1 : decide (48 ≤ (s[j].toNat : Int)) = false := decide_eq_false (by omega)
        clear hl2 hcb
        by_cases hj0 : j = 0
        · have P := hid (num_bad (w := w) hn (.inl hj0))
          have hz : ((j : Int) == 0) = true := by simp [hj0]
          clear hn hj0
          go_wp2_with fail
          refine (DG.out _ _).mono ?_
          rintro e w' ⟨rfl, rfl⟩
          go_wp2_with fail
          go_ret3
          exact P.out
        · have hz : ((j : Int) == 0) = false := by simp [hj0]
          by_cases hj1 : 1 < j
          · have hsz : 0 < s.size := by omega
            have hh := head_at hsz
            have hg : decide ((1 : Int) < (j : Int)) = true := decide_eq_true (by omega)
            have hg2 : decide (1 < j) = true := decide_eq_true hj1
            by_cases hc0 : s[0].toNat = 48
            · have e48 : s[0] = 48 := by apply UInt8.toNat_inj.1; rw [hc0]; rfl
              have P := hid (num_bad (w := w) hn (.inr ⟨hj1, by rw [hh, e48]⟩))
              have hq : ((s[0].toNat : Int) == 48) = true := by simp [hc0]
              clear hn
              go_wp2_with fail
              refine (DG.out _ _).mono ?_
              rintro e w' ⟨rfl, rfl⟩
              go_wp2_with fail
              go_ret3
              exact P.out
            · have P := hid (num_good (w := w) hn (fun q => q.elim (fun q => hj0 q) (fun q => hc0 (by
                have := q.2
                rw [hh] at this
                rw [Option.some.inj this]; rfl))))
              have hq : ((s[0].toNat : Int) == 48) = false := by
                simp only [beq_eq_false_iff_ne]
                omega
              clear hn
              go_wp2_with fail
              refine (DG.out _ _).mono ?_
              rintro e w' ⟨rfl, rfl⟩
              go_wp2_with fail
              go_ret3
              exact P.out
          · have P := hid (num_good (w := w) hn (fun q => q.elim (fun q => hj0 q) (fun q => hj1 q.1)))
            have hg : decide ((1 : Int) < (j : Int)) = false := decide_eq_false (by omega)
            have hg2 : decide (1 < j) = false := decide_eq_false hj1
            clear hn
            go_wp2_with fail
            refine (DG.out _ _).mono ?_
            rintro e w' ⟨rfl, rfl⟩
            go_wp2_with fail
            go_ret3
            exact P.out
    · have hn : numL 0 0 s.data.toList = some (m, j) := by
        rw [hl.out, List.drop_eq_nil_of_le (by simp; omega)]; rfl
      clear hl
      have hg0 : decide (j < s.size) = false := decide_eq_false hlt
      by_cases hj0 : j = 0
      · have P := hid (num_bad (w := w) hn (.inl hj0))
        have hz : ((j : Int) == 0) = true := by simp [hj0]
        clear hn hj0
        go_wp2_with fail
        go_ret3
        exact P.out
      · have hz : ((j : Int) == 0) = false := by simp [hj0]
        by_cases hj1 : 1 < j
        · have hsz : 0 < s.size := by omega
          have hh := head_at hsz
          have hg : decide ((1 : Int) < (j : Int)) = true := decide_eq_true (by omega)
          have hg2 : decide (1 < j) = true := decide_eq_true hj1
          by_cases hc0 : s[0].toNat = 48
          · have e48 : s[0] = 48 := by apply UInt8.toNat_inj.1; rw [hc0]; rfl
            have P := hid (num_bad (w := w) hn (.inr ⟨hj1, by rw [hh, e48]⟩))
            have hq : ((s[0].toNat : Int) == 48) = true := by simp [hc0]
            clear hn
            go_wp2_with fail
            go_ret3
            exact P.out
          · have P := hid (num_good (w := w) hn (fun q => q.elim (fun q => hj0 q) (fun q => hc0 (by
              have := q.2
              rw [hh] at this
              rw [Option.some.inj this]; rfl))))
            have hq : ((s[0].toNat : Int) == 48) = false := by
              simp only [beq_eq_false_iff_ne]
              omega
            clear hn
            go_wp2_with fail
            go_ret3
            exact P.out
        · have P := hid (num_good (w := w) hn (fun q => q.elim (fun q => hj0 q) (fun q => hj1 q.1)))
          have hg : decide ((1 : Int) < (j : Int)) = false := decide_eq_false (by omega)
          have hg2 : decide (1 < j) = false := decide_eq_false hj1
          clear hn
          go_wp2_with fail
          go_ret3
          exact P.out
end Go.Proofs.YtlciofheonbkiaaGreat
