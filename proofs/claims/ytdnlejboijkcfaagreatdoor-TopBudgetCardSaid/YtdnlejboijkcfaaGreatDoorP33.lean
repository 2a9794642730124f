/- Texts laid together. -/
import Derived.Test.YtdnlejboijkcfaaGreatDoorP17
import Derived.Test.YtdnlejboijkcfaaGreatDoorP02
/- grove: a tree's parents: up, Right, Root, Kids. -/
namespace Go.Proofs.YtdnlejboijkcfaaGreatDoor
set_option maxHeartbeats 8000000
set_option maxRecDepth 100000
open Go.RowKit Tb
namespace Tb
theorem up_end {ps : List Int} {f i : Nat} (h : ps.getD i 0 = -1) : upF ps (f + 1) i = true := by unfold upF; rw [if_pos h]
theorem up_off {ps : List Int} {f i : Nat} (h : ps.getD i 0 ≠ -1) (h2 : ps.getD i 0 < 0 ∨ ps.length ≤ ps.getD i 0) : upF ps (f + 1) i = false := by unfold upF; rw [if_neg h, if_pos h2]
theorem up_on {ps : List Int} {f i j : Nat} (h : ps.getD i 0 = j) (h2 : j < ps.length) : upF ps (f + 1) i = upF ps f j := by
  conv => lhs; unfold upF
  rw [if_neg (by omega), if_neg (by omega), h]; rfl
end Tb
def TbUpRel (ps : List Int) (b : Bool) (n : Nat) (w : World) (gn : Nat) (i y : Value) (wr : World) : Prop :=
  ∃ (i' : Nat) (L : List Int), i = .int .i64 i' ∧ i' < n ∧ OwnI wr w.heap.size y L ∧ L.length + gn = n ∧ Hid (upF ps gn i' = b) ∧ Below w.heap.size w wr
theorem g_up {w : World} {v : Value} {ps : List Int} (hr : RdI w v ps) (hn : ps.length ≤ 48) (i : Nat) (hi : i < ps.length) :
    Calls Tryz.prog 172 #[v, .int .i64 i] w fun e w' => (∃ u, e = .returned (.tuple #[u, .bool (upF ps ps.length i)])) ∧ Below w.heap.size w w' := by
  obtain ⟨p, cap, rfl⟩ := hr.val
  obtain ⟨N, eN⟩ : ∃ N, ps.length = N := ⟨_, rfl⟩
  have EN := hid eN
  obtain ⟨b, eb⟩ : ∃ b, upF ps ps.length i = b := ⟨_, rfl⟩
  rw [eb]
  rw [eN] at hr hn hi eb ⊢
  have R0 : Hid (TbUpRel ps b N w N (.int .i64 i) (.slice none 0 0) w) := ⟨i, [], rfl, hi, OwnI.nil _ _, by simp, eb, Below.refl _ _⟩
  clear eb eN
  go_enter Tryz.func172, Tryz.ntmps172
  go_wp2_with fail
  go_step3
  go_wp2_with fail
  go_step3
  go_wp2_with fail
  go_loopg [1, 6] N (fun gn i y wr => TbUpRel ps b N w gn i y wr)
  case atStart => exact R0.out
  case round =>
    obtain ⟨i', L, rfl, hi', own, hL, hb, hbl⟩ := hrel
    obtain ⟨pl, cl, rfl⟩ := own.val
    cases gk with
    | zero =>
      have hLn : L.length = N := by omega
      have z : ((L.length : Int) == (N : Int)) = true := by simp; omega
      have eb : false = b := hb.out
      subst eb
      go_wp2_with fail
      first | go_ret2 | (rw [Exit.noGoto_ret]; go_ret2)
      exact ⟨⟨_, rfl⟩, hbl⟩
    | succ gn =>
      have z : ((L.length : Int) == (N : Int)) = false := by simp; omega
      have hps : i' < ps.length := by rw [EN.out]; exact hi'
      have hrr := hr.below hbl nlr
      obtain ⟨gs, off, a, rfl, ea, hgs, q0⟩ := hrr.at hps
      have EA := hid ea
      have hw := hbl.size
      have hLl : L.length < 2000000 := by omega
      clear ea hps
      go_upto_region 5 with (at_builtin; refine appendI (wr := wr) _ _ own (by omega) hw rfl rfl rfl rfl rfl ?_; intro g2 cap2 w2 o2 gr2 at2 lt2)
      have hgn : wr.grownBy w2 (Value.slice pl L.length cl).ownBlock := gr2
      have b2 := hbl.trans (below_grown gr2 hw own.lt)
      have q1 : w2.cell? ⟨gs, off + i', none⟩ = some (.int .i64 a) := by
        obtain ⟨gs', off', a', hp', ea', -, q'⟩ := (hr.below b2 nlr).at (k := i') (by rw [EN.out]; exact hi')
        simp only [Option.some.injEq, Addr.mk.injEq] at hp'
        rw [hp'.1, hp'.2.1, ← EA.out, ea']; exact q'
      have hgs2 : gs < w2.heap.size := Nat.lt_of_lt_of_le hgs (by have := gr2.size; omega)
      have hl2 : (L ++ [(i' : Int)]).length = L.length + 1 := by simp
      rw [← hl2] at o2
      clear q0 own hrr gr2 hgn
      by_cases h1 : a = -1
      · have eb : true = b := by rw [← hb.out]; exact (up_end (by rw [EA.out]; exact h1)).symm
        subst eb
        subst h1
        go_wp2_with fail
        first | go_ret2 | (rw [Exit.noGoto_ret]; go_ret2)
        exact ⟨⟨_, rfl⟩, b2⟩
      · have z1 : (a == -1) = false := by simp [h1]
        by_cases h2 : a < 0 ∨ (N : Int) ≤ a
        · have eb : false = b := by rw [← hb.out]; exact (up_off (by rw [EA.out]; exact h1) (by rw [EA.out, EN.out]; exact h2)).symm
          subst eb
          by_cases h3 : a < 0
          · have z2 : decide (a < 0) = true := decide_eq_true h3
            clear h2
            go_wp2_with fail
            first | go_ret2 | (rw [Exit.noGoto_ret]; go_ret2)
            exact ⟨⟨_, rfl⟩, b2⟩
          · have z2 : decide (a < 0) = false := decide_eq_false h3
            have z3 : decide ((N : Int) ≤ a) = true := decide_eq_true (by omega)
            clear h2
            go_wp2_with fail
            first | go_ret2 | (rw [Exit.noGoto_ret]; go_ret2)
            exact ⟨⟨_, rfl⟩, b2⟩
        · obtain ⟨j, rfl⟩ := Int.eq_ofNat_of_zero_le (show 0 ≤ a by omega)
          have hjN : j < N := by omega
          have R1 : Hid (TbUpRel ps b N w gn (.int .i64 j) (.slice (some ⟨g2, 0, none⟩) (L ++ [(i' : Int)]).length cap2) w2) :=
            ⟨j, _, rfl, hjN, o2, by rw [hl2]; omega, by rw [← hb.out]; exact (up_on EA.out (by rw [EN.out]; exact hjN)).symm, b2⟩
          rw [hl2] at R1
          have z2 : decide ((j : Int) < 0) = false := decide_eq_false (by omega)
          have z3 : decide ((N : Int) ≤ (j : Int)) = false := decide_eq_false (by omega)
          clear h2 h1 o2 hb
          go_wp2_with fail
          go_roundg gn
          case rel => exact R1.out
          case measure => omega
def TbRgRel (ps : List Int) (n : Nat) (w : World) (gn : Nat) (r i : Value) (wr : World) : Prop :=
  ∃ k : Nat, i = .int .i64 k ∧ k + gn = n ∧ r = .int .i64 (rootsN ps k) ∧ (∀ j, j < k → upF ps n j = true) ∧ rootsN ps k ≤ k ∧ Below w.heap.size w wr
theorem g_right {w : World} {v : Value} {ps : List Int} (hr : RdI w v ps) (hn : ps.length ≤ 48) :
    Calls Tryz.prog 131 #[v] w fun e w' => e = .returned (.bool (rightB ps)) ∧ Below w.heap.size w w' := by
  obtain ⟨p, cap, rfl⟩ := hr.val
  have UP := hid (fun W (y : RdI W (.slice p ps.length cap) ps) i (hi : i < ps.length) => g_up y hn i hi)
  have eR : Hid (rightB ps = decide (1 ≤ ps.length ∧ ps.length ≤ 48 ∧ (∀ i, i < ps.length → upF ps ps.length i = true) ∧ rootsN ps ps.length = 1)) := rfl
  obtain ⟨R, eR1⟩ : ∃ R, rightB ps = R := ⟨_, rfl⟩
  rw [eR1] at eR ⊢
  clear eR1
  obtain ⟨N, eN⟩ : ∃ N, ps.length = N := ⟨_, rfl⟩
  have EN := hid eN
  rw [eN] at hr hn UP eR ⊢
  clear eN
  by_cases h0 : N < 1
  · have : N = 0 := by omega
    subst this
    have e0 : R = false := eR.out.trans (decide_eq_false (fun h => by omega))
    subst e0
    go_enter Tryz.func131, Tryz.ntmps131
    go_wp2_with fail
    go_ret
    exact ⟨rfl, Below.refl _ _⟩
  · have z0 : decide ((N : Int) < 1) = false := decide_eq_false (by omega)
    have z1 : decide ((48 : Int) < (N : Int)) = false := decide_eq_false (by omega)
    go_enter Tryz.func131, Tryz.ntmps131
    go_wp2_with fail
    go_loopg [3, 18] N (fun gn r i wr => TbRgRel ps N w gn r i wr)
    case atStart => exact ⟨0, rfl, by omega, rfl, fun j hj => by omega, nlr, Below.refl _ _⟩
    case round =>
      obtain ⟨k, rfl, hk, rfl, hup, hrk, hbl⟩ := hrel
      cases gk with
      | zero =>
        obtain rfl : k = N := by omega
        have z2 : decide ((k : Int) < (k : Int)) = false := decide_eq_false (by omega)
        have e0 : R = decide (((rootsN ps k : Nat) : Int) = 1) := by
          rw [eR.out]
          by_cases q : rootsN ps k = 1
          · rw [decide_eq_true ⟨by omega, hn, hup, q⟩, decide_eq_true (by omega)]
          · rw [decide_eq_false (fun h => q h.2.2.2), decide_eq_false (by omega)]
        subst e0
        clear eR
        go_wp2_with fail
        go_ret
        refine ⟨?_, hbl⟩
        congr 2
      | succ gn =>
        have hkN : k < N := by omega
        have hkp : k < ps.length := by rw [EN.out]; exact hkN
        obtain ⟨gs, off, a, rfl, ea, hgs, q0⟩ := (hr.below hbl nlr).at hkp
        have z2 : decide ((k : Int) < (N : Int)) = true := decide_eq_true (by omega)
        have UK := hid (UP.out wr (hr.below hbl nlr) k hkN)
        have HU := hid hup
        have EA := hid ea
        obtain ⟨u, eu⟩ : ∃ u, upF ps N k = u := ⟨_, rfl⟩
        rw [eu] at UK
        have EU := hid eu
        have bL : rootsN ps k ≤ 48 := by omega
        have RS : Hid (rootsN ps (k + 1) = if a = -1 then rootsN ps k + 1 else rootsN ps k) := by rw [← ea]; rfl
        clear eu ea hup
        go_wp2_with fail
        refine UK.out.mono ?_
        rintro e w2 ⟨⟨y, rfl⟩, hb2⟩
        have hb3 := hbl.trans (hb2.mono hbl.size)
        cases u with
        | false =>
          have e0 : R = false := eR.out.trans (decide_eq_false (fun h => by
            have := h.2.2.1 k hkN
            rw [EU.out] at this; cases this))
          subst e0
          go_wp2_with fail
          go_ret
          exact ⟨rfl, hb3⟩
        | true =>
          have HU2 : Hid (∀ j, j < k + 1 → upF ps N j = true) := fun j hj => by
            by_cases q : j = k
            · rw [q]; exact EU.out
            · exact HU.out j (by omega)
          by_cases h1 : a = -1
          · subst h1
            have R1 : Hid (TbRgRel ps N w gn (.int .i64 ((rootsN ps k : Int) + 1)) (.int .i64 ((k : Int) + 1)) w2) := ⟨k + 1, by simp, by omega, by rw [RS.out, if_pos rfl]; simp, HU2.out, by rw [RS.out, if_pos rfl]; omega, hb3⟩
            go_wp2_with fail
            go_roundg gn
            case rel => exact R1.out
            case measure => omega
          · have z1 : (a == -1) = false := by simp [h1]
            have R1 : Hid (TbRgRel ps N w gn (.int .i64 (rootsN ps k)) (.int .i64 ((k : Int) + 1)) w2) := ⟨k + 1, by simp, by omega, by rw [RS.out, if_neg h1], HU2.out, by rw [RS.out, if_neg h1]; omega, hb3⟩
            clear h1
            go_wp2_with fail
            go_roundg gn
            case rel => exact R1.out
            case measure => omega
theorem g_index {w : World} {v : Value} {ps : List Int} {r : Nat} (hr : RdI w v ps) (R : Right ps r) :
    Calls Tryz.prog 132 #[v, .int .i64 (-1)] w (Rt (.int .i64 r) w) := by
  obtain ⟨p, cap, rfl⟩ := hr.val
  have HR : Hid (ps.getD r 0 = -1 ∧ ∀ j, j < ps.length → j ≠ r → ps.getD j 0 ≠ -1) := by
    refine ⟨?_, fun j hj hne e => hne ((R.root j hj).1 (by omega))⟩
    have h1 := (R.root r R.rt).2 rfl
    have := R.neg r R.rt
    omega
  have hrn := R.rt
  have n2 := R.n2
  obtain ⟨N, eN⟩ : ∃ N, ps.length = N := ⟨_, rfl⟩
  have EN := hid eN
  rw [eN] at hr hrn HR n2 ⊢
  clear eN R
  go_enter Tryz.func132, Tryz.ntmps132
  go_wp2_with fail
  go_loopg [8] N (fun gn i wr => ∃ k : Nat, i = .int .i64 k ∧ k + gn = N ∧ k ≤ r ∧ wr = w)
  case atStart => exact ⟨0, rfl, by omega, Nat.zero_le _, rfl⟩
  case round =>
    obtain ⟨k, rfl, hk, hkr, rfl⟩ := hrel
    have hkN : k < N := by omega
    obtain ⟨gs, off, a, rfl, ea, hgs, q0⟩ := hr.at (k := k) (by rw [EN.out]; exact hkN)
    have z2 : decide ((k : Int) < (N : Int)) = true := decide_eq_true (by omega)
    by_cases q : k = r
    · subst q
      have : a = -1 := by rw [← ea]; exact HR.out.1
      subst this
      clear ea
      go_wp2_with fail
      go_ret
      exact ⟨rfl, rfl⟩
    · have ha : a ≠ -1 := by rw [← ea]; exact HR.out.2 k hkN q
      have z1 : ((-1 : Int) == a) = false := by simp; omega
      clear ea
      go_wp2_with fail
      go_roundg (gk - 1)
      case rel => exact ⟨k + 1, by go_num, by omega, by omega, rfl⟩
      case measure => omega
theorem g_root {w : World} {v : Value} {ps : List Int} (hr : RdI w v ps) (hn : ps.length ≤ 48) :
    Calls Tryz.prog 77 #[v] w fun e w' => ((rightB ps = false ∧ e = .returned (.tuple #[.int .i64 0, .int .i64 15])) ∨ (rightB ps = true ∧ ∃ r : Nat, Right ps r ∧ e = .returned (.tuple #[.int .i64 r, .int .i64 0]))) ∧ Below w.heap.size w w' := by
  have RG := g_right hr hn
  have IX := hid (fun W r (y : RdI W v ps) (R : Right ps r) => g_index y R)
  have HR := hid hr
  obtain ⟨p, cap, rfl⟩ := hr.val
  clear hr
  cases hb : rightB ps
  · rw [hb] at RG
    have RG := hid RG
    clear hb
    go_enter Tryz.func77, Tryz.ntmps77
    go_wp2_with fail
    refine RG.out.mono ?_
    rintro e w2 ⟨rfl, hb2⟩
    go_wp2_with fail
    go_ret2
    exact ⟨.inl ⟨trivial, rfl⟩, hb2⟩
  · rw [hb] at RG
    have RG := hid RG
    obtain ⟨r, R⟩ := rightB_of hb
    have HRR := hid R
    have IX := hid (fun W (y : RdI W (.slice p ps.length cap) ps) => IX.out W r y R)
    clear hb R
    go_enter Tryz.func77, Tryz.ntmps77
    go_wp2_with fail
    refine RG.out.mono ?_
    rintro e w2 ⟨rfl, hb2⟩
    have I2 := hid (IX.out w2 (HR.out.below hb2 nlr))
    go_wp2_with fail
    refine I2.out.mono ?_
    rintro e w3 ⟨rfl, rfl⟩
    go_wp2_with fail
    go_ret2
    exact ⟨.inr ⟨trivial, r, HRR.out, rfl⟩, hb2⟩
theorem g_kids {w : World} {v : Value} {ps : List Int} (hr : RdI w v ps) (hn : ps.length ≤ 48) (i : Int) :
    Calls Tryz.prog 80 #[v, .int .i64 i] w (Rt (.int .u64 (kidsN ps i ps.length)) w) := by
  obtain ⟨p, cap, rfl⟩ := hr.val
  obtain ⟨N, eN⟩ : ∃ N, ps.length = N := ⟨_, rfl⟩
  have EN := hid eN
  have CW := hid (fun (s k : Nat) (W : World) (hs : s < 2 ^ 48) (hk : k < 48) => cw_with s k W hs hk)
  rw [eN] at hr hn ⊢
  clear eN
  go_enter Tryz.func80, Tryz.ntmps80
  go_wp2_with fail
  go_loopg [5, 10] N (fun gn s j wr => ∃ k : Nat, j = .int .i64 k ∧ k + gn = N ∧ s = .int .u64 (kidsN ps i k) ∧ wr = w)
  case atStart => exact ⟨0, rfl, by omega, rfl, rfl⟩
  case round =>
    obtain ⟨k, rfl, hk, rfl, rfl⟩ := hrel
    cases gk with
    | zero =>
      obtain rfl : k = N := by omega
      have z2 : decide ((k : Int) < (k : Int)) = false := decide_eq_false (by omega)
      go_wp2_with fail
      go_ret
      exact ⟨rfl, rfl⟩
    | succ gn =>
      have hkN : k < N := by omega
      obtain ⟨gs, off, a, rfl, ea, hgs, q0⟩ := hr.at (k := k) (by rw [EN.out]; exact hkN)
      have z2 : decide ((k : Int) < (N : Int)) = true := decide_eq_true (by omega)
      have RS : Hid (kidsN ps i (k + 1) = if a = i then kidsN ps i k ||| 2 ^ k else kidsN ps i k) := by rw [← ea]; rfl
      have hs : kidsN ps i k < 2 ^ 48 := Nat.lt_of_lt_of_le (kids_lt ps i k) (Nat.pow_le_pow_right (by decide) (by omega))
      have C := hid (CW.out (kidsN ps i k) k wr hs (by omega))
      clear ea hs
      by_cases q : a = i
      · subst q
        have z3 : (a == a) = true := by simp
        go_wp2_with fail
        refine C.out.mono ?_
        rintro e w2 ⟨rfl, rfl⟩
        go_wp2_with fail
        go_roundg gn
        case rel => exact ⟨k + 1, by go_num, by omega, by rw [RS.out]; simp, rfl⟩
        case measure => omega
      · have z3 : (a == i) = false := by simp [q]
        have Q := hid q
        clear q
        go_wp2_with fail
        go_roundg gn
        case rel => exact ⟨k + 1, by go_num, by omega, by rw [RS.out, if_neg Q.out], rfl⟩
        case measure => omega
theorem g_wrong {w : World} {v : Value} {ps : List Int} (hr : RdI w v ps) (hn : ps.length ≤ 48) (i : Nat) (hi : i < ps.length) (hR : rightB ps = true) :
    Calls Tryz.prog 79 #[v, .int .i64 i] w fun e w' => e = .returned (.int .i64 0) ∧ Below w.heap.size w w' := by
  have RG := g_right hr hn
  rw [hR] at RG
  have RG := hid RG
  obtain ⟨p, cap, rfl⟩ := hr.val
  obtain ⟨N, eN⟩ : ∃ N, ps.length = N := ⟨_, rfl⟩
  rw [eN] at RG hi ⊢
  have z1 : decide ((i : Int) < 0) = false := decide_eq_false (by omega)
  have z2 : decide ((N : Int) ≤ (i : Int)) = false := decide_eq_false (by omega)
  clear hr eN hR
  go_enter Tryz.func79, Tryz.ntmps79
  go_wp2_with fail
  refine RG.out.mono ?_
  rintro e w2 ⟨rfl, hb2⟩
  go_wp2_with fail
  go_ret
  exact ⟨rfl, hb2⟩
theorem g_kidsK {w : World} {v : Value} {ps : List Int} (hr : RdI w v ps) (hn : ps.length ≤ 48) (i : Nat) (hi : i < ps.length) (hR : rightB ps = true) :
    Calls Tryz.prog 31 #[v, .int .i64 i] w fun e w' => e = .returned (.tuple #[.int .u64 (kidsN ps i ps.length), .int .i64 0]) ∧ Below w.heap.size w w' := by
  have WR := hid (g_wrong hr hn i hi hR)
  have KD := hid (fun W (y : RdI W v ps) => g_kids y hn i)
  have HR := hid hr
  obtain ⟨p, cap, rfl⟩ := hr.val
  clear hr hR
  go_enter Tryz.func31, Tryz.ntmps31
  go_wp2_with fail
  refine WR.out.mono ?_
  rintro e w2 ⟨rfl, hb2⟩
  have K2 := hid (KD.out w2 (HR.out.below hb2 nlr))
  go_wp2_with fail
  refine K2.out.mono ?_
  rintro e w3 ⟨rfl, rfl⟩
  go_wp2_with fail
  go_ret2
  exact ⟨rfl, hb2⟩
end Go.Proofs.YtdnlejboijkcfaaGreatDoor
