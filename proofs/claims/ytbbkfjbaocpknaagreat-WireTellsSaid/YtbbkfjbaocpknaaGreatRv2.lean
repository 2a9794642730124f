/- The walk of vary.Falls: rising numbers are read. -/
import Derived.Test.YtbbkfjbaocpknaaGreatRvMath2
import Derived.Test.YtbbkfjbaocpknaaGreatRv1
import Derived.Test.YtbbkfjbaocpknaaGreatBF
namespace Go.Proofs.YtbbkfjbaocpknaaGreat
open Go.RowKit Vy

theorem Vy.sub_list (s : ByteArray) (j : Nat) : (s.extract j s.size).data.toList = s.data.toList.drop j := by
  rw [ByteArray.data_extract, Array.toList_extract]
  rw [List.extract_eq_take_drop, List.take_of_length_le (by rw [List.length_drop]; simp)]
theorem Vy.sub_size (s : ByteArray) {j : Nat} (_h : j ≤ s.size) : (s.extract j s.size).size = s.size - j := by simp
def mapF (ids : List Int) : Option (List Int × List UInt8) → Option (List Int × List UInt8)
  | none => none
  | some (l, r) => some (ids ++ l, r)
theorem Vy.falls_step {m : Nat} {last : Int} {s r : List UInt8} {n : Nat} (ids : List Int) (h : getF s = some (n, r)) (h0 : n ≠ 0) (h1 : (n : Int) ≤ 9223372036854775807 - last) : mapF ids (fallsF (m + 1) last s) = mapF (ids ++ [last + n]) (fallsF m (last + n) r) := by
  rw [fallsF, h]
  simp only
  rw [if_neg (by omega)]
  cases fallsF m (last + n) r with
  | none => rfl
  | some x => obtain ⟨l, q⟩ := x; simp [mapF]
theorem Vy.falls_bad {m : Nat} {last : Int} {s r : List UInt8} {n : Nat} (h : getF s = some (n, r)) (h0 : n = 0 ∨ 9223372036854775807 - last < n) : fallsF (m + 1) last s = none := by
  rw [fallsF, h]
  simp only
  rw [if_pos h0]
theorem Vy.falls_none {m : Nat} {last : Int} {s : List UInt8} (h : getF s = none) : fallsF (m + 1) last s = none := by
  rw [fallsF, h]
def FallsP (most : Int) (s : ByteArray) (w : World) (e : Ending) (w' : World) : Prop :=
  Below w.heap.size w w' ∧ ((∃ er : Int, e = .returned (.tuple #[.slice none 0 0, .int .i64 0, .int .i64 er]) ∧ 1 ≤ er ∧ er ≤ 100 ∧ idsF most s.data.toList = none) ∨
    ∃ (ids : List Int) (v : Value) (size : Nat), e = .returned (.tuple #[v, .int .i64 size, .int .i64 0]) ∧ size ≤ s.size ∧ ids.length ≤ size ∧ OwnI w' w.heap.size v ids ∧ idsF most s.data.toList = some (ids, s.data.toList.drop size))
set_option maxRecDepth 100000 in
set_option maxHeartbeats 2000000 in
theorem v_falls (most : Int) (s : ByteArray) (w : World) (hs : s.size ≤ 200000) (_hm : In64 most) : Calls Tryz.prog 163 #[.string s, .int .i64 most] w (FallsP most s w) := by
  have GT := hid (fun (t : ByteArray) (W : World) => v_get t W)
  go_enter Tryz.func163, Tryz.ntmps163
  go_wp2_with fail
  refine (GT.out s w).mono ?_
  rintro e w1 ⟨rfl, (⟨er, rfl, he1, he2, hg⟩ | ⟨m, p0, rfl, hp0, hp1, hg, hmb⟩)⟩
  · have P : Hid (FallsP most s w (.returned (.tuple #[.slice none 0 0, .int .i64 0, .int .i64 er])) w) := ⟨Below.refl _ _, .inl ⟨er, rfl, he1, he2, by unfold idsF; rw [hg]⟩⟩
    have z : (er != 0) = true := by simp; omega
    clear hg
    go_wp2_with fail
    go_ret3
    exact P.out
  · by_cases hmm : most < m
    · have P : Hid (FallsP most s w (.returned (.tuple #[.slice none 0 0, .int .i64 0, .int .i64 13])) w) := ⟨Below.refl _ _, .inl ⟨13, rfl, by decide, by decide, by unfold idsF; rw [hg]; simp only; rw [if_pos hmm]⟩⟩
      have z : decide (most < (m : Int)) = true := decide_eq_true hmm
      clear hg
      go_wp2_with fail
      go_ret3
      exact P.out
    · have z : decide (most < (m : Int)) = false := decide_eq_false hmm
      have F0 : Hid (idsF most s.data.toList = fallsF m 0 (s.data.toList.drop p0)) := by
        show _ = _
        unfold idsF; rw [hg]; simp only; rw [if_neg hmm]
      have F1 : Hid (fallsF m 0 (s.data.toList.drop p0) = mapF [] (fallsF (m - 0) 0 (s.data.toList.drop p0))) := by
        show _ = mapF [] (fallsF m 0 (s.data.toList.drop p0))
        cases fallsF m 0 (s.data.toList.drop p0) with
        | none => rfl
        | some x => rfl
      clear hg hmm
      go_wp2_with fail
      go_loopg [8, 10, 11, 30] m (fun gn at' out last i wr => ∃ (j p : Nat) (L : Int) (ids : List Int), at' = .int .i64 p ∧ i = .int .i64 j ∧ last = .int .i64 L ∧ 0 ≤ L ∧ L ≤ 9223372036854775807 ∧ j ≤ m ∧ m - j ≤ gn ∧ p ≤ s.size ∧ ids.length = j ∧ j ≤ p ∧ OwnI wr w.heap.size out ids ∧ Below w.heap.size w wr ∧ Hid (fallsF m 0 (s.data.toList.drop p0) = mapF ids (fallsF (m - j) L (s.data.toList.drop p))))
      case atStart => exact ⟨0, p0, 0, [], rfl, rfl, rfl, by omega, by omega, Nat.zero_le _, Nat.le_refl _, hp0, rfl, Nat.zero_le _, OwnI.nil _ _, Below.refl _ _, F1⟩
      case round =>
        obtain ⟨j, p, L, ids, rfl, rfl, rfl, hL0, hL1, hj, hgn, hp, hil, hjp, hown, hbl, hF⟩ := hrel
        by_cases hlt : j < m
        · have z0 : decide ((j : Int) < (m : Int)) = true := decide_eq_true (by omega)
          have hwr := hbl.size
          have SL := sub_list s p
          have SZ := sub_size s hp
          have G1 := hid (GT.out (s.extract p s.size) wr)
          have HS := hid (And.intro SL SZ)
          have emj : m - j = (m - (j + 1)) + 1 := by omega
          clear SL SZ
          go_wp2_with fail
          refine G1.out.mono ?_
          clear G1
          generalize s.extract p s.size = t at *
          rintro e w2 ⟨rfl, (⟨er, rfl, he1, he2, hg⟩ | ⟨n, sz, rfl, hsz, hsz1, hg, hnb⟩)⟩
          · have P : Hid (FallsP most s w (.returned (.tuple #[.slice none 0 0, .int .i64 0, .int .i64 er])) wr) := ⟨hbl, .inl ⟨er, rfl, he1, he2, by
              rw [HS.out.1] at hg
              rw [F0.out, hF.out, emj, falls_none hg]; rfl⟩⟩
            have z1 : (er == 0) = false := by simp; omega
            have z2 : (er != 0) = true := by simp; omega
            clear hg hF
            go_wp2_with fail
            go_ret3
            exact P.out
          · rw [HS.out.1, List.drop_drop] at hg
            have hsz2 := HS.out.2
            by_cases hb : n = 0 ∨ 9223372036854775807 - L < n
            · have P : Hid (FallsP most s w (.returned (.tuple #[.slice none 0 0, .int .i64 0, .int .i64 10])) wr) := ⟨hbl, .inl ⟨10, rfl, by decide, by decide, by
                rw [F0.out, hF.out, emj, falls_bad hg hb]; rfl⟩⟩
              clear hg hF
              by_cases hn0 : n = 0
              · have z1 : ((n : Int) == 0) = true := by simp [hn0]
                clear hb
                go_wp2_with fail
                go_ret3
                exact P.out
              · have z1 : ((n : Int) == 0) = false := by simp [hn0]
                have z2 : decide (9223372036854775807 - L < (n : Int)) = true := decide_eq_true (by omega)
                clear hb
                go_wp2_with fail
                go_ret3
                exact P.out
            · have hb' : n ≠ 0 ∧ (n : Int) ≤ 9223372036854775807 - L := ⟨fun h => hb (.inl h), by omega⟩
              obtain ⟨hn0, hnl⟩ := hb'
              have z1 : ((n : Int) == 0) = false := by simp [hn0]
              have z2 : decide (9223372036854775807 - L < (n : Int)) = false := decide_eq_false (by omega)
              have F2 : Hid (fallsF m 0 (s.data.toList.drop p0) = mapF (ids ++ [L + n]) (fallsF (m - (j + 1)) (L + n) (s.data.toList.drop (p + sz)))) := by
                show _ = _
                rw [hF.out, emj, falls_step ids hg hn0 hnl]
              clear hg hF hb
              go_wp2_with (at_builtin; refine appendI (wr := wr) _ _ hown (by omega) (by omega) rfl rfl rfl rfl rfl ?_; intro g cap' w3 ho3 hg3 hgb hgl)
              go_roundg (m - (j + 1))
              case rel => exact ⟨j + 1, p + sz, L + n, ids ++ [L + n], by go_num, by go_num, rfl, by omega, by omega, by omega, Nat.le_refl _, by omega, by simp [hil], by omega, by simpa [hil] using ho3, hbl.grown hg3 (by omega) hown.lt, F2⟩
              case measure => omega
        · obtain rfl : j = m := by omega
          have z0 : decide ((j : Int) < (j : Int)) = false := decide_eq_false (by omega)
          obtain ⟨po, co, rfl⟩ := hown.val
          have P : Hid (FallsP most s w (.returned (.tuple #[.slice po ids.length co, .int .i64 p, .int .i64 0])) wr) := ⟨hbl, .inr ⟨ids, _, p, rfl, hp, by omega, hown, by
            rw [F0.out, hF.out, Nat.sub_self, fallsF]; simp [mapF]⟩⟩
          clear hF
          go_wp2_with fail
          go_ret3
          exact P.out
end Go.Proofs.YtbbkfjbaocpknaaGreat
