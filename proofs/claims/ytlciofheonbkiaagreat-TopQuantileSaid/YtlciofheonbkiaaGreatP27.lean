/- Texts laid together. -/
import Derived.Test.YtlciofheonbkiaaGreatP26
import Derived.Lib.Bytealg
import Derived.Lib.Walk
import Derived.BigCall
import Derived.BigQuiet
import Derived.Test.YtlciofheonbkiaaGreatP03
import Derived.Deep.LoopGhost
import Derived.Laws.Rows
import Derived.Test.YtlciofheonbkiaaGreatP01
/- Texts laid together: Sr1, Sr2, Sr3, Sr4, Sr5. -/
/- The walks of strings.CutPrefix, and of the closure that reads the next number of a line. -/
namespace Go.Proofs.YtlciofheonbkiaaGreat
set_option maxHeartbeats 8000000
set_option maxRecDepth 100000
open Go.RowKit Sh
theorem Sh.sub_list (s : ByteArray) (j : Nat) : (s.extract j s.size).data.toList = s.data.toList.drop j := by
  rw [ByteArray.data_extract, Array.toList_extract]
  rw [List.extract_eq_take_drop, List.take_of_length_le (by rw [List.length_drop]; simp)]
theorem Sh.pre_list (s : ByteArray) (j : Nat) : (s.extract 0 j).data.toList = s.data.toList.take j := by
  rw [ByteArray.data_extract, Array.toList_extract]
  rw [List.extract_eq_take_drop, List.drop_zero, Nat.sub_zero]
def Sh.begB (s t : List UInt8) : Bool := decide (t.length ≤ s.length) && (s.take t.length == t)
theorem l_has (s t : ByteArray) (w : World) (_hs : s.size ≤ 1000000) (_ht : t.size ≤ 1000000) : Calls Tryz.prog 224 #[.string s, .string t] w fun e w' => e = .returned (.bool (begB s.data.toList t.data.toList)) ∧ w = w' := by
  have hls : s.data.toList.length = s.size := by simp
  have hlt : t.data.toList.length = t.size := by simp
  by_cases h : t.size ≤ s.size
  · have z : decide ((t.size : Int) ≤ (s.size : Int)) = true := decide_eq_true (by omega)
    have E : Hid (begB s.data.toList t.data.toList = ((s.extract 0 t.size).toList == t.toList)) := by
      show _ = _
      unfold begB
      rw [hls, hlt, decide_eq_true h, ByteArray.toList_eq, ByteArray.toList_eq, pre_list]
      simp
    clear hls hlt
    go_enter Tryz.func224, Tryz.ntmps224
    go_wp2_with fail
    go_ret
    exact ⟨by rw [E.out]; rfl, rfl⟩
  · have z : decide ((t.size : Int) ≤ (s.size : Int)) = false := decide_eq_false (by omega)
    have E : Hid (begB s.data.toList t.data.toList = false) := by
      show _ = _
      unfold begB
      rw [hls, hlt, decide_eq_false h]
      rfl
    clear hls hlt
    go_enter Tryz.func224, Tryz.ntmps224
    go_wp2_with fail
    go_ret
    exact ⟨by rw [E.out]; rfl, rfl⟩
def Sh.cutL (s t : List UInt8) : List UInt8 := if begB s t then s.drop t.length else s
def CutPost (s t : List UInt8) (w : World) (e : Ending) (w' : World) : Prop := ∃ r : ByteArray, e = .returned (.tuple #[.string r, .bool (begB s t)]) ∧ r.data.toList = cutL s t ∧ w = w'
theorem l_cut (s t : ByteArray) (w : World) (hs : s.size ≤ 1000000) (ht : t.size ≤ 1000000) : Calls Tryz.prog 195 #[.string s, .string t] w (CutPost s.data.toList t.data.toList w) := by
  have HP := hid (l_has s t w hs ht)
  have hls : s.data.toList.length = s.size := by simp
  have hlt : t.data.toList.length = t.size := by simp
  cases hb : begB s.data.toList t.data.toList
  · rw [hb] at HP
    have P : Hid (CutPost s.data.toList t.data.toList w (.returned (.tuple #[.string s, .bool false])) w) := ⟨s, by rw [hb], by unfold cutL; rw [hb]; rfl, rfl⟩
    clear hb hls hlt
    go_enter Tryz.func195, Tryz.ntmps195
    go_wp2_with fail
    refine HP.out.mono ?_
    rintro e w' ⟨rfl, rfl⟩
    go_wp2_with fail
    go_ret2
    exact P.out
  · rw [hb] at HP
    have hle : t.size ≤ s.size := by
      unfold begB at hb
      simp only [Bool.and_eq_true, decide_eq_true_eq] at hb
      omega
    have P : Hid (CutPost s.data.toList t.data.toList w (.returned (.tuple #[.string (s.extract t.size s.size), .bool true])) w) := ⟨_, by rw [hb], by unfold cutL; rw [hb, sub_list, hlt]; rfl, rfl⟩
    clear hb hls hlt
    go_enter Tryz.func195, Tryz.ntmps195
    go_wp2_with fail
    refine HP.out.mono ?_
    rintro e w' ⟨rfl, rfl⟩
    go_wp2_with fail
    go_ret2
    exact P.out
theorem l_cutp (s t : ByteArray) (w : World) (hs : s.size ≤ 1000000) (ht : t.size ≤ 1000000) : Calls Tryz.prog 142 #[.string s, .string t] w (CutPost s.data.toList t.data.toList w) := by
  have HP := hid (l_cut s t w hs ht)
  go_enter Tryz.func142, Tryz.ntmps142
  go_wp2_with fail
  refine HP.out.mono ?_
  rintro e w' ⟨r, rfl, hr, rfl⟩
  go_wp2_with fail
  go_ret2
  exact ⟨r, rfl, hr, rfl⟩
end Go.Proofs.YtlciofheonbkiaaGreat
/- The walk of strings.Cut at a line's end. -/
namespace Go.Proofs.YtlciofheonbkiaaGreat
set_option maxHeartbeats 8000000
set_option maxRecDepth 100000
open Go.RowKit Sh
def Sh.brkL : List UInt8 → Option (List UInt8 × List UInt8)
  | [] => none
  | c :: r => if c = 10 then some ([], r) else match brkL r with
    | none => none
    | some (a, b) => some (c :: a, b)
theorem Sh.brk_idx : ∀ l : List UInt8, (brkL l = none ∧ Lib.indexByte l 10 = -1) ∨ ∃ i : Nat, i < l.length ∧ Lib.indexByte l 10 = (i : Int) ∧ brkL l = some (l.take i, l.drop (i + 1))
  | [] => .inl ⟨rfl, rfl⟩
  | c :: r => by
    by_cases h : c = 10
    · subst h
      exact .inr ⟨0, by simp, by simp [Lib.indexByte], by simp [brkL]⟩
    · have hb : (c == 10) = false := by simpa using h
      rcases brk_idx r with ⟨h1, h2⟩ | ⟨i, h0, h1, h2⟩
      · refine .inl ⟨by simp [brkL, h, h1], ?_⟩
        simp [Lib.indexByte, hb, h2]
      · refine .inr ⟨i + 1, by simpa using h0, ?_, by simp [brkL, h, h2]⟩
        have h3 : ((i : Int) == -1) = false := beq_eq_false_iff_ne.2 (by omega)
        simp [Lib.indexByte, hb, h1, h3]
theorem l_indexByte (s : ByteArray) (c : Int) (w : World) : Calls Tryz.prog 235 #[.string s, .int .u8 c] w fun e w' => e = .returned (.int .i64 (Lib.indexByte s.data.toList c.toNat.toUInt8)) ∧ w' = w := by
  go_enter Tryz.func235, Tryz.ntmps235
  go_wp2_with fail
  rw [run_callFunc_extern Tryz.func239 (by kernel_rfl) (by kernel_rfl) (by kernel_rfl) (e := Extern.BytealgIndexByte.indexByte) (by kernel_rfl), Lib.run_indexByteString]
  simp only [Result.andThen]
  rw [Oper.upon_value]
  go_wp2_with fail
  go_ret
  exact ⟨rfl, rfl⟩
theorem l_index (s : ByteArray) (w : World) : Calls Tryz.prog 231 #[.string s, .string ⟨#[10]⟩] w fun e w' => e = .returned (.int .i64 (Lib.indexByte s.data.toList 10)) ∧ w' = w := by
  have IB := hid (fun W => l_indexByte s 10 W)
  by_cases h : s = ⟨#[10]⟩
  · subst h
    have e : Lib.indexByte ((⟨#[10]⟩ : ByteArray).data.toList) 10 = 0 := by decide
    rw [e]
    go_enter Tryz.func231, Tryz.ntmps231
    go_wp2_with fail
    go_ret
    exact ⟨rfl, rfl⟩
  · have z : (([10] : List UInt8) == s.toList) = false := by
      rw [ByteArray.toList_eq]
      refine beq_eq_false_iff_ne.2 (fun q => h ?_)
      cases s with
      | mk d => cases d with
        | mk l => simp at q; rw [← q]
    go_enter Tryz.func231, Tryz.ntmps231
    go_wp2_with fail
    refine (IB.out _).mono ?_
    rintro e w' ⟨rfl, rfl⟩
    go_wp2_with fail
    go_ret
    exact ⟨rfl, rfl⟩
def BrkPost (s : ByteArray) (w : World) (e : Ending) (w' : World) : Prop :=
  (∃ n, w' = w.drewN n) ∧ ((brkL s.data.toList = none ∧ e = .returned (.tuple #[.string s, .string ⟨#[]⟩, .bool false])) ∨
    ∃ a b : ByteArray, e = .returned (.tuple #[.string a, .string b, .bool true]) ∧ brkL s.data.toList = some (a.data.toList, b.data.toList) ∧ a.size + b.size + 1 = s.size)
theorem l_lcut (s : ByteArray) (w : World) (hs : s.size ≤ 1000000) : Calls Tryz.prog 220 #[.string s, .string ⟨#[10]⟩] w (BrkPost s w) := by
  have IX := l_index s w
  have hls : s.data.toList.length = s.size := by simp
  rcases brk_idx s.data.toList with ⟨h1, h2⟩ | ⟨i, h0, h1, h2⟩
  · rw [h2] at IX
    have IX := hid IX
    have P : Hid (BrkPost s w (.returned (.tuple #[.string s, .string ⟨#[]⟩, .bool false])) w) := ⟨⟨0, rfl⟩, .inl ⟨h1, rfl⟩⟩
    clear h1 h2 hls
    go_enter Tryz.func220, Tryz.ntmps220
    go_wp2_with fail
    refine IX.out.mono ?_
    rintro e w' ⟨rfl, rfl⟩
    go_wp2_with fail
    go_ret3
    exact P.out
  · rw [h1] at IX
    have IX := hid IX
    have hi : i < s.size := by omega
    have P : Hid (∀ n, BrkPost s w (.returned (.tuple #[.string (s.extract 0 i), .string (s.extract (i + 1) s.size), .bool true])) (w.drewN n)) := fun n =>
      ⟨⟨n, rfl⟩, .inr ⟨_, _, rfl, by rw [h2, pre_list, sub_list], by simp; omega⟩⟩
    clear h0 h1 h2 hls
    go_enter Tryz.func220, Tryz.ntmps220
    go_wp2_with fail
    refine IX.out.mono ?_
    rintro e w' ⟨rfl, rfl⟩
    go_wp2_with fail
    go_quiet (fail)
    go_wp2_with fail
    go_ret3
    exact P.out nq
theorem l_brk (s : ByteArray) (w : World) (hs : s.size ≤ 1000000) : Calls Tryz.prog 190 #[.string s, .string ⟨#[10]⟩] w (BrkPost s w) := by
  have CP := hid (l_lcut s w hs)
  go_enter Tryz.func190, Tryz.ntmps190
  go_wp2_with fail
  refine CP.out.mono ?_
  rintro e w' ⟨⟨n, rfl⟩, (⟨h, rfl⟩ | ⟨a, b, rfl, h, hz⟩)⟩
  · have P : Hid (BrkPost s w (.returned (.tuple #[.string s, .string ⟨#[]⟩, .bool false])) (w.drewN n)) := ⟨⟨n, rfl⟩, .inl ⟨h, rfl⟩⟩
    clear h CP
    go_wp2_with fail
    go_ret3
    exact P.out
  · have P : Hid (BrkPost s w (.returned (.tuple #[.string a, .string b, .bool true])) (w.drewN n)) := ⟨⟨n, rfl⟩, .inr ⟨a, b, rfl, h, hz⟩⟩
    clear h CP hz
    go_wp2_with fail
    go_ret3
    exact P.out
end Go.Proofs.YtlciofheonbkiaaGreat
/- The walk of the closure that reads the next number of a line. -/
namespace Go.Proofs.YtlciofheonbkiaaGreat
set_option maxHeartbeats 8000000
set_option maxRecDepth 100000
open Go.RowKit Sh
theorem Sh.numL_size : ∀ (l : List UInt8) (n k a b : Nat), numL n k l = some (a, b) → b ≤ k + l.length
  | [], n, k, a, b => by
    intro h
    obtain ⟨rfl, rfl⟩ : n = a ∧ k = b := by simpa [numL] using h
    simp
  | c :: r, n, k, a, b => by
    intro h
    rw [numL] at h
    split at h
    · split at h
      · cases h
      · have := numL_size r _ _ a b h
        simp only [List.length_cons]; omega
    · obtain ⟨rfl, rfl⟩ : n = a ∧ k = b := by simpa using h
      simp
theorem Sh.numV_size (l : List UInt8) : (numV l).2.1 ≤ l.length := by
  unfold numV
  cases h : numL 0 0 l with
  | none => exact Nat.zero_le _
  | some x =>
    obtain ⟨a, b⟩ := x
    have := numL_size l 0 0 a b h
    simp only
    split
    · exact Nat.zero_le _
    · simp only; omega
theorem Sh.numV_bd (l : List UInt8) : (numV l).1 ≤ 9223372036854775807 := by
  have key : ∀ (l : List UInt8) (n k a b : Nat), n ≤ 9223372036854775807 → numL n k l = some (a, b) → a ≤ 9223372036854775807 := by
    intro l
    induction l with
    | nil =>
      intro n k a b hn h
      obtain ⟨rfl, rfl⟩ : n = a ∧ k = b := by simpa [numL] using h
      exact hn
    | cons c r ih =>
      intro n k a b hn h
      rw [numL] at h
      split at h
      · split at h
        · cases h
        · exact ih _ _ a b (by omega) h
      · obtain ⟨rfl, rfl⟩ : n = a ∧ k = b := by simpa using h
        exact hn
  unfold numV
  cases h : numL 0 0 l with
  | none => exact Nat.zero_le _
  | some x =>
    obtain ⟨a, b⟩ := x
    have := key l 0 0 a b (by omega) h
    simp only
    split
    · exact Nat.zero_le _
    · exact this
def Sh.nextV (left t : List UInt8) : Nat := (numV (cutL left t)).1
def Sh.nextL (left t : List UInt8) : List UInt8 := (cutL left t).drop (numV (cutL left t)).2.1
def Sh.nextB (left t : List UInt8) (ok : Bool) : Bool := ok && begB left t && (numV (cutL left t)).2.2
def NextPost (b6 b5 : Nat) (left t : List UInt8) (ok : Bool) (w : World) (e : Ending) (w' : World) : Prop :=
  e = .returned (.int .i64 (nextV left t : Nat)) ∧ (∃ r : ByteArray, Blk w' b6 #[.string r] 9 ∧ r.data.toList = nextL left t ∧ r.size ≤ left.length) ∧ Blk w' b5 #[.bool (nextB left t ok)] 4 ∧ Tch b6 b5 w w'
theorem Sh.cut_len (s t : List UInt8) : (cutL s t).length ≤ s.length := by
  unfold cutL
  split
  · rw [List.length_drop]; omega
  · exact nlr
theorem l_next {w : World} {b6 b5 : Nat} {s : ByteArray} {ok : Bool} (X : Blk w b6 #[.string s] 9) (Y : Blk w b5 #[.bool ok] 4) (hne : b6 ≠ b5) (t : ByteArray) (hs : s.size ≤ 1000000) (ht : t.size ≤ 1000000) :
    Calls Tryz.prog 221 #[.string t, .pointer (some ⟨b6, 0, none⟩), .pointer (some ⟨b5, 0, none⟩)] w (NextPost b6 b5 s.data.toList t.data.toList ok w) := by
  have CP := hid (l_cutp s t w hs ht)
  have c6 : w.cell? ⟨b6, 0, none⟩ = some (.string s) := X.cell 0
  have c5 : w.cell? ⟨b5, 0, none⟩ = some (.bool ok) := Y.cell 0
  have f6 := X.free 0
  have f5 := Y.free 0
  have hls : s.data.toList.length = s.size := by simp
  go_enter Tryz.func221, Tryz.ntmps221
  go_wp2_with fail
  refine CP.out.mono ?_
  rintro e w' ⟨r, rfl, hr, rfl⟩
  have hcl := cut_len s.data.toList t.data.toList
  rw [← hr] at hcl
  have hlr : r.data.toList.length = r.size := by simp
  have hrs : r.size ≤ s.size := by omega
  have NB := hid (s_number r w (by omega))
  clear CP
  go_wp2_with fail
  refine NB.out.mono ?_
  rintro e w' ⟨rfl, rfl⟩
  have hsz := numV_size r.data.toList
  have hbd := numV_bd r.data.toList
  obtain ⟨x, ex⟩ : ∃ x, (numV r.data.toList).1 = x := ⟨_, rfl⟩
  obtain ⟨z, ez⟩ : ∃ z, (numV r.data.toList).2.1 = z := ⟨_, rfl⟩
  obtain ⟨h, eh⟩ : ∃ h, (numV r.data.toList).2.2 = h := ⟨_, rfl⟩
  rw [ez, hlr] at hsz
  rw [ex] at hbd
  rw [ex, ez, eh]
  obtain ⟨isb, ei⟩ : ∃ b, begB s.data.toList t.data.toList = b := ⟨_, rfl⟩
  rw [ei]
  have X2 := (X.set_other (g' := b5) 0 (.bool (ok && isb && h)) hne).set 0 (.string (r.extract z r.size))
  have Y2 := (Y.set 0 (.bool (ok && isb && h))).set_other (g' := b6) 0 (.string (r.extract z r.size)) (fun e => hne e.symm)
  have q6 : (w.setCell ⟨b5, 0, none⟩ (.bool (ok && isb && h))).cell? ⟨b6, 0, none⟩ = some (.string s) := (X.set_other (g' := b5) 0 (.bool (ok && isb && h)) hne).cell 0
  have P : Hid (NextPost b6 b5 s.data.toList t.data.toList ok w (.returned (.int .i64 x)) ((w.setCell ⟨b5, 0, none⟩ (.bool (ok && isb && h))).setCell ⟨b6, 0, none⟩ (.string (r.extract z r.size)))) := by
    refine ⟨?_, ⟨_, X2, ?_, ?_⟩, ?_, ((Tch.set2 w 0 _).trans (Tch.set1 _ 0 _))⟩
    · unfold nextV; rw [← hr, ex]
    · unfold nextL; rw [← hr, ez, sub_list]
    · simp; omega
    · unfold nextB; rw [← hr, eh, ei]; exact Y2
  clear X Y X2 Y2 hr ex ez eh ei NB hls hlr hcl
  cases ok <;> cases isb <;> cases h
  all_goals
    go_wp2_with fail
    go_ret
    exact P.out
end Go.Proofs.YtlciofheonbkiaaGreat
/- The walk of sheet.three. -/
namespace Go.Proofs.YtlciofheonbkiaaGreat
set_option maxHeartbeats 8000000
set_option maxRecDepth 100000
open Go.RowKit Sh
def Sh.thrB (s t0 t1 t2 : List UInt8) : Bool := nextB (nextL (nextL s t0) t1) t2 (nextB (nextL s t0) t1 (nextB s t0 true)) && (nextL (nextL (nextL s t0) t1) t2).isEmpty
def Sh.thr0 (s t0 : List UInt8) : Nat := nextV s t0
def Sh.thr1 (s t0 t1 : List UInt8) : Nat := nextV (nextL s t0) t1
def Sh.thr2 (s t0 t1 t2 : List UInt8) : Nat := nextV (nextL (nextL s t0) t1) t2
def ThrSt (w wr : World) (n0 n1 n2 : Int) (ok : Bool) (left : List UInt8) (N : Nat) (ga : Nat) (t0 t1 t2 : ByteArray) : Prop :=
  Blk wr w.heap.size #[.int .i64 n0, .int .i64 n1, .int .i64 n2] 243 ∧ Blk wr (w.heap.size + 1) #[.bool ok] 4 ∧ (∃ r : ByteArray, Blk wr (w.heap.size + 1 + 1) #[.string r] 9 ∧ r.data.toList = left ∧ r.size ≤ N) ∧ Blk wr ga #[.string t0, .string t1, .string t2] 9 ∧ Below w.heap.size w wr
def ThrRel (w : World) (s : ByteArray) (ga : Nat) (t0 t1 t2 : ByteArray) (gn : Nat) (i : Value) (wr : World) : Prop :=
  (i = .int .i64 0 ∧ 3 ≤ gn ∧ ThrSt w wr 0 0 0 true s.data.toList s.size ga t0 t1 t2) ∨
  (i = .int .i64 1 ∧ 2 ≤ gn ∧ ThrSt w wr (thr0 s.data.toList t0.data.toList : Nat) 0 0 (nextB s.data.toList t0.data.toList true) (nextL s.data.toList t0.data.toList) s.size ga t0 t1 t2) ∨
  (i = .int .i64 2 ∧ 1 ≤ gn ∧ ThrSt w wr (thr0 s.data.toList t0.data.toList : Nat) (thr1 s.data.toList t0.data.toList t1.data.toList : Nat) 0 (nextB (nextL s.data.toList t0.data.toList) t1.data.toList (nextB s.data.toList t0.data.toList true)) (nextL (nextL s.data.toList t0.data.toList) t1.data.toList) s.size ga t0 t1 t2) ∨
  (i = .int .i64 3 ∧ ThrSt w wr (thr0 s.data.toList t0.data.toList : Nat) (thr1 s.data.toList t0.data.toList t1.data.toList : Nat) (thr2 s.data.toList t0.data.toList t1.data.toList t2.data.toList : Nat) (nextB (nextL (nextL s.data.toList t0.data.toList) t1.data.toList) t2.data.toList (nextB (nextL s.data.toList t0.data.toList) t1.data.toList (nextB s.data.toList t0.data.toList true))) (nextL (nextL (nextL s.data.toList t0.data.toList) t1.data.toList) t2.data.toList) s.size ga t0 t1 t2)
theorem ret_three {R : Ending → World → Prop} {tmps : Array Value} {W : World} {g : Nat} {n0 n1 n2 : Int} {b : Bool} (A : Blk W g #[.int .i64 n0, .int .i64 n1, .int .i64 n2] 243) (Y : Blk W (g + 1) #[.bool b] 4) (h4 : tmps.getD 4 undef = .pointer (some ⟨g, 0, none⟩)) (h5 : tmps.getD 5 undef = .pointer (some ⟨g + 1, 0, none⟩)) (hR : R (.returned (.tuple #[.agg #[.int .i64 n0, .int .i64 n1, .int .i64 n2], .bool b])) W) :
    bodyPost Tryz.prog Tryz.f191 R .ret ⟨tmps, []⟩ W := by
  refine bodyPost_ret (v := .tuple #[.agg #[.int .i64 n0, .int .i64 n1, .int .i64 n2], .bool b]) ?_ rfl hR
  have y0 : W.cell? ⟨g + 1, 0, none⟩ = some (.bool b) := Y.cell 0
  have a0 : W.cell? ⟨g, 0, none⟩ = some (.int .i64 n0) := A.cell 0
  have a1 : W.cell? ⟨g, 1, none⟩ = some (.int .i64 n1) := A.cell 1
  have a2 : W.cell? ⟨g, 2, none⟩ = some (.int .i64 n2) := A.cell 2
  have h4' : tmps[4]?.getD undef = .pointer (some ⟨g, 0, none⟩) := by simpa using h4
  have h5' : tmps[5]?.getD undef = .pointer (some ⟨g + 1, 0, none⟩) := by simpa using h5
  simp [results, Tryz.results191, h4', h5', go_sem, y0, a0, a1, a2]
theorem ThrSt.step {w wr : World} {n0 n1 n2 : Int} {ok : Bool} {left : List UInt8} {N ga : Nat} {t0 t1 t2 : ByteArray} (h : ThrSt w wr n0 n1 n2 ok left N ga t0 t1 t2) (hN : N ≤ 1000000) (hga : ga < w.heap.size) (t : ByteArray) (ht : t.size ≤ 1000000) :
    Calls Tryz.prog 221 #[.string t, .pointer (some ⟨w.heap.size + 1 + 1, 0, none⟩), .pointer (some ⟨w.heap.size + 1, 0, none⟩)] wr fun e w' => e = .returned (.int .i64 (nextV left t.data.toList : Nat)) ∧ ThrSt w w' n0 n1 n2 (nextB left t.data.toList ok) (nextL left t.data.toList) N ga t0 t1 t2 := by
  obtain ⟨A, Y, ⟨r, X, hr, hrN⟩, G, hb⟩ := h
  refine (l_next X Y (by omega) t (by omega) ht).mono ?_
  rintro e w' ⟨rfl, ⟨r', X', hr', hrn⟩, Y', tc⟩
  have hrl : r.data.toList.length = r.size := by simp
  rw [hr] at hr' Y'
  refine ⟨by rw [hr], A.tch tc (by omega) (by omega), Y', ⟨r', X', hr', by omega⟩, G.tch tc (by omega) (by omega), hb.trans (tc.below (by omega) (by omega) hb.size)⟩
theorem ThrSt.put {w wr : World} {n0 n1 n2 : Int} {ok : Bool} {left : List UInt8} {N ga : Nat} {t0 t1 t2 : ByteArray} (h : ThrSt w wr n0 n1 n2 ok left N ga t0 t1 t2) (hga : ga < w.heap.size) (j : Nat) (u : Int) :
    ThrSt w (wr.setCell ⟨w.heap.size, j, none⟩ (.int .i64 u)) (if j = 0 then u else n0) (if j = 1 then u else n1) (if j = 2 then u else n2) ok left N ga t0 t1 t2 := by
  obtain ⟨A, Y, ⟨r, X, hr, hrN⟩, G, hb⟩ := h
  refine ⟨?_, Y.set_other j _ (by omega), ⟨r, X.set_other j _ (by omega), hr, hrN⟩, G.set_other j _ (by omega), hb.setCell (p := ⟨w.heap.size, j, none⟩) nlr _⟩
  have A2 := A.set j (.int .i64 u)
  match j, A2 with
  | 0, A2 => exact A2
  | 1, A2 => exact A2
  | 2, A2 => exact A2
  | j + 3, A2 => simpa using A2
theorem l_three {w : World} {ga : Nat} {s t0 t1 t2 : ByteArray} (G : Blk w ga #[.string t0, .string t1, .string t2] 9) (hs : s.size ≤ 1000000) (h0 : t0.size ≤ 100) (h1 : t1.size ≤ 100) (h2 : t2.size ≤ 100) :
    Calls Tryz.prog 191 #[.string s, .slice (some ⟨ga, 0, none⟩) 3 3] w fun e w' => e = .returned (.tuple #[.agg #[.int .i64 (thr0 s.data.toList t0.data.toList : Nat), .int .i64 (thr1 s.data.toList t0.data.toList t1.data.toList : Nat), .int .i64 (thr2 s.data.toList t0.data.toList t1.data.toList t2.data.toList : Nat)], .bool (thrB s.data.toList t0.data.toList t1.data.toList t2.data.toList)]) ∧ Below w.heap.size w w' := by
  have hga := G.lt
  go_enter Tryz.func191, Tryz.ntmps191
  go_upto_region 4 with fail
  have A1 := ((Blk.new w #[.int .i64 0, .int .i64 0, .int .i64 0] 243).alloc (.cells #[.bool true] 4)).alloc (.cells #[.string s] 9)
  have Y1 := (Blk.new (w.alloc (.cells #[.int .i64 0, .int .i64 0, .int .i64 0] 243)) #[.bool true] 4).alloc (.cells #[.string s] 9)
  have X1 := Blk.new ((w.alloc (.cells #[.int .i64 0, .int .i64 0, .int .i64 0] 243)).alloc (.cells #[.bool true] 4)) #[.string s] 9
  simp only [World.size_alloc] at Y1 X1
  have hb1 : Below w.heap.size w (((w.alloc (.cells #[.int .i64 0, .int .i64 0, .int .i64 0] 243)).alloc (.cells #[.bool true] 4)).alloc (.cells #[.string s] 9)) := (((Below.refl _ _).alloc nlr _).alloc (by simp) _).alloc (by simp only [World.size_alloc]; omega) _
  have R0 : Hid (ThrRel w s ga t0 t1 t2 3 (.int .i64 0) (((w.alloc (.cells #[.int .i64 0, .int .i64 0, .int .i64 0] 243)).alloc (.cells #[.bool true] 4)).alloc (.cells #[.string s] 9))) := .inl ⟨rfl, nlr, A1, Y1, ⟨s, X1, rfl, nlr⟩, G.below hb1 nlr, hb1⟩
  clear A1 Y1 X1 hb1 G
  generalize (((w.alloc (.cells #[.int .i64 0, .int .i64 0, .int .i64 0] 243)).alloc (.cells #[.bool true] 4)).alloc (.cells #[.string s] 9)) = w3 at *
  go_wp2_with fail
  go_loopg [14] 3 (fun gn i wr => ThrRel w s ga t0 t1 t2 gn i wr)
  case atStart => exact R0.out
  case round =>
    clear R0
    rcases hrel with ⟨rfl, hgn, T⟩ | ⟨rfl, hgn, T⟩ | ⟨rfl, hgn, T⟩ | ⟨rfl, T⟩
    · have S1 := hid (T.step hs hga t0 (by omega))
      have g0 : wr.cell? ⟨ga, 0, none⟩ = some (.string t0) := T.2.2.2.1.cell 0
      clear T
      go_wp2_with fail
      refine S1.out.mono ?_
      rintro e w4 ⟨rfl, T4⟩
      have z0 : w4.cell? ⟨w.heap.size, 0, none⟩ = some (.int .i64 0) := T4.1.cell 0
      have f0 := T4.1.free 0
      have T2 := T4.put hga 0 (nextV s.data.toList t0.data.toList : Nat)
      have T2 := hid T2
      clear S1 T4 g0
      go_wp2_with fail
      go_roundg 2
      case rel => exact .inr (.inl ⟨by go_num, by omega, T2.out⟩)
      case measure => omega
    · have S1 := hid (T.step hs hga t1 (by omega))
      have g1 : wr.cell? ⟨ga, 1, none⟩ = some (.string t1) := T.2.2.2.1.cell 1
      clear T
      go_wp2_with fail
      refine S1.out.mono ?_
      rintro e w4 ⟨rfl, T4⟩
      have z1 : w4.cell? ⟨w.heap.size, 1, none⟩ = some (.int .i64 0) := T4.1.cell 1
      have f1 := T4.1.free 1
      have T2 := T4.put hga 1 (nextV (nextL s.data.toList t0.data.toList) t1.data.toList : Nat)
      have T2 := hid T2
      clear S1 T4 g1
      go_wp2_with fail
      go_roundg 1
      case rel => exact .inr (.inr (.inl ⟨by go_num, by omega, T2.out⟩))
      case measure => omega
    · have S1 := hid (T.step hs hga t2 (by omega))
      have g2 : wr.cell? ⟨ga, 2, none⟩ = some (.string t2) := T.2.2.2.1.cell 2
      clear T
      go_wp2_with fail
      refine S1.out.mono ?_
      rintro e w4 ⟨rfl, T4⟩
      have z2 : w4.cell? ⟨w.heap.size, 2, none⟩ = some (.int .i64 0) := T4.1.cell 2
      have f2 := T4.1.free 2
      have T2 := T4.put hga 2 (nextV (nextL (nextL s.data.toList t0.data.toList) t1.data.toList) t2.data.toList : Nat)
      have T2 := hid T2
      clear S1 T4 g2
      go_wp2_with fail
      go_roundg 0
      case rel => exact .inr (.inr (.inr ⟨by go_num, T2.out⟩))
      case measure => omega
    · obtain ⟨A, Y, ⟨r, X, hr, hrN⟩, -, hb⟩ := T
      obtain ⟨N0, e0⟩ : ∃ x, thr0 s.data.toList t0.data.toList = x := ⟨_, rfl⟩
      obtain ⟨N1, e1⟩ : ∃ x, thr1 s.data.toList t0.data.toList t1.data.toList = x := ⟨_, rfl⟩
      obtain ⟨N2, e2⟩ : ∃ x, thr2 s.data.toList t0.data.toList t1.data.toList t2.data.toList = x := ⟨_, rfl⟩
      have eB : thrB s.data.toList t0.data.toList t1.data.toList t2.data.toList = (nextB (nextL (nextL s.data.toList t0.data.toList) t1.data.toList) t2.data.toList (nextB (nextL s.data.toList t0.data.toList) t1.data.toList (nextB s.data.toList t0.data.toList true)) && r.toList.isEmpty) := by
        unfold thrB; rw [← hr, ByteArray.toList_eq]
      obtain ⟨ok, eok⟩ : ∃ x, nextB (nextL (nextL s.data.toList t0.data.toList) t1.data.toList) t2.data.toList (nextB (nextL s.data.toList t0.data.toList) t1.data.toList (nextB s.data.toList t0.data.toList true)) = x := ⟨_, rfl⟩
      rw [e0, e1, e2] at A
      rw [eok] at Y eB
      have EQ := hid (And.intro e0 (And.intro e1 (And.intro e2 eB)))
      have a0 : wr.cell? ⟨w.heap.size, 0, none⟩ = some (.int .i64 N0) := A.cell 0
      have a1 : wr.cell? ⟨w.heap.size, 1, none⟩ = some (.int .i64 N1) := A.cell 1
      have a2 : wr.cell? ⟨w.heap.size, 2, none⟩ = some (.int .i64 N2) := A.cell 2
      have y0 : wr.cell? ⟨w.heap.size + 1, 0, none⟩ = some (.bool ok) := Y.cell 0
      have x0 : wr.cell? ⟨w.heap.size + 1 + 1, 0, none⟩ = some (.string r) := X.cell 0
      have fa0 := A.free 0
      have fa1 := A.free 1
      have fa2 := A.free 2
      have fy := Y.free 0
      clear e0 e1 e2 eB eok hr hrN X
      have PA0 := fun b : Bool => hid (show Blk ((((wr.setCell ⟨w.heap.size, 0, none⟩ (.int .i64 N0)).setCell ⟨w.heap.size, 1, none⟩ (.int .i64 N1)).setCell ⟨w.heap.size, 2, none⟩ (.int .i64 N2)).setCell ⟨w.heap.size + 1, 0, none⟩ (.bool b)).drew w.heap.size #[.int .i64 N0, .int .i64 N1, .int .i64 N2] 243 ∧ Blk ((((wr.setCell ⟨w.heap.size, 0, none⟩ (.int .i64 N0)).setCell ⟨w.heap.size, 1, none⟩ (.int .i64 N1)).setCell ⟨w.heap.size, 2, none⟩ (.int .i64 N2)).setCell ⟨w.heap.size + 1, 0, none⟩ (.bool b)).drew (w.heap.size + 1) #[.bool b] 4 ∧ Below w.heap.size w ((((wr.setCell ⟨w.heap.size, 0, none⟩ (.int .i64 N0)).setCell ⟨w.heap.size, 1, none⟩ (.int .i64 N1)).setCell ⟨w.heap.size, 2, none⟩ (.int .i64 N2)).setCell ⟨w.heap.size + 1, 0, none⟩ (.bool b)).drew from
        ⟨((((A.set 0 (.int .i64 N0)).set 1 (.int .i64 N1)).set 2 (.int .i64 N2)).set_other (g' := w.heap.size + 1) 0 (.bool b) (by omega)).drewN 1, ((((Y.set_other (g' := w.heap.size) 0 (.int .i64 N0) (by omega)).set_other (g' := w.heap.size) 1 (.int .i64 N1) (by omega)).set_other (g' := w.heap.size) 2 (.int .i64 N2) (by omega)).set 0 (.bool b)).drewN 1, below_drewN ((((hb.setCell (p := ⟨w.heap.size, 0, none⟩) nlr _).setCell (p := ⟨w.heap.size, 1, none⟩) nlr _).setCell (p := ⟨w.heap.size, 2, none⟩) nlr _).setCell (p := ⟨w.heap.size + 1, 0, none⟩) (Nat.le_succ _) _) 1⟩)
      obtain ⟨BB, eBB⟩ : ∃ BB : Bool, (ok && r.toList.isEmpty) = BB := ⟨_, rfl⟩
      have PA := PA0 BB
      cases ok
      all_goals
        simp only [Bool.false_and, Bool.true_and] at eBB
        subst eBB
        go_wp2_with fail
        go_region
        all_goals
          go_wp2_with fail
          refine ret_three PA.out.1 PA.out.2.1 ?_ ?_ ?_
          · rfl
          · rfl
          · exact ⟨by rw [EQ.out.1, EQ.out.2.1, EQ.out.2.2.1, EQ.out.2.2.2]; simp, PA.out.2.2⟩
end Go.Proofs.YtlciofheonbkiaaGreat
/- The walk of reading.head. -/
namespace Go.Proofs.YtlciofheonbkiaaGreat
set_option maxHeartbeats 8000000
set_option maxRecDepth 100000
open Go.RowKit Nl Sh
def Sh.tDig : List UInt8 := [100, 105, 103, 101, 115, 116, 32]
def Sh.headOk (s : List UInt8) : Bool := thrB s tDig [32] [32] && rightB (thr0 s tDig : Nat) 1 && decide (1 ≤ thr1 s tDig [32]) && decide (thr1 s tDig [32] ≤ 1048576) && decide (thr2 s tDig [32] [32] ≤ 72057594037927935)
theorem l_head {w : World} {rb : Nat} {L K kind left : Int} {v : Value} (X : Blk w rb #[.int .i64 L, .int .i64 K, .int .i64 kind, .int .i64 left, v] 188) (s : ByteArray) (hs : s.size ≤ 1000000) :
    Calls Tryz.prog 134 #[.pointer (some ⟨rb, 0, none⟩), .string s] w fun e w' => e = .returned (.bool (headOk s.data.toList)) ∧
      Blk w' rb #[.int .i64 (thr0 s.data.toList tDig : Nat), .int .i64 (thr1 s.data.toList tDig [32] : Nat), .int .i64 kind, .int .i64 (thr2 s.data.toList tDig [32] [32] : Nat), v] 188 ∧ Tch rb rb w w' := by
  have hrb := X.lt
  have G1 := Blk.new w #[.string ⟨#[100, 105, 103, 101, 115, 116, 32]⟩, .string ⟨#[32]⟩, .string ⟨#[32]⟩] 9
  have X1 := X.alloc (.cells #[.string ⟨#[100, 105, 103, 101, 115, 116, 32]⟩, .string ⟨#[32]⟩, .string ⟨#[32]⟩] 9)
  have hb1 : Below w.heap.size w (w.alloc (.cells #[.string ⟨#[100, 105, 103, 101, 115, 116, 32]⟩, .string ⟨#[32]⟩, .string ⟨#[32]⟩] 9)) := (Below.refl _ _).alloc nlr _
  have TH := l_three (s := s) G1 hs (by decide) (by decide) (by decide)
  have e0 : (⟨#[100, 105, 103, 101, 115, 116, 32]⟩ : ByteArray).data.toList = tDig := rfl
  have e1 : (⟨#[32]⟩ : ByteArray).data.toList = [32] := rfl
  rw [e0, e1] at TH
  replace TH := hid TH
  have B0 : thr0 s.data.toList tDig ≤ 9223372036854775807 := numV_bd _
  have B1 : thr1 s.data.toList tDig [32] ≤ 9223372036854775807 := numV_bd _
  have B2 : thr2 s.data.toList tDig [32] [32] ≤ 9223372036854775807 := numV_bd _
  have eH : Hid (headOk s.data.toList = (thrB s.data.toList tDig [32] [32] && rightB (thr0 s.data.toList tDig : Nat) 1 && decide (1 ≤ thr1 s.data.toList tDig [32]) && decide (thr1 s.data.toList tDig [32] ≤ 1048576) && decide (thr2 s.data.toList tDig [32] [32] ≤ 72057594037927935))) := rfl
  generalize thr0 s.data.toList tDig = N0 at *
  generalize thr1 s.data.toList tDig [32] = N1 at *
  generalize thr2 s.data.toList tDig [32] [32] = N2 at *
  generalize thrB s.data.toList tDig [32] [32] = TB at *
  clear e0 e1
  go_enter Tryz.func134, Tryz.ntmps134
  go_wp2_with fail
  refine TH.out.mono ?_
  rintro e w2 ⟨rfl, hb2⟩
  have hs2 := hb2.size
  have hs1 := hb1.size
  have X2 := (X1.below hb2 nlr).alloc (.cells #[.int .i64 N0, .int .i64 N1, .int .i64 N2] 243)
  have A2 := Blk.new w2 #[.int .i64 N0, .int .i64 N1, .int .i64 N2] 243
  have hbw2 := (hb1.trans (hb2.mono hb1.size)).alloc (hb1.trans (hb2.mono hb1.size)).size (.cells #[.int .i64 N0, .int .i64 N1, .int .i64 N2] 243)
  have hne : rb ≠ w2.heap.size := by omega
  clear X X1 G1 hb2 TH
  go_upto_region 2 with fail
  generalize (w2.alloc (.cells #[.int .i64 N0, .int .i64 N1, .int .i64 N2] 243)) = w3 at *
  go_cut [4] (fun _ wx => Blk wx rb #[.int .i64 N0, .int .i64 N1, .int .i64 kind, .int .i64 N2, v] 188 ∧ Tch rb rb w3 wx)
  case first =>
    have a0 : w3.cell? ⟨w2.heap.size, 0, none⟩ = some (.int .i64 N0) := A2.cell 0
    have a1 : w3.cell? ⟨w2.heap.size, 1, none⟩ = some (.int .i64 N1) := A2.cell 1
    have a2 : w3.cell? ⟨w2.heap.size, 2, none⟩ = some (.int .i64 N2) := A2.cell 2
    have x0 : w3.cell? ⟨rb, 0, none⟩ = some (.int .i64 L) := X2.cell 0
    have x1 : w3.cell? ⟨rb, 1, none⟩ = some (.int .i64 K) := X2.cell 1
    have x3 : w3.cell? ⟨rb, 3, none⟩ = some (.int .i64 left) := X2.cell 3
    have g0 := X2.free 0
    have g1 := X2.free 1
    have g3 := X2.free 3
    go_region_with (fail)
    all_goals
      go_wp2_with fail
      go_meet
      exact ⟨(((X2.set 0 (.int .i64 N0)).set 1 (.int .i64 N1)).set 3 (.int .i64 N2)).drewN 1, (((Tch.set1 w3 0 _).trans (Tch.set1 _ 1 _)).trans (Tch.set1 _ 3 _)).drewN 1⟩
  case rest =>
    obtain ⟨XR, tc⟩ := hcut
    obtain ⟨w4, rfl⟩ : ∃ x, x = wc := ⟨_, rfl⟩
    have tcw : Tch rb rb w w4 := (Tch.of_below hbw2).trans tc
    have r0 : w4.cell? ⟨rb, 0, none⟩ = some (.int .i64 N0) := XR.cell 0
    have r1 : w4.cell? ⟨rb, 1, none⟩ = some (.int .i64 N1) := XR.cell 1
    have r3 : w4.cell? ⟨rb, 3, none⟩ = some (.int .i64 N2) := XR.cell 3
    have RT := hid (twig_right (N0 : Int) 1 w4 (by omega) (by omega) (by decide) (by decide))
    have P : Hid (Blk w4 rb #[.int .i64 N0, .int .i64 N1, .int .i64 kind, .int .i64 N2, v] 188 ∧ Tch rb rb w w4) := ⟨XR, tcw⟩
    clear XR tcw tc X2 A2 hbw2 hb1
    cases TB
    · go_wp2_with fail
      go_ret
      exact ⟨by rw [eH.out]; rfl, P.out⟩
    · cases hrb1 : rightB (N0 : Int) 1
      · rw [hrb1] at RT eH
        clear hrb1
        go_wp2_with fail
        refine RT.out.mono ?_
        rintro e w' ⟨rfl, rfl⟩
        go_wp2_with fail
        go_ret
        exact ⟨by rw [eH.out]; rfl, P.out⟩
      · rw [hrb1] at RT eH
        clear hrb1
        rcases (show decide (1 ≤ N1) = false ∨ (decide (1 ≤ N1) = true ∧ decide (N1 ≤ 1048576) = false) ∨ (decide (1 ≤ N1) = true ∧ decide (N1 ≤ 1048576) = true) by cases decide (1 ≤ N1) <;> cases decide (N1 ≤ 1048576) <;> simp) with h1 | ⟨h1, h2⟩ | ⟨h1, h2⟩
        · have eH2 : Hid (headOk s.data.toList = false) := by show _ = _; rw [eH.out, h1]; rfl
          have z1 : decide ((1 : Int) ≤ (N1 : Int)) = false := by simp at h1 ⊢; omega
          clear h1 eH
          go_wp2_with fail
          refine RT.out.mono ?_
          rintro e w' ⟨rfl, rfl⟩
          go_wp2_with fail
          go_ret
          exact ⟨by rw [eH2.out]; rfl, P.out⟩
        · have eH2 : Hid (headOk s.data.toList = false) := by show _ = _; rw [eH.out, h1, h2]; rfl
          have z1 : decide ((1 : Int) ≤ (N1 : Int)) = true := by simp at h1 ⊢; omega
          have z2 : decide ((N1 : Int) ≤ 1048576) = false := by simp at h2 ⊢; omega
          clear h1 h2 eH
          go_wp2_with fail
          refine RT.out.mono ?_
          rintro e w' ⟨rfl, rfl⟩
          go_wp2_with fail
          go_ret
          exact ⟨by rw [eH2.out]; rfl, P.out⟩
        · have eH2 : Hid (headOk s.data.toList = decide ((N2 : Int) ≤ 72057594037927935)) := by
            show _ = _
            rw [eH.out, h1, h2]
            simp
            omega
          have z1 : decide ((1 : Int) ≤ (N1 : Int)) = true := by simp at h1 ⊢; omega
          have z2 : decide ((N1 : Int) ≤ 1048576) = true := by simp at h2 ⊢; omega
          clear h1 h2 eH
          go_wp2_with fail
          refine RT.out.mono ?_
          rintro e w' ⟨rfl, rfl⟩
          go_wp2_with fail
          go_ret
          exact ⟨by rw [eH2.out]; rfl, P.out⟩
end Go.Proofs.YtlciofheonbkiaaGreat
