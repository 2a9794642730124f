/- Texts laid together. -/
import Derived.Test.YtdnlejboijkcfaaGreatDoorP01
import Derived.Deep.AppendLies
import Derived.Laws.IdiomStrings
import Derived.Laws.BytesArg
import Derived.Deep.LoopGhost
import Derived.Laws.BitsAllLaws
import Derived.Test.YtdnlejboijkcfaaGreatDoorP02
import Derived.Test.YtdnlejboijkcfaaGreatDoorP04
/- Texts laid together: VyMath, Nu, Nu2, Wr1, Wr2, Wr3, Wr4. -/
/- Numbers as bytes, seven bits each; sums of bytes; a digest's bytes (no program in sight). -/
namespace Go.Proofs.YtdnlejboijkcfaaGreatDoor
set_option maxHeartbeats 8000000
set_option maxRecDepth 100000
namespace Vy
def vyL (n : Nat) : List UInt8 := if _h : n < 128 then [UInt8.ofNat n] else UInt8.ofNat (128 + n % 128) :: vyL (n / 128)
termination_by n
decreasing_by omega
theorem vy_low {n : Nat} (h : n < 128) : vyL n = [UInt8.ofNat n] := by rw [vyL]; rw [dif_pos h]
theorem vy_big {n : Nat} (h : ¬ n < 128) : vyL n = UInt8.ofNat (128 + n % 128) :: vyL (n / 128) := by rw [vyL]; rw [dif_neg h]
theorem vy_len (k : Nat) : ∀ n : Nat, n < 128 ^ (k + 1) → (vyL n).length ≤ k + 1 := by
  induction k with
  | zero => intro n h; rw [vy_low (by simpa using h)]; simp
  | succ k ih =>
    intro n h
    by_cases h1 : n < 128
    · rw [vy_low h1]; simp
    · rw [vy_big h1, List.length_cons]
      have := ih (n / 128) (by rw [Nat.pow_succ] at h; omega)
      omega
theorem vy_len9 {n : Nat} (h : n ≤ 9223372036854775807) : (vyL n).length ≤ 9 := vy_len 8 n (by omega)
theorem of_low {n : Nat} (h : n < 256) : (UInt8.ofNat n).toNat = n := by simp [UInt8.toNat_ofNat']; omega
def lastI (l : List Int) : Nat → Int
  | 0 => 0
  | j + 1 => l.getD j 0
def gapsL (l : List Int) : Nat → List UInt8
  | 0 => []
  | j + 1 => gapsL l j ++ vyL (l.getD j 0 - lastI l j).toNat
def wsL (l : List Int) : Nat → List UInt8
  | 0 => []
  | j + 1 => wsL l j ++ vyL (l.getD j 0).toNat
theorem ws_len {l : List Int} (h : ∀ j, l.getD j 0 ≤ 9223372036854775807) : ∀ j, (wsL l j).length ≤ 9 * j := by
  intro j
  induction j with
  | zero => simp [wsL]
  | succ j ih =>
    simp only [wsL, List.length_append]
    have := vy_len9 (n := (l.getD j 0).toNat) (by have := h j; omega)
    omega
theorem gaps_len {l : List Int} (h : ∀ j, l.getD j 0 ≤ 9223372036854775807) (hp : ∀ j, 0 ≤ l.getD j 0) : ∀ j, (gapsL l j).length ≤ 9 * j := by
  intro j
  induction j with
  | zero => simp [gapsL]
  | succ j ih =>
    simp only [gapsL, List.length_append]
    have := vy_len9 (n := (l.getD j 0 - lastI l j).toNat) (by
      have h1 := h j
      have h2 : 0 ≤ lastI l j := by cases j with | zero => exact Int.le_refl _ | succ j => exact hp j
      omega)
    omega
def sumP (a b : Nat) (t : List UInt8) : Nat → Nat × Nat
  | 0 => (a, b)
  | j + 1 => (((sumP a b t j).1 + (t.getD j 0).toNat) % 65521, ((sumP a b t j).2 + ((sumP a b t j).1 + (t.getD j 0).toNat) % 65521) % 65521)
theorem sumP_lt {a b : Nat} {t : List UInt8} (ha : a < 65521) (hb : b < 65521) : ∀ j, (sumP a b t j).1 < 65521 ∧ (sumP a b t j).2 < 65521 := by
  intro j
  cases j with
  | zero => exact ⟨ha, hb⟩
  | succ j => exact ⟨Nat.mod_lt _ (by decide), Nat.mod_lt _ (by decide)⟩
theorem sumP_raw {a b : Nat} {t : List UInt8} {j L H c : Nat} (hL : L % 65521 = (sumP a b t j).1) (hH : H % 65521 = (sumP a b t j).2) (hc : (t.getD j 0).toNat = c) :
    (L + c) % 65521 = (sumP a b t (j + 1)).1 ∧ (H + (L + c)) % 65521 = (sumP a b t (j + 1)).2 := by
  simp only [sumP]
  rw [hc, ← hL, ← hH]
  constructor
  · simp [Nat.add_mod]
  · simp [Nat.add_mod]
def sbytes (p : Nat × Nat) : List UInt8 := [UInt8.ofNat (p.2 / 256), UInt8.ofNat (p.2 % 256), UInt8.ofNat (p.1 / 256), UInt8.ofNat (p.1 % 256)]
def sealL (t : List UInt8) : List UInt8 := t ++ sbytes (sumP 1 0 t t.length)
theorem seal_len (t : List UInt8) : (sealL t).length = t.length + 4 := by simp [sealL, sbytes]
def headB (l k n : Int) : List UInt8 := [68, 87, 80, 1] ++ [UInt8.ofNat l.toNat] ++ (vyL k.toNat ++ vyL n.toNat)
def risesL (ids : List Int) : List UInt8 := vyL ids.length ++ gapsL ids ids.length
def encL (l k n : Int) (ids ws : List Int) : List UInt8 := sealL (headB l k n ++ risesL ids ++ wsL ws ws.length)
theorem head_len {l k n : Int} (hk : k ≤ 1048576) (hn : n ≤ 9223372036854775807) : (headB l k n).length ≤ 17 := by
  have h1 := vy_len 2 k.toNat (by omega)
  have h2 := vy_len9 (n := n.toNat) (by omega)
  simp [headB]; omega
theorem rises_len {ids : List Int} (h : ∀ j, ids.getD j 0 ≤ 9223372036854775807) (hp : ∀ j, 0 ≤ ids.getD j 0) (hl : ids.length < 268435456) : (risesL ids).length ≤ 4 + 9 * ids.length := by
  have h1 := vy_len 3 ids.length (by omega)
  have h2 := gaps_len h hp ids.length
  simp [risesL]; omega
theorem enc_len {l k n : Int} {ids ws : List Int} (hk : k ≤ 1048576) (hn : n ≤ 9223372036854775807) (h : ∀ j, ids.getD j 0 ≤ 9223372036854775807) (hp : ∀ j, 0 ≤ ids.getD j 0) (hl : ids.length < 268435456) (hw : ∀ j, ws.getD j 0 ≤ 9223372036854775807) (e : ws.length = ids.length) : (encL l k n ids ws).length ≤ 32 + 18 * ids.length := by
  have h1 := head_len (l := l) hk hn
  have h2 := rises_len h hp hl
  have h3 := ws_len hw ws.length
  unfold encL
  rw [seal_len]
  simp only [List.length_append]
  omega
end Vy
end Go.Proofs.YtdnlejboijkcfaaGreatDoor
/- Memory: slices of bytes, read and appended to. -/
namespace Go.Proofs.YtdnlejboijkcfaaGreatDoor
set_option maxHeartbeats 8000000
set_option maxRecDepth 100000
open Go.RowKit
def RdU (w : World) (v : Value) (xs : List UInt8) : Prop :=
  (v = .slice none 0 0 ∧ xs = []) ∨ (∃ a cap, v = .slice (some a) 0 cap ∧ xs = []) ∨
  ∃ g off cap, v = .slice (some ⟨g, off, none⟩) xs.length cap ∧ g < w.heap.size ∧ xs.length ≤ cap ∧
    ∀ k, k < xs.length → w.cell? ⟨g, off + k, none⟩ = some (.int .u8 ((xs.getD k 0).toNat : Int))
theorem RdU.val {w : World} {v : Value} {xs : List UInt8} (h : RdU w v xs) : ∃ p cap, v = .slice p xs.length cap := by
  rcases h with ⟨h1, h2⟩ | ⟨a, cap, h1, h2⟩ | ⟨g, off, cap, h1, _⟩
  · exact ⟨none, 0, by rw [h2]; exact h1⟩
  · exact ⟨some a, cap, by rw [h2]; exact h1⟩
  · exact ⟨_, cap, h1⟩
theorem Tryz.infoU8 : (Tryz.prog.info? 5).map (fun i => (i.zero, i.size, i.bytes)) = some (some (.int .u8 0), 1, 1) := by kernel_rfl
def ucells (xs : List UInt8) : List Value := xs.map (fun c => Value.int .u8 (c.toNat : Int))
theorem ucells_get (xs : List UInt8) (k : Nat) (hk : k < xs.length) : (ucells xs)[k]? = some (.int .u8 ((xs.getD k 0).toNat : Int)) := by simp [ucells, List.getElem?_eq_getElem hk, List.getD]
def OwnU (w : World) (B : Nat) (v : Value) (xs : List UInt8) : Prop := w.ownsRow B 5 1 v xs.length (ucells xs)
theorem OwnU.nil (w : World) (B : Nat) : OwnU w B (.slice none 0 0) [] := World.ownsRow_nil w B _ _
theorem OwnU.lt {w : World} {B : Nat} {v : Value} {xs : List UInt8} (h : OwnU w B v xs) : ∀ k, v.ownBlock = some k → B ≤ k := fun k hk => (World.ownsRow.lt h k hk).1
theorem OwnU.shape {w : World} {B : Nat} {v : Value} {xs : List UInt8} (h : OwnU w B v xs) :
    (v = .slice none 0 0 ∧ xs = []) ∨ ∃ g cap, v = .slice (some ⟨g, 0, none⟩) xs.length cap ∧ B ≤ g ∧ g < w.heap.size ∧ xs.length ≤ cap ∧
      (∀ k, k < xs.length → w.cell? ⟨g, k, none⟩ = some (.int .u8 ((xs.getD k 0).toNat : Int))) ∧ ∀ k, w.frozen? ⟨g, k, none⟩ = false := by
  rcases h.2 with ⟨h1, h2⟩ | ⟨g, cap, cur, hv, hg, hh, h3, h4, h5, h6⟩
  · exact .inl ⟨h1, List.eq_nil_of_length_eq_zero h2⟩
  · refine .inr ⟨g, cap, hv, hg, (Array.getElem?_eq_some_iff.1 hh).1, h3, fun k hk => ?_, fun k => ?_⟩
    · subst hv
      have : w.cell? ⟨g, k, none⟩ = (ucells xs)[k]? := World.ownsRow.cellAt h k (by omega)
      rw [this]; exact ucells_get xs k hk
    · simp only [World.frozen?]
      rw [hh]
      simp
theorem OwnU.rd {w : World} {B : Nat} {v : Value} {xs : List UInt8} (h : OwnU w B v xs) : RdU w v xs := by
  rcases h.shape with h | ⟨g, cap, hv, _, hg, hc, hr, _⟩
  · exact .inl h
  · exact .inr (.inr ⟨g, 0, cap, hv, hg, hc, fun k hk => by simpa using hr k hk⟩)
theorem OwnU.val {w : World} {B : Nat} {v : Value} {xs : List UInt8} (h : OwnU w B v xs) : ∃ p cap, v = .slice p xs.length cap := h.rd.val
theorem ucells_one (xs : List UInt8) : ∀ u ∈ ucells xs, u.oneCell' = true := by
  intro u hu
  simp only [ucells, List.mem_map] at hu
  obtain ⟨a, _, rfl⟩ := hu
  rfl
section
variable {ops : Array Oper} {rest : List Oper} {o : Oper} {a : Act} {Q : Exit → Act → World → Prop} {w wr : World} {v : Value} {xs : List UInt8} {B T : Nat}
theorem appendU {c : UInt8} {cv : Int} (hcv : (c.toNat : Int) = cv) (s x : Operand)
    (hown : OwnU wr B v xs) (hlen : xs.length < 16777216) (hBr : B ≤ wr.heap.size)
    (hw : w = wr.alloc (.cells #[.int .u8 cv] T))
    (hgd : o.guard = none) (ho : o.op = .call { callee := .builtin .append, args := #[s, x], argTypes := #[120, 120] })
    (hv : a.eval s = v) (hx : a.eval x = .slice (some ⟨wr.heap.size, 0, none⟩) 1 1)
    (h : ∀ g cap w', OwnU w' B (.slice (some ⟨g, 0, none⟩) (xs.length + 1) cap) (xs ++ [c]) → wr.grownBy w' v.ownBlock → (v.ownBlock = some g ∨ g = wr.heap.size + 1) → g < w'.heap.size → wpList Tryz.prog ops Q rest (a.put o.dst (.slice (some ⟨g, 0, none⟩) (xs.length + 1) cap)) w') :
    wpList Tryz.prog ops Q (o :: rest) a w := by
  obtain ⟨i0, hi, hz0, hz1, hz2⟩ := info_parts Tryz.infoU8
  subst hw
  subst hcv
  refine wpList_append_lies _ hgd s x 120 ho B 5 i0 (.int .u8 0) 1 1 Tryz.underlying120 hi hz0 hz1 hz2 rfl (by decide) v xs.length (ucells xs) hv (World.ownsRow.alloc hown _) ⟨wr.heap.size, 0, none⟩ 1 1 (ucells [c]) hx rfl ?_ (ucells_one _) (by decide) ?_ ?_ ?_ (wr.heap.size + 1) (by simp) ?_
  · intro j u hj
    cases j with
    | zero => simp [ucells] at hj; subst hj; simp [Addr.add]
    | succ j => simp [ucells] at hj
  · unfold maxLen; omega
  · omega
  · simp; omega
  · intro g cap w' h1 h2 h3 h4
    refine h g cap w' ?_ (grownBy_of_alloc h2) h3 h4
    unfold OwnU
    simpa [ucells] using h1
end
end Go.Proofs.YtdnlejboijkcfaaGreatDoor
/- A text of bytes of the call's own. -/
namespace Go.Proofs.YtdnlejboijkcfaaGreatDoor
set_option maxHeartbeats 8000000
set_option maxRecDepth 100000
open Go.RowKit
theorem own_string {W : World} {B : Nat} {v : Value} {xs : List UInt8} (h : OwnU W B v xs) : (convert 120 9 v).run Tryz.prog W = .ok (.string ⟨xs.toArray⟩) W := by
  rcases h.shape with ⟨rfl, rfl⟩ | ⟨g, cap, rfl, -, -, -, hc, -⟩
  · exact run_convert_bytes_nil (P := Tryz.prog) (w := W) 120 5 rfl rfl 0 0 9 rfl
  · exact run_convert_bytes_back (P := Tryz.prog) W 120 9 5 ⟨g, 0, none⟩ cap xs rfl rfl rfl (fun j hj => by
      rw [show Addr.add ⟨g, 0, none⟩ j = ⟨g, j, none⟩ by simp only [Addr.add]; split <;> simp <;> omega]
      rw [hc j hj]
      simp [List.getD, List.getElem?_eq_getElem hj])
theorem bytes_string {W : World} {g : Nat} {arr : Array Value} {T : TypeId} (X : Blk W g arr T) (xs : List UInt8) (ha : arr = (xs.map (fun c => Value.int .u8 (c.toNat : Int))).toArray) (cap : Nat) : (convert 120 9 (.slice (some ⟨g, 0, none⟩) xs.length cap)).run Tryz.prog W = .ok (.string ⟨xs.toArray⟩) W := by
  exact run_convert_bytes_back (P := Tryz.prog) W 120 9 5 ⟨g, 0, none⟩ cap xs rfl rfl rfl (fun j hj => by
      rw [show Addr.add ⟨g, 0, none⟩ j = ⟨g, j, none⟩ by simp only [Addr.add]; split <;> simp <;> omega]
      rw [X.cell, ha]
      simp [List.getElem?_map, List.getElem?_eq_getElem hj])
theorem bs_app (a b : List UInt8) : (⟨a.toArray⟩ ++ ⟨b.toArray⟩ : ByteArray) = ⟨(a ++ b).toArray⟩ := by
  apply ByteArray.ext
  rw [ByteArray.data_append]
  simp
theorem bs_list (s : ByteArray) : s = ⟨s.data.toList.toArray⟩ := by cases s; simp
end Go.Proofs.YtdnlejboijkcfaaGreatDoor
/- The walks of vary.one and the reference's One: a number's bytes. -/
namespace Go.Proofs.YtdnlejboijkcfaaGreatDoor
set_option maxHeartbeats 8000000
set_option maxRecDepth 100000
open Go.RowKit Vy
theorem Vy.low_byte {m : Nat} (h : m < 128) : ((UInt8.ofNat m).toNat : Int) = m := by rw [of_low (by omega)]
theorem Vy.or_byte (m : Nat) : (m % 256) ||| 128 = 128 + m % 128 := by
  have h : ∀ x : Fin 256, x.val ||| 128 = 128 + x.val % 128 := by decide
  have := h ⟨m % 256, Nat.mod_lt _ (by decide)⟩
  simp only at this
  rw [this]
  omega
theorem Vy.big_byte (m : Nat) : ((UInt8.ofNat (128 + m % 128)).toNat : Int) = 128 + (m : Int) % 128 := by rw [of_low (by omega)]; omega
theorem Vy.or_bits (m : Nat) : ((UInt8.ofNat (128 + m % 128)).toNat : Int) = bits BinOp.or IntKind.u8 ((m : Int) % 256) 128 := by
  have e : (m : Int) % 256 = ((m % 256 : Nat) : Int) := by simp
  rw [e, show (128 : Int) = ((128 : Nat) : Int) from rfl, u8_or_nat _ _ (Nat.mod_lt _ (by decide)) (by decide), or_byte, of_low (by omega)]
def OnePost (B : Nat) (xs : List UInt8) (w : World) (e : Ending) (w' : World) : Prop := ∃ v', e = .returned v' ∧ OwnU w' B v' xs ∧ Below B w w'
theorem v_one {w : World} {B : Nat} {v : Value} {xs : List UInt8} (N : Nat) (hN : N ≤ 9223372036854775807) (ho : OwnU w B v xs) (hB : B ≤ w.heap.size) (hl : xs.length ≤ 1000000) :
    Calls Tryz.prog 123 #[v, .int .i64 N] w (OnePost B (xs ++ vyL N) w) := by
  have hb9 := vy_len9 (n := N) hN
  go_enter Tryz.func123, Tryz.ntmps123
  go_wp2_with fail
  go_loopg [0, 1] N (fun gn b n wr => ∃ (m : Nat) (ys : List UInt8), n = .int .i64 m ∧ m ≤ N ∧ m ≤ gn ∧ OwnU wr B b ys ∧ Hid (ys ++ vyL m = xs ++ vyL N) ∧ Below B w wr)
  case atStart => exact ⟨N, xs, rfl, nlr, nlr, ho, rfl, Below.refl _ _⟩
  case round =>
    obtain ⟨m, ys, rfl, hm, hgn, hown, hl2, hbl⟩ := hrel
    have hwr := hbl.size
    have hyl : ys.length ≤ 1000009 := by
      have := congrArg List.length hl2.out
      rw [List.length_append, List.length_append] at this
      omega
    obtain ⟨p, cap, rfl⟩ := hown.val
    by_cases h1 : m < 128
    · have q0 : decide ((128 : Int) ≤ (m : Int)) = false := decide_eq_false (by omega)
      have cb := low_byte h1
      have hw := IntWalk.u8_in (m : Int) ⟨by omega, by omega⟩
      have E := hid (show ys ++ [UInt8.ofNat m] = xs ++ vyL N by rw [← hl2.out, vy_low h1])
      clear hl2
      go_wp2_with (at_builtin; refine appendU cb (wr := wr) _ _ hown (by omega) (by omega) rfl rfl rfl rfl rfl ?_; intro g cap' w3 ho3 hg3 hgb hgl)
      go_ret
      rw [E.out] at ho3
      exact ⟨_, rfl, by simpa using ho3, hbl.grown hg3 (by omega) hown.lt⟩
    · have q0 : decide ((128 : Int) ≤ (m : Int)) = true := decide_eq_true (by omega)
      have cb := big_byte m
      have E := hid (show (ys ++ [UInt8.ofNat (128 + m % 128)]) ++ vyL (m / 128) = xs ++ vyL N by rw [← hl2.out, vy_big h1]; simp)
      clear hl2
      go_wp2_with (at_builtin; refine appendU (or_bits m) (wr := wr) _ _ hown (by omega) (by omega) rfl rfl rfl rfl rfl ?_; intro g cap' w3 ho3 hg3 hgb hgl)
      go_roundg (m / 128)
      case rel => exact ⟨m / 128, _, by go_num, by omega, by omega, by simpa using ho3, E, hbl.grown hg3 (by omega) hown.lt⟩
      case measure => omega
end Go.Proofs.YtdnlejboijkcfaaGreatDoor
/- The walks of vary.Put, vary.Rises, and the reference's Rises. -/
namespace Go.Proofs.YtdnlejboijkcfaaGreatDoor
set_option maxHeartbeats 8000000
set_option maxRecDepth 100000
open Go.RowKit Vy
theorem Vy.ws_at {l : List Int} {j : Nat} {a : Int} (h : l.getD j 0 = a) : wsL l (j + 1) = wsL l j ++ vyL a.toNat := by rw [wsL, h]
theorem Vy.gaps_at {l : List Int} {j : Nat} {a : Int} (h : l.getD j 0 = a) : gapsL l (j + 1) = gapsL l j ++ vyL (a - lastI l j).toNat := by rw [gapsL, h]
def Cnt (l : List Int) : Prop := ∀ j, 0 ≤ l.getD j 0 ∧ l.getD j 0 ≤ 9223372036854775807
def Rise (l : List Int) : Prop := ∀ j, j < l.length → lastI l j < l.getD j 0
theorem Vy.last_bd {l : List Int} (h : Cnt l) (j : Nat) : 0 ≤ lastI l j ∧ lastI l j ≤ 9223372036854775807 := by
  cases j with
  | zero => exact ⟨Int.le_refl _, by show (0 : Int) ≤ 9223372036854775807; decide⟩
  | succ j => exact h j
theorem v_put {w : World} {v : Value} {l : List Int} (hr : RdI w v l) (hc : Cnt l) (hl : l.length ≤ 10000) :
    Calls Tryz.prog 67 #[v] w fun e w' => e = .returned (.tuple #[.string ⟨(wsL l l.length).toArray⟩, .int .i64 0]) ∧ Below w.heap.size w w' := by
  have hws := fun j => ws_len (fun j => (hc j).2) (l := l) j
  obtain ⟨p, cap, rfl⟩ := hr.val
  have ON := hid (fun (W : World) (N : Nat) (hN : N ≤ 9223372036854775807) (v : Value) (xs : List UInt8) (ho : OwnU W w.heap.size v xs) (hB : w.heap.size ≤ W.heap.size) (hl : xs.length ≤ 1000000) => v_one N hN ho hB hl)
  go_enter Tryz.func67, Tryz.ntmps67
  go_wp2_with fail
  go_loopg [4, 9] l.length (fun gn b i wr => ∃ j : Nat, i = .int .i64 j ∧ j ≤ l.length ∧ l.length - j ≤ gn ∧ OwnU wr w.heap.size b (wsL l j) ∧ Below w.heap.size w wr)
  case atStart => exact ⟨0, rfl, Nat.zero_le _, nlr, OwnU.nil _ _, Below.refl _ _⟩
  case round =>
    obtain ⟨j, rfl, hj, hgn, hown, hbl⟩ := hrel
    have hwr := hbl.size
    have hlen := hws j
    by_cases hlt : j < l.length
    · obtain ⟨gs, off, a, hp, hac, hgs, q0⟩ := (hr.below hbl nlr).at hlt
      subst hp
      have hb := hc j
      rw [hac] at hb
      have st := hid (ws_at hac)
      obtain ⟨n, rfl⟩ := Int.eq_ofNat_of_zero_le hb.1
      have z0 : decide ((j : Int) < (l.length : Int)) = true := decide_eq_true (by omega)
      have L1 := hid (ON.out wr n (by omega) _ _ hown hwr (by omega))
      clear hws hc
      go_wp2_with fail
      refine L1.out.mono ?_
      rintro e w2 ⟨v2, rfl, ho2, hb2⟩
      rw [show wsL l j ++ vyL n = wsL l (j + 1) by rw [st.out, Int.toNat_natCast]] at ho2
      go_wp2_with fail
      go_roundg (l.length - (j + 1))
      case rel => exact ⟨j + 1, by go_num, by omega, nlr, ho2, hbl.trans hb2⟩
      case measure => omega
    · obtain rfl : j = l.length := by omega
      have z0 : decide ((l.length : Int) < (l.length : Int)) = false := decide_eq_false (by omega)
      have CV := own_string hown
      go_wp2_with fail
      go_ret2
      exact ⟨rfl, hbl⟩
theorem v_rises {w : World} {v : Value} {l : List Int} (hr : RdI w v l) (hc : Cnt l) (hi : Rise l) (hl : l.length ≤ 10000) :
    Calls Tryz.prog 68 #[v] w fun e w' => e = .returned (.tuple #[.string ⟨(risesL l).toArray⟩, .int .i64 0]) ∧ Below w.heap.size w w' := by
  have hgs := fun j => gaps_len (fun j => (hc j).2) (fun j => (hc j).1) (l := l) j
  have hv9 := vy_len9 (n := l.length) (by omega)
  obtain ⟨p, cap, rfl⟩ := hr.val
  have ON := hid (fun (W : World) (N : Nat) (hN : N ≤ 9223372036854775807) (v : Value) (xs : List UInt8) (ho : OwnU W w.heap.size v xs) (hB : w.heap.size ≤ W.heap.size) (hl : xs.length ≤ 1000000) => v_one N hN ho hB hl)
  have L0 := hid (ON.out w l.length (by omega) _ _ (OwnU.nil w w.heap.size) nlr (by simp))
  go_enter Tryz.func68, Tryz.ntmps68
  go_wp2_with fail
  refine L0.out.mono ?_
  rintro e w1 ⟨v1, rfl, ho1, hb1⟩
  rw [List.nil_append] at ho1
  clear L0
  go_wp2_with fail
  go_loopg [4, 5, 13] l.length (fun gn b x i wr => ∃ j : Nat, i = .int .i64 j ∧ x = .int .i64 (lastI l j) ∧ j ≤ l.length ∧ l.length - j ≤ gn ∧ OwnU wr w.heap.size b (vyL l.length ++ gapsL l j) ∧ Below w.heap.size w wr)
  case atStart => exact ⟨0, rfl, rfl, Nat.zero_le _, nlr, by simpa [gapsL] using ho1, hb1⟩
  case round =>
    obtain ⟨j, rfl, rfl, hj, hgn, hown, hbl⟩ := hrel
    have hwr := hbl.size
    have hlen := hgs j
    by_cases hlt : j < l.length
    · obtain ⟨gs, off, a, hp, hac, hgs', q0⟩ := (hr.below hbl nlr).at hlt
      subst hp
      have hb := hc j
      have hri := hi j hlt
      rw [hac] at hb hri
      have hla := last_bd hc j
      have st := hid (gaps_at hac)
      have hnx : lastI l (j + 1) = a := hac
      generalize lastI l j = x at *
      have z0 : decide ((j : Int) < (l.length : Int)) = true := decide_eq_true (by omega)
      have z1 : decide (a ≤ x) = false := decide_eq_false (by omega)
      have en : ((a - x).toNat : Int) = a - x := by omega
      have L1 := hid (ON.out wr (a - x).toNat (by omega) _ _ hown hwr (by simp; omega))
      rw [en] at L1
      have HN := hid hnx
      clear hgs hc hi en hnx
      go_wp2_with fail
      refine L1.out.mono ?_
      rintro e w2 ⟨v2, rfl, ho2, hb2⟩
      rw [List.append_assoc, ← st.out] at ho2
      have hbn := hbl.trans hb2
      go_wp2_with fail
      go_roundg (l.length - (j + 1))
      case rel => exact ⟨j + 1, by go_num, by rw [HN.out], by omega, nlr, ho2, hbn⟩
      case measure => omega
    · obtain rfl : j = l.length := by omega
      have z0 : decide ((l.length : Int) < (l.length : Int)) = false := decide_eq_false (by omega)
      have CV := own_string hown
      go_wp2_with fail
      go_ret2
      exact ⟨rfl, hbl⟩
end Go.Proofs.YtdnlejboijkcfaaGreatDoor
/- The walks of seal: More, Begin, Of, Bytes, Seal. -/
namespace Go.Proofs.YtdnlejboijkcfaaGreatDoor
set_option maxHeartbeats 8000000
set_option maxRecDepth 100000
open Go.RowKit Vy
theorem Vy.at_byte {s : ByteArray} {m : Nat} (h : m < s.size) : (s.data.toList.getD m 0).toNat = s[m].toNat := by
  have h' : m < s.data.toList.length := by simpa using h
  rw [List.getD, List.getElem?_eq_getElem h']
  rfl
theorem Vy.sumP_split (a b : Nat) (t : List UInt8) (n : Nat) : ∀ i, sumP a b t (n + i) = sumP (sumP a b t n).1 (sumP a b t n).2 (t.drop n) i := by
  intro i
  induction i with
  | zero => rfl
  | succ i ih =>
    have e : (t.drop n).getD i 0 = t.getD (n + i) 0 := by simp [List.getD, List.getElem?_drop]
    rw [← Nat.add_assoc]
    simp only [sumP]
    rw [ih, e]
theorem Vy.cut_list (s : ByteArray) (j : Nat) : (s.extract j s.size).data.toList = s.data.toList.drop j := by
  rw [ByteArray.data_extract, Array.toList_extract]
  rw [List.extract_eq_take_drop, List.take_of_length_le (by rw [List.length_drop]; simp)]
def MoreRel (s : ByteArray) (a b : Nat) (bx : Nat) (w : World) (gn : Nat) (x : Value) (wr : World) : Prop :=
  Blk wr (bx + 1) #[.int .i64 0, .int .i64 0] 186 ∧ Below bx w wr ∧
  ∃ (t : ByteArray) (a' b' : Nat), x = .string t ∧ a' < 65521 ∧ b' < 65521 ∧ t.size ≤ gn ∧ t.size ≤ 1000000 ∧ Blk wr bx #[.int .i64 a', .int .i64 b'] 186 ∧ Hid (sumP a b s.data.toList s.size = sumP a' b' t.data.toList t.size)
def MoreIn (s : ByteArray) (a b : Nat) (n : Nat) (bx : Nat) (w : World) (x : Value) (wr : World) : Prop :=
  ∃ m L H : Nat, x = .int .i64 m ∧ m ≤ n ∧ Hid (L % 65521 = (sumP a b s.data.toList m).1 ∧ H % 65521 = (sumP a b s.data.toList m).2) ∧ L ≤ 65520 + 255 * m ∧ H ≤ 65520 + m * 1340520 ∧
    Blk wr (bx + 1) #[.int .i64 0, .int .i64 0] 186 ∧ Below bx w wr ∧ Blk wr bx #[.int .i64 L, .int .i64 H] 186
theorem s_more {w : World} {a b : Nat} (s : ByteArray) (ha : a < 65521) (hb : b < 65521) (hs : s.size ≤ 1000000) :
    Calls Tryz.prog 166 #[.agg #[.int .i64 a, .int .i64 b], .string s] w fun e w' => e = .returned (.agg #[.int .i64 ((sumP a b s.data.toList s.size).1 : Nat), .int .i64 ((sumP a b s.data.toList s.size).2 : Nat)]) ∧ Below w.heap.size w w' := by
  have X1 := (Blk.new w #[.int .i64 a, .int .i64 b] 186).alloc (.cells #[.int .i64 0, .int .i64 0] 186)
  have Y1 := Blk.new (w.alloc (.cells #[.int .i64 a, .int .i64 b] 186)) #[.int .i64 0, .int .i64 0] 186
  have hb1 : Below w.heap.size w ((w.alloc (.cells #[.int .i64 a, .int .i64 b] 186)).alloc (.cells #[.int .i64 0, .int .i64 0] 186)) := ((Below.refl _ _).alloc nlr _).alloc (by simp) _
  rw [World.size_alloc] at Y1
  go_enter Tryz.func166, Tryz.ntmps166
  go_wp2_with fail
  generalize ((w.alloc (.cells #[.int .i64 a, .int .i64 b] 186)).alloc (.cells #[.int .i64 0, .int .i64 0] 186)) = w1 at *
  go_loopg [1] s.size (fun gn x wr => MoreRel s a b w.heap.size w gn x wr)
  case atStart => exact ⟨Y1, hb1, s, a, b, rfl, ha, hb, nlr, hs, X1, rfl⟩
  case round =>
    clear X1 Y1 hb1
    obtain ⟨Yr, hbl, t, a', b', rfl, ha', hb', hgn, hts, Xr, HS⟩ := hrel
    have hx := Xr.lt
    have hy := Yr.lt
    by_cases h0 : t.size = 0
    · have z0 : ¬ 0 < t.size := by omega
      have c0 : wr.cell? ⟨w.heap.size, 0, none⟩ = some (.int .i64 a') := Xr.cell 0
      have c1 : wr.cell? ⟨w.heap.size, 1, none⟩ = some (.int .i64 b') := Xr.cell 1
      have y0 : wr.cell? ⟨w.heap.size + 1, 0, none⟩ = some (.int .i64 0) := Yr.cell 0
      have y1 : wr.cell? ⟨w.heap.size + 1, 1, none⟩ = some (.int .i64 0) := Yr.cell 1
      have f0 := Yr.free 0
      have f1 := Yr.free 1
      have e0 : sumP a b s.data.toList s.size = (a', b') := by rw [HS.out, h0]; rfl
      have Y2 := (Yr.set 0 (.int .i64 a')).set 1 (.int .i64 b')
      have r0 : World.cell? _ ⟨w.heap.size + 1, 0, none⟩ = some (.int .i64 a') := Y2.cell 0
      have r1 : World.cell? _ ⟨w.heap.size + 1, 1, none⟩ = some (.int .i64 b') := Y2.cell 1
      have hbz := (hbl.setCell (p := ⟨w.heap.size + 1, 0, none⟩) (by show w.heap.size ≤ w.heap.size + 1; omega) (.int .i64 a')).setCell (p := ⟨w.heap.size + 1, 1, none⟩) (by show w.heap.size ≤ w.heap.size + 1; omega) (.int .i64 b')
      have E0 := hid e0
      clear h0 e0 HS
      go_wp2_with fail
      exact bodyPost_ret (v := .agg #[.int .i64 a', .int .i64 b']) (by simp [results, Tryz.results166, go_sem, r0, r1]) rfl ⟨by rw [E0.out], hbz⟩
    · have z0 : 0 < t.size := by omega
      rcases Nat.lt_or_ge 5000 t.size with h5 | h5
      · have hmin : min (t.size : Int) 5000 = 5000 := by omega
        have hn2 : 5000 ≤ t.size := by omega
        have hn1 : (5000 : Nat) ≤ 5000 := by omega
        have HS2 : Hid (sumP a b s.data.toList s.size = sumP (sumP a' b' t.data.toList 5000).1 (sumP a' b' t.data.toList 5000).2 (t.extract 5000 t.size).data.toList (t.extract 5000 t.size).size) := by
          show _ = _
          rw [HS.out, cut_list, show (t.extract 5000 t.size).size = t.size - 5000 by simp, ← sumP_split, show 5000 + (t.size - 5000) = t.size by omega]
        have SL := hid (sumP_lt (t := t.data.toList) ha' hb' 5000)
        clear HS h0
        go_wp2_with fail
        go_loopw [14] (fun x wr => MoreIn t a' b' 5000 w.heap.size w x wr) (fun x _ => 5000 - (intOf x).toNat)
        case atStart => exact ⟨0, a', b', rfl, Nat.zero_le _, ⟨Nat.mod_eq_of_lt ha', Nat.mod_eq_of_lt hb'⟩, by omega, by omega, Yr, hbl, Xr⟩
        case round =>
          obtain ⟨m, L, H, rfl, hm, hR, hL, hH, Yq, hbq, Xq⟩ := hrel
          clear Xr Yr hbl hx hy
          have hx := Xq.lt
          have hy := Yq.lt
          have c0 : wr.cell? ⟨w.heap.size, 0, none⟩ = some (.int .i64 L) := Xq.cell 0
          have c1 : wr.cell? ⟨w.heap.size, 1, none⟩ = some (.int .i64 H) := Xq.cell 1
          have f0 := Xq.free 0
          have f1 := Xq.free 1
          by_cases hlt : m < 5000
          · have z1 : decide ((m : Int) < (5000 : Int)) = true := decide_eq_true (by omega)
            have hlt' : m < t.size := by omega
            have hcb : t[m].toNat < 256 := t[m].toNat_lt
            obtain ⟨c, hc⟩ : ∃ c : Nat, t[m].toNat = c := ⟨_, rfl⟩
            have NX := hid (sumP_raw hR.out.1 hR.out.2 ((at_byte hlt').trans hc))
            have hLb : L + c ≤ 65520 + 255 * (m + 1) := by omega
            have hHb : H + (L + c) ≤ 65520 + (m + 1) * 1340520 := by omega
            clear hR
            go_upto_region 6 with fail
            go_region
            have Xd := (Xq.set 0 (.int .i64 ((L : Int) + c))).drewN 1
            have Yd := (Yq.set_other (g' := w.heap.size) 0 (.int .i64 ((L : Int) + c)) (by omega)).drewN 1
            have hbd := (hbq.setCell (p := ⟨w.heap.size, 0, none⟩) nlr (.int .i64 ((L : Int) + c))).trans (below_drewN (Below.refl w.heap.size _) 1)
            clear c0 c1 f0 f1 Xq Yq hbq
            obtain ⟨w2, hw2⟩ : ∃ x, x = (wr.setCell ⟨w.heap.size, 0, none⟩ (.int .i64 ((L : Int) + c))).drew := ⟨_, rfl⟩
            have Xd : Blk w2 w.heap.size #[.int .i64 ((L : Int) + c), .int .i64 H] 186 := by rw [hw2]; exact Xd
            have Yd : Blk w2 (w.heap.size + 1) #[.int .i64 0, .int .i64 0] 186 := by rw [hw2]; exact Yd
            have hbd : Below w.heap.size w w2 := by rw [hw2]; exact hbd
            rw [← hw2]
            clear hw2
            have c0 : w2.cell? ⟨w.heap.size, 0, none⟩ = some (.int .i64 ((L : Int) + c)) := Xd.cell 0
            have c1 : w2.cell? ⟨w.heap.size, 1, none⟩ = some (.int .i64 H) := Xd.cell 1
            have f1 := Xd.free 1
            have X3 := Xd.set 1 (.int .i64 ((H : Int) + ((L : Int) + c)))
            have Y3 := Yd.set_other (g' := w.heap.size) 1 (.int .i64 ((H : Int) + ((L : Int) + c))) (by omega)
            have hb3 := hbd.setCell (p := ⟨w.heap.size, 1, none⟩) nlr (.int .i64 ((H : Int) + ((L : Int) + c)))
            go_wp2_with fail
            go_roundw
            case rel => exact ⟨m + 1, L + c, H + (L + c), by go_num, by omega, NX.out, by omega, by omega, Y3, hb3, by simpa using X3⟩
            case measure => simp [intOf]; omega
          · obtain rfl : m = 5000 := by omega
            obtain ⟨hR1, hR2⟩ := hR.out
            have z1 : decide ((5000 : Int) < (5000 : Int)) = false := decide_eq_false (by omega)
            have hA : (L : Int) % 65521 = ((sumP a' b' t.data.toList 5000).1 : Int) := by rw [← hR1]; simp
            have hZ : (H : Int) % 65521 = ((sumP a' b' t.data.toList 5000).2 : Int) := by rw [← hR2]; simp
            have SLo := SL.out
            obtain ⟨A, eA⟩ : ∃ A, (sumP a' b' t.data.toList 5000).1 = A := ⟨_, rfl⟩
            obtain ⟨Z, eZ⟩ : ∃ Z, (sumP a' b' t.data.toList 5000).2 = Z := ⟨_, rfl⟩
            rw [eA] at hA
            rw [eZ] at hZ
            rw [eA, eZ] at SLo HS2
            obtain ⟨hA1, hZ1⟩ := SLo
            have X3 := (Xq.set 0 (.int .i64 A)).set 1 (.int .i64 Z)
            have Y3 := (Yq.set_other (g' := w.heap.size) 0 (.int .i64 A) (by omega)).set_other (g' := w.heap.size) 1 (.int .i64 Z) (by omega)
            have hb3 := (hbq.setCell (p := ⟨w.heap.size, 0, none⟩) nlr (.int .i64 A)).setCell (p := ⟨w.heap.size, 1, none⟩) nlr (.int .i64 Z)
            have hsz : (t.extract 5000 t.size).size = t.size - 5000 := by simp
            have HZ := hid hsz
            clear eA eZ hR hR1 hR2 SL hsz
            go_wp2_with fail
            go_roundg (t.size - 5000)
            case rel => exact ⟨Y3, hb3, t.extract 5000 t.size, A, Z, rfl, hA1, hZ1, by rw [HZ.out]; exact nlr, by rw [HZ.out]; omega, by simpa using X3, HS2⟩
            case measure => omega
      · have hmin : min (t.size : Int) 5000 = (t.size : Int) := by omega
        have hn2 : t.size ≤ t.size := by omega
        have hn1 := h5
        have HS2 : Hid (sumP a b s.data.toList s.size = sumP (sumP a' b' t.data.toList t.size).1 (sumP a' b' t.data.toList t.size).2 (t.extract t.size t.size).data.toList (t.extract t.size t.size).size) := by
          show _ = _
          rw [HS.out, cut_list, show (t.extract t.size t.size).size = t.size - t.size by simp, ← sumP_split, show t.size + (t.size - t.size) = t.size by omega]
        have SL := hid (sumP_lt (t := t.data.toList) ha' hb' t.size)
        clear HS h0
        go_wp2_with fail
        go_loopw [14] (fun x wr => MoreIn t a' b' t.size w.heap.size w x wr) (fun x _ => t.size - (intOf x).toNat)
        case atStart => exact ⟨0, a', b', rfl, Nat.zero_le _, ⟨Nat.mod_eq_of_lt ha', Nat.mod_eq_of_lt hb'⟩, by omega, by omega, Yr, hbl, Xr⟩
        case round =>
          obtain ⟨m, L, H, rfl, hm, hR, hL, hH, Yq, hbq, Xq⟩ := hrel
          clear Xr Yr hbl hx hy
          have hx := Xq.lt
          have hy := Yq.lt
          have c0 : wr.cell? ⟨w.heap.size, 0, none⟩ = some (.int .i64 L) := Xq.cell 0
          have c1 : wr.cell? ⟨w.heap.size, 1, none⟩ = some (.int .i64 H) := Xq.cell 1
          have f0 := Xq.free 0
          have f1 := Xq.free 1
          by_cases hlt : m < t.size
          · have z1 : decide ((m : Int) < (t.size : Int)) = true := decide_eq_true (by omega)
            have hlt' : m < t.size := by omega
            have hcb : t[m].toNat < 256 := t[m].toNat_lt
            obtain ⟨c, hc⟩ : ∃ c : Nat, t[m].toNat = c := ⟨_, rfl⟩
            have NX := hid (sumP_raw hR.out.1 hR.out.2 ((at_byte hlt').trans hc))
            have hLb : L + c ≤ 65520 + 255 * (m + 1) := by omega
            have hHb : H + (L + c) ≤ 65520 + (m + 1) * 1340520 := by omega
            clear hR
            go_upto_region 6 with fail
            go_region
            have Xd := (Xq.set 0 (.int .i64 ((L : Int) + c))).drewN 1
            have Yd := (Yq.set_other (g' := w.heap.size) 0 (.int .i64 ((L : Int) + c)) (by omega)).drewN 1
            have hbd := (hbq.setCell (p := ⟨w.heap.size, 0, none⟩) nlr (.int .i64 ((L : Int) + c))).trans (below_drewN (Below.refl w.heap.size _) 1)
            clear c0 c1 f0 f1 Xq Yq hbq
            obtain ⟨w2, hw2⟩ : ∃ x, x = (wr.setCell ⟨w.heap.size, 0, none⟩ (.int .i64 ((L : Int) + c))).drew := ⟨_, rfl⟩
            have Xd : Blk w2 w.heap.size #[.int .i64 ((L : Int) + c), .int .i64 H] 186 := by rw [hw2]; exact Xd
            have Yd : Blk w2 (w.heap.size + 1) #[.int .i64 0, .int .i64 0] 186 := by rw [hw2]; exact Yd
            have hbd : Below w.heap.size w w2 := by rw [hw2]; exact hbd
            rw [← hw2]
            clear hw2
            have c0 : w2.cell? ⟨w.heap.size, 0, none⟩ = some (.int .i64 ((L : Int) + c)) := Xd.cell 0
            have c1 : w2.cell? ⟨w.heap.size, 1, none⟩ = some (.int .i64 H) := Xd.cell 1
            have f1 := Xd.free 1
            have X3 := Xd.set 1 (.int .i64 ((H : Int) + ((L : Int) + c)))
            have Y3 := Yd.set_other (g' := w.heap.size) 1 (.int .i64 ((H : Int) + ((L : Int) + c))) (by omega)
            have hb3 := hbd.setCell (p := ⟨w.heap.size, 1, none⟩) nlr (.int .i64 ((H : Int) + ((L : Int) + c)))
            go_wp2_with fail
            go_roundw
            case rel => exact ⟨m + 1, L + c, H + (L + c), by go_num, by omega, NX.out, by omega, by omega, Y3, hb3, by simpa using X3⟩
            case measure => simp [intOf]; omega
          · obtain rfl : m = t.size := by omega
            obtain ⟨hR1, hR2⟩ := hR.out
            have z1 : decide ((t.size : Int) < (t.size : Int)) = false := decide_eq_false (by omega)
            have hA : (L : Int) % 65521 = ((sumP a' b' t.data.toList t.size).1 : Int) := by rw [← hR1]; simp
            have hZ : (H : Int) % 65521 = ((sumP a' b' t.data.toList t.size).2 : Int) := by rw [← hR2]; simp
            have SLo := SL.out
            obtain ⟨A, eA⟩ : ∃ A, (sumP a' b' t.data.toList t.size).1 = A := ⟨_, rfl⟩
            obtain ⟨Z, eZ⟩ : ∃ Z, (sumP a' b' t.data.toList t.size).2 = Z := ⟨_, rfl⟩
            rw [eA] at hA
            rw [eZ] at hZ
            rw [eA, eZ] at SLo HS2
            obtain ⟨hA1, hZ1⟩ := SLo
            have X3 := (Xq.set 0 (.int .i64 A)).set 1 (.int .i64 Z)
            have Y3 := (Yq.set_other (g' := w.heap.size) 0 (.int .i64 A) (by omega)).set_other (g' := w.heap.size) 1 (.int .i64 Z) (by omega)
            have hb3 := (hbq.setCell (p := ⟨w.heap.size, 0, none⟩) nlr (.int .i64 A)).setCell (p := ⟨w.heap.size, 1, none⟩) nlr (.int .i64 Z)
            have hsz : (t.extract t.size t.size).size = t.size - t.size := by simp
            have HZ := hid hsz
            clear eA eZ hR hR1 hR2 SL hsz
            go_wp2_with fail
            go_roundg (t.size - t.size)
            case rel => exact ⟨Y3, hb3, ByteArray.empty, A, Z, rfl, hA1, hZ1, Nat.zero_le _, Nat.zero_le _, by simpa using X3, by have h := HS2.out; rw [HZ.out, Nat.sub_self] at h; exact h⟩
            case measure => omega
theorem s_begin (w : World) : Calls Tryz.prog 165 #[] w fun e w' => e = .returned (.agg #[.int .i64 1, .int .i64 0]) ∧ Below w.heap.size w w' := by
  go_enter Tryz.func165, Tryz.ntmps165
  go_wp2_with fail
  exact bodyPost_ret (v := .agg #[.int .i64 1, .int .i64 0]) (by simp [results, Tryz.results165, go_sem]) rfl ⟨rfl, (Below.refl _ _).alloc nlr _⟩
def OfRel (s : ByteArray) (b2 nb : Nat) (w : World) (gn : Nat) (x : Value) (wr : World) : Prop :=
  Blk wr b2 #[.int .i64 0, .int .i64 0] 186 ∧ Below b2 w wr ∧
  ((x = .int .i64 (0 : Nat) ∧ 1 ≤ gn ∧ Blk wr nb #[.int .i64 1, .int .i64 0] 186) ∨
   (x = .int .i64 (1 : Nat) ∧ Blk wr nb #[.int .i64 ((sumP 1 0 s.data.toList s.size).1 : Nat), .int .i64 ((sumP 1 0 s.data.toList s.size).2 : Nat)] 186))
theorem s_of {w : World} (s : ByteArray) (g : Nat) (hc : w.cell? ⟨g, 0, none⟩ = some (.string s)) (hg : g < w.heap.size) (hs : s.size ≤ 1000000) :
    Calls Tryz.prog 124 #[.slice (some ⟨g, 0, none⟩) 1 1] w fun e w' => e = .returned (.agg #[.int .i64 ((sumP 1 0 s.data.toList s.size).1 : Nat), .int .i64 ((sumP 1 0 s.data.toList s.size).2 : Nat)]) ∧ Below w.heap.size w w' := by
  have X1 := Blk.new w #[.int .i64 0, .int .i64 0] 186
  have hb1 : Below w.heap.size w (w.alloc (.cells #[.int .i64 0, .int .i64 0] 186)) := (Below.refl _ _).alloc nlr _
  have BG := hid s_begin
  have MR := hid (fun (W : World) => s_more (w := W) (a := 1) (b := 0) s (by decide) (by decide) hs)
  go_enter Tryz.func124, Tryz.ntmps124
  go_wp2_with fail
  generalize (w.alloc (.cells #[.int .i64 0, .int .i64 0] 186)) = w1 at *
  refine (BG.out _).mono ?_
  rintro e w2 ⟨rfl, hb2⟩
  have hbw := hb1.trans (hb2.mono hb1.size)
  have X2 := X1.below hb2 nlr
  have Y3 := Blk.new w2 #[.int .i64 1, .int .i64 0] 186
  have hb3 := hbw.alloc hbw.size (.cells #[.int .i64 1, .int .i64 0] 186)
  have X3 := X2.alloc (.cells #[.int .i64 1, .int .i64 0] 186)
  have hx2 := X2.lt
  clear X1 hb1 hb2 X2 hbw
  go_wp2_with fail
  generalize (w2.alloc (.cells #[.int .i64 1, .int .i64 0] 186)) = w3 at *
  go_loopg [9] 1 (fun gn x wr => OfRel s w.heap.size w2.heap.size w gn x wr)
  case atStart => exact ⟨X3, hb3, .inl ⟨rfl, nlr, Y3⟩⟩
  case round =>
    obtain ⟨Yr, hbl, (⟨rfl, hgn, Xr⟩ | ⟨rfl, Xr⟩)⟩ := hrel
    · have c0 : wr.cell? ⟨w2.heap.size, 0, none⟩ = some (.int .i64 1) := Xr.cell 0
      have c1 : wr.cell? ⟨w2.heap.size, 1, none⟩ = some (.int .i64 0) := Xr.cell 1
      have cs : wr.cell? ⟨g, 0, none⟩ = some (.string s) := cell_below hbl hc hg
      have MR1 := hid (MR.out wr)
      go_wp2_with fail
      refine MR1.out.mono ?_
      rintro e w4 ⟨rfl, hb4⟩
      have Y4 := Yr.below hb4 nlr
      have X4 := Xr.below hb4 nlr
      have hb5 := hbl.trans (hb4.mono hbl.size)
      obtain ⟨A, eA⟩ : ∃ A, (sumP 1 0 s.data.toList s.size).1 = A := ⟨_, rfl⟩
      obtain ⟨Z, eZ⟩ : ∃ Z, (sumP 1 0 s.data.toList s.size).2 = Z := ⟨_, rfl⟩
      rw [eA, eZ]
      have EA := hid eA
      have EZ := hid eZ
      have hne : w.heap.size ≠ w2.heap.size := by omega
      clear eA eZ c0 c1 cs MR1 Xr Yr hbl hb4
      have c0 : w4.cell? ⟨w2.heap.size, 0, none⟩ = some (.int .i64 1) := X4.cell 0
      have c1 : w4.cell? ⟨w2.heap.size, 1, none⟩ = some (.int .i64 0) := X4.cell 1
      have f0 := X4.free 0
      have f1 := X4.free 1
      have X5 := (X4.set 0 (.int .i64 A)).set 1 (.int .i64 Z)
      have Y5 := (Y4.set_other (g' := w2.heap.size) 0 (.int .i64 A) hne).set_other (g' := w2.heap.size) 1 (.int .i64 Z) hne
      have hb6 := (hb5.setCell (p := ⟨w2.heap.size, 0, none⟩) (by show w.heap.size ≤ w2.heap.size; omega) (.int .i64 A)).setCell (p := ⟨w2.heap.size, 1, none⟩) (by show w.heap.size ≤ w2.heap.size; omega) (.int .i64 Z)
      clear X4 Y4 hb5
      go_wp2_with fail
      go_roundg 0
      case rel => exact ⟨Y5, hb6, .inr ⟨by go_num, by rw [EA.out, EZ.out]; simpa using X5⟩⟩
      case measure => omega
    · obtain ⟨A, eA⟩ : ∃ A, (sumP 1 0 s.data.toList s.size).1 = A := ⟨_, rfl⟩
      obtain ⟨Z, eZ⟩ : ∃ Z, (sumP 1 0 s.data.toList s.size).2 = Z := ⟨_, rfl⟩
      rw [eA, eZ] at Xr
      have EA := hid eA
      have EZ := hid eZ
      clear eA eZ
      have c0 : wr.cell? ⟨w2.heap.size, 0, none⟩ = some (.int .i64 A) := Xr.cell 0
      have c1 : wr.cell? ⟨w2.heap.size, 1, none⟩ = some (.int .i64 Z) := Xr.cell 1
      have y0 : wr.cell? ⟨w.heap.size, 0, none⟩ = some (.int .i64 0) := Yr.cell 0
      have y1 : wr.cell? ⟨w.heap.size, 1, none⟩ = some (.int .i64 0) := Yr.cell 1
      have f0 := Yr.free 0
      have f1 := Yr.free 1
      have Y2 := (Yr.set 0 (.int .i64 A)).set 1 (.int .i64 Z)
      have r0 : World.cell? _ ⟨w.heap.size, 0, none⟩ = some (.int .i64 A) := Y2.cell 0
      have r1 : World.cell? _ ⟨w.heap.size, 1, none⟩ = some (.int .i64 Z) := Y2.cell 1
      have hbz := (hbl.setCell (p := ⟨w.heap.size, 0, none⟩) nlr (.int .i64 A)).setCell (p := ⟨w.heap.size, 1, none⟩) nlr (.int .i64 Z)
      go_wp2_with fail
      exact bodyPost_ret (v := .agg #[.int .i64 A, .int .i64 Z]) (by simp [results, Tryz.results124, go_sem, r0, r1]) rfl ⟨by rw [EA.out, EZ.out], hbz⟩
theorem Vy.byte_of (n : Nat) : ((UInt8.ofNat n).toNat : Int) = (n : Int) % 256 := by simp [UInt8.toNat_ofNat']
theorem s_bytes {w : World} {a b : Nat} (ha : a < 65521) (hb : b < 65521) :
    Calls Tryz.prog 125 #[.agg #[.int .i64 a, .int .i64 b]] w fun e w' => e = .returned (.string ⟨(sbytes (a, b)).toArray⟩) ∧ Below w.heap.size w w' := by
  have X1 := Blk.new w #[.int .i64 a, .int .i64 b] 186
  have hb1 : Below w.heap.size w (w.alloc (.cells #[.int .i64 a, .int .i64 b] 186)) := (Below.refl _ _).alloc nlr _
  have e0 : (b : Int) / 256 = ((UInt8.ofNat (b / 256)).toNat : Int) := by rw [byte_of]; omega
  have e1 : (b : Int) % 256 = ((UInt8.ofNat (b % 256)).toNat : Int) := by rw [byte_of]; omega
  have e2 : (a : Int) / 256 = ((UInt8.ofNat (a / 256)).toNat : Int) := by rw [byte_of]; omega
  have e3 : (a : Int) % 256 = ((UInt8.ofNat (a % 256)).toNat : Int) := by rw [byte_of]; omega
  have CV := bytes_string (Blk.new (w.alloc (.cells #[.int .i64 a, .int .i64 b] 186)) #[.int .u8 ((b : Int) / 256), .int .u8 ((b : Int) % 256), .int .u8 ((a : Int) / 256), .int .u8 ((a : Int) % 256)] 5) (sbytes (a, b)) (by rw [e0, e1, e2, e3]; rfl) 4
  have hb2 := hb1.alloc hb1.size (.cells #[.int .u8 ((b : Int) / 256), .int .u8 ((b : Int) % 256), .int .u8 ((a : Int) / 256), .int .u8 ((a : Int) % 256)] 5)
  have hS : (sbytes (a, b)).length = 4 := rfl
  have HS : Hid (∃ S, sbytes (a, b) = S) := ⟨_, rfl⟩
  rw [hS] at CV
  generalize sbytes (a, b) = S at *
  clear e0 e1 e2 e3 HS
  simp only [World.size_alloc] at CV
  go_enter Tryz.func125, Tryz.ntmps125
  go_wp2_with fail
  go_ret
  exact ⟨rfl, hb2⟩
theorem s_seal {w : World} (t : List UInt8) (ht : t.length ≤ 1000000) :
    Calls Tryz.prog 69 #[.string ⟨t.toArray⟩] w fun e w' => e = .returned (.string ⟨(sealL t).toArray⟩) ∧ Below w.heap.size w w' := by
  have hb1 : Below w.heap.size w (w.alloc (.cells #[.string ⟨t.toArray⟩] 9)) := (Below.refl _ _).alloc nlr _
  have X1 := Blk.new w #[.string ⟨t.toArray⟩] 9
  have OF := hid (s_of (w := w.alloc (.cells #[.string ⟨t.toArray⟩] 9)) ⟨t.toArray⟩ w.heap.size (X1.cell 0) X1.lt (by show t.toArray.size ≤ 1000000; simpa using ht))
  have e1 : (⟨t.toArray⟩ : ByteArray).data.toList = t := by simp
  have e2 : (⟨t.toArray⟩ : ByteArray).size = t.length := by show t.toArray.size = t.length; simp
  rw [e1, e2] at OF
  obtain ⟨h1, h2⟩ := sumP_lt (a := 1) (b := 0) (t := t) (by decide) (by decide) t.length
  have SB := hid (fun W => s_bytes (w := W) h1 h2)
  have E := hid (show t ++ sbytes ((sumP 1 0 t t.length).1, (sumP 1 0 t t.length).2) = sealL t from rfl)
  obtain ⟨A, eA⟩ : ∃ A, (sumP 1 0 t t.length).1 = A := ⟨_, rfl⟩
  obtain ⟨Z, eZ⟩ : ∃ Z, (sumP 1 0 t t.length).2 = Z := ⟨_, rfl⟩
  rw [eA, eZ] at OF SB E
  have hn : ¬ 9223372036854775807 < t.length + (sbytes (A, Z)).length := by simp [sbytes]; omega
  clear e1 e2 eA eZ h1 h2 X1
  go_enter Tryz.func69, Tryz.ntmps69
  go_wp2_with fail
  refine OF.out.mono ?_
  rintro e w2 ⟨rfl, hb2⟩
  have hb3 := hb1.trans (hb2.mono hb1.size)
  clear OF hb1 hb2
  go_wp2_with fail
  refine (SB.out _).mono ?_
  rintro e w3 ⟨rfl, hb4⟩
  have hb5 := hb3.trans (hb4.mono hb3.size)
  generalize sbytes (A, Z) = S at *
  go_wp2_with fail
  go_ret
  exact ⟨by simp [bs_app, E.out], hb5⟩
end Go.Proofs.YtdnlejboijkcfaaGreatDoor
/- The walks of the reference's seal: More, Of, Bytes, Seal. -/
namespace Go.Proofs.YtdnlejboijkcfaaGreatDoor
set_option maxHeartbeats 8000000
set_option maxRecDepth 100000
open Go.RowKit Vy
end Go.Proofs.YtdnlejboijkcfaaGreatDoor
