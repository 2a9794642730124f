/- Texts laid together. -/
import Derived.Test.YtdnlejboijkcfaaGreatDoorP38
import Derived.Deep.AppendLies
/- A run is made. -/
namespace Go.Proofs.YtdnlejboijkcfaaGreatDoor
open Go.RowKit Nl Tb
theorem Tryz.infoSn : (Tryz.prog.info? 81).map (fun i => (i.zero, i.size, i.bytes)) = some (some (.pointer none), 1, 8) := by kernel_rfl
section
variable {ops : Array Oper} {rest : List Oper} {o : Oper} {a : Act} {Q : Exit → Act → World → Prop} {w wr : World} {v : Value} {n B T : Nat} {cs : List Value}
theorem appendSn {pa : Option Addr} (s x : Operand) (hown : wr.ownsRow B 81 1 v n cs) (hlen : n < 16777216) (hBr : B ≤ wr.heap.size) (hw : w = wr.alloc (.cells #[.pointer pa] T))
    (hgd : o.guard = none) (ho : o.op = .call { callee := .builtin .append, args := #[s, x], argTypes := #[76, 76] })
    (hv : a.eval s = v) (hx : a.eval x = .slice (some ⟨wr.heap.size, 0, none⟩) 1 1)
    (h : ∀ g cap w', w'.ownsRow B 81 1 (.slice (some ⟨g, 0, none⟩) (n + 1) cap) (n + 1) (cs ++ [.pointer pa]) → wr.grownBy w' v.ownBlock → (v.ownBlock = some g ∨ g = wr.heap.size + 1) → g < w'.heap.size → wpList Tryz.prog ops Q rest (a.put o.dst (.slice (some ⟨g, 0, none⟩) (n + 1) cap)) w') :
    wpList Tryz.prog ops Q (o :: rest) a w := by
  obtain ⟨i0, hi, hz0, hz1, hz2⟩ := info_parts Tryz.infoSn
  subst hw
  refine wpList_append_lies _ hgd s x 76 ho B 81 i0 (.pointer none) 1 8 Tryz.underlying76 hi hz0 hz1 hz2 rfl (by decide) v n cs hv (ownsRow_keep hown (fun k hk => Below.heap_alloc _ _ k (World.ownsRow.lt hown k hk).2)) ⟨wr.heap.size, 0, none⟩ 1 1 [.pointer pa] hx rfl ?_ (fun u hu => by simp at hu; subst hu; rfl) (by decide) ?_ ?_ ?_ (wr.heap.size + 1) (by simp) ?_
  · intro j u hj
    cases j with
    | zero => simp at hj; subst hj; simp [Addr.add]
    | succ j => simp at hj
  · unfold maxLen; omega
  · omega
  · simp; omega
  · intro g cap w' h1 h2 h3 h4
    exact h g cap w' h1 (grownBy_of_alloc h2) h3 h4
end
theorem RunM.add {c : Cx} {W W2 : World} {lab : Nat → Nat} {R V B0 : Nat} {pv ov sv iv : Value} {sns : List Sn} {fl : List It} (h : RunM c W lab R V pv ov sv iv false false sns fl) {s : Sn} {g cap : Nat}
    (S : SnV W c.kind c.l c.k c.wait c.ep sns.length s) (hB : ∀ j, s.B j → lab j = 0 ∧ B0 ≤ j) (h0 : ∀ b, b < B0 → lab b = 0) (hB0 : B0 ≤ W.heap.size)
    (o3 : W2.ownsRow 0 81 1 (.slice (some ⟨g, 0, none⟩) (sns.length + 1) cap) (sns.length + 1) (sCells sns ++ [.pointer (some ⟨s.b, 0, none⟩)])) (gr : W.grownBy W2 sv.ownBlock) (hg : sv.ownBlock = some g ∨ W.heap.size ≤ g) (gl : g < W2.heap.size) :
    ∃ lab', RunM c (W2.setCell ⟨R, 3, none⟩ (.slice (some ⟨g, 0, none⟩) (sns.length + 1) cap)) lab' R V pv ov (.slice (some ⟨g, 0, none⟩) (sns.length + 1) cap) iv false false (sns ++ [s]) fl ∧ ∀ b, b < B0 → lab' b = 0 := by
  classical
  have hR := h.blk.lt
  obtain ⟨a1, a2, a3, a4, a5, hbV⟩ := h.wv.blk
  have hV := hbV.lt
  have srow : ∀ b, sv.ownBlock = some b → b < W.heap.size := fun b q => (World.ownsRow.lt h.row b q).2
  have hs := gr.size
  have hk : ∀ b, b < W.heap.size → lab b ≠ 1 → lab b ≠ 5 → (W2.setCell ⟨R, 3, none⟩ (.slice (some ⟨g, 0, none⟩) (sns.length + 1) cap)).heap[b]? = W.heap[b]? := fun b hb n1 n5 =>
    (Below.heap_setCell W2 ⟨R, 3, none⟩ _ b (fun e => n1 (by rw [e]; exact h.lR))).trans (gr.block b hb (fun e => n5 (h.ls b e.symm)))
  have hsz : (W2.setCell ⟨R, 3, none⟩ (.slice (some ⟨g, 0, none⟩) (sns.length + 1) cap)).heap.size = W2.heap.size := by simp
  have hgR : g ≠ R := by
    rcases hg with q | q
    · intro e
      have := h.ls g q
      rw [e, h.lR] at this; omega
    · omega
  have hsB := S.ltB
  have hl1 : ∀ b, lab b ≠ 0 → b < W.heap.size → (if s.B b then 10 + sns.length else if b = g ∧ W.heap.size ≤ g then 5 else lab b) = lab b := fun b hb hlt => by
    rw [if_neg (fun q => hb (hB b q).1), if_neg (fun q => by omega)]
  refine ⟨fun b => if s.B b then 10 + sns.length else if b = g ∧ W.heap.size ≤ g then 5 else lab b, ⟨?_, h.wv.keep (fun j hj q => hk j hj ?_ ?_), h.pr.keep (fun j hj q => hk j hj (by rw [(h.lp j q).2]; omega) (by rw [(h.lp j q).2]; omega)) (by omega), h.ord.keep (fun j hj q => hk j hj (by rw [(h.lo j q).2]; omega) (by rw [(h.lo j q).2]; omega)) (by omega), ?_, fun j hj => ?_, ?_, ?_, fun j q => ⟨by have := (h.lp j q).1; omega, ?_⟩, fun j q => ⟨by have := (h.lo j q).1; omega, ?_⟩, fun j q => ?_, fun j q => ?_, fun j hj b q => ?_, fun b hb => ?_, h.eo⟩, fun b hb => ?_⟩
  · have := (h.blk.keep (gr.block R hR (fun e => by have := h.ls R e.symm; rw [h.lR] at this; omega))).set 3 (.slice (some ⟨g, 0, none⟩) (sns.length + 1) cap)
    exact this
  · rcases q with rfl | q
    · rw [h.lV]; omega
    · rw [h.li j q]; omega
  · rcases q with rfl | q
    · rw [h.lV]; omega
    · rw [h.li j q]; omega
  · rw [List.length_append]
    have e : sCells (sns ++ [s]) = sCells sns ++ [.pointer (some ⟨s.b, 0, none⟩)] := by unfold sCells; rw [List.map_append]; rfl
    rw [e]
    exact ownsRow_keep o3 (fun j q => Below.heap_setCell W2 ⟨R, 3, none⟩ _ j (by
      have : g = j := by simpa [Value.ownBlock] using q
      show j ≠ R
      omega))
  · by_cases q : j < sns.length
    · rw [List.getElem_append_left q]
      exact (h.sn j q).keepB (fun b hb w => hk b hb (by rw [h.lsn j q b w]; omega) (by rw [h.lsn j q b w]; omega))
    · have hj2 : j = sns.length := by rw [List.length_append] at hj; simp at hj; omega
      subst hj2
      simp only [List.getElem_append_right nlr, Nat.sub_self, List.getElem_cons_zero]
      exact S.keepB (fun b hb w => hk b hb (by rw [(hB b w).1]; omega) (by rw [(hB b w).1]; omega))
  · show (if s.B R then 10 + sns.length else if R = g ∧ W.heap.size ≤ g then 5 else lab R) = 1
    rw [hl1 R (by rw [h.lR]; omega) hR]; exact h.lR
  · show (if s.B V then 10 + sns.length else if V = g ∧ W.heap.size ≤ g then 5 else lab V) = 2
    rw [hl1 V (by rw [h.lV]; omega) hV]; exact h.lV
  · show (if s.B j then 10 + sns.length else if j = g ∧ W.heap.size ≤ g then 5 else lab j) = 3
    rw [hl1 j (by rw [(h.lp j q).2]; omega) (h.lp j q).1]; exact (h.lp j q).2
  · show (if s.B j then 10 + sns.length else if j = g ∧ W.heap.size ≤ g then 5 else lab j) = 4
    rw [hl1 j (by rw [(h.lo j q).2]; omega) (h.lo j q).1]; exact (h.lo j q).2
  · have e : g = j := by simpa [Value.ownBlock] using q
    subst e
    show (if s.B g then 10 + sns.length else if g = g ∧ W.heap.size ≤ g then 5 else lab g) = 5
    rcases hg with q2 | q2
    · rw [hl1 g (by rw [h.ls g q2]; omega) (srow g q2)]; exact h.ls g q2
    · rw [if_neg (fun w => by have := hsB g w; omega), if_pos ⟨rfl, q2⟩]
  · show (if s.B j then 10 + sns.length else if j = g ∧ W.heap.size ≤ g then 5 else lab j) = 6
    rw [hl1 j (by rw [h.li j q]; omega) (h.wv.r.lt j q)]; exact h.li j q
  · show (if s.B b then 10 + sns.length else if b = g ∧ W.heap.size ≤ g then 5 else lab b) = 10 + j
    by_cases q2 : j < sns.length
    · rw [List.getElem_append_left q2] at q
      rw [hl1 b (by rw [h.lsn j q2 b q]; omega) ((h.sn j q2).ltB b q)]; exact h.lsn j q2 b q
    · have hj2 : j = sns.length := by rw [List.length_append] at hj; simp at hj; omega
      subst hj2
      simp only [List.getElem_append_right nlr, Nat.sub_self, List.getElem_cons_zero] at q
      rw [if_pos q]
  · rw [hsz] at hb
    show (if s.B b then 10 + sns.length else if b = g ∧ W.heap.size ≤ g then 5 else lab b) = 0
    rw [if_neg (fun w => by have := hsB b w; omega), if_neg (fun w => by omega)]
    exact h.new b (by omega)
  · show (if s.B b then 10 + sns.length else if b = g ∧ W.heap.size ≤ g then 5 else lab b) = 0
    rw [if_neg (fun w => by have := (hB b w).2; omega), if_neg (fun w => by omega)]
    exact h0 b hb
namespace Tb
def MadeAll (ps : List Int) (sns : List Sn) : Prop := ∀ i (h : i < sns.length), ∃ b dg q g h', sns[i] = Sn.made b dg q g h' (ps.getD i 0) (kidsN ps i ps.length) i
theorem MadeAll.sum (j : Nat) : ∀ {sns : List Sn} (n : Nat), (∀ i (h : i < sns.length), sns[i].cover = 2 ^ (n + i) ∧ sns[i].sent = false) → sumS (bitF j) sns = if n ≤ j ∧ j < n + sns.length then 1 else 0
  | [], n, _ => by simp only [sumS]; rw [if_neg (by simp)]
  | s :: r, n, h => by
    have h0 : s.cover = 2 ^ n ∧ s.sent = false := h 0 (Nat.zero_lt_succ _)
    have ih := MadeAll.sum j (sns := r) (n + 1) (fun i hi => by
      rw [show n + 1 + i = n + (i + 1) by omega]
      exact h (i + 1) (Nat.succ_lt_succ hi))
    have hv : s.val (bitF j) = if n = j then 1 else 0 := by
      unfold Sn.val
      rw [if_pos (.inl h0.2)]
      unfold bitF
      rw [h0.1, Nat.testBit_two_pow]
      simp
    simp only [sumS, hv, ih, List.length_cons]
    by_cases e : n = j
    · rw [if_pos e, if_neg (by omega), if_pos (by omega)]; rfl
    · rw [if_neg e]
      by_cases e2 : n + 1 ≤ j ∧ j < n + 1 + r.length
      · rw [if_pos e2, if_pos (by omega)]; rfl
      · rw [if_neg e2, if_neg (by omega)]; rfl
theorem sumS_nil {f : Nat → List Nd → Int} (hf : ∀ c, f c [] = 0) : ∀ {sns : List Sn}, (∀ s ∈ sns, s.its = []) → sumS f sns = 0
  | [], _ => rfl
  | s :: r, h => by
    have ih := sumS_nil hf (sns := r) (fun x hx => h x (by simp [hx]))
    have e := h s (by simp)
    simp only [sumS, ih]
    unfold Sn.val
    rw [e, hf]
    split <;> rfl
theorem Pro.init {l k : Int} {ps : List Int} {sns : List Sn} (hl : sns.length = ps.length) (hn : ps.length ≤ 12) (l1 : 1 ≤ l) (l2 : l ≤ 48) (k1 : 1 ≤ k) (k2 : k ≤ 1048576) (m : MadeAll ps sns) : Pro l k [] ps [] sns [] := by
  have hm : ∀ i (h : i < sns.length), sns[i].par = ps.getD i 0 ∧ sns[i].kids = kidsN ps i ps.length ∧ sns[i].heard = 0 ∧ sns[i].cover = 2 ^ i ∧ sns[i].sent = false ∧ sns[i].zs = [] ∧ sns[i].its = [] := fun i h => by
    obtain ⟨b, dg, q, g, h', e⟩ := m i h
    rw [e]
    exact ⟨rfl, rfl, rfl, rfl, rfl, rfl, rfl⟩
  have hits : ∀ s ∈ sns, s.its = [] := fun s hs => by
    obtain ⟨i, hi, rfl⟩ := List.mem_iff_getElem.1 hs
    exact (hm i hi).2.2.2.2.2.2
  refine ⟨hl, fun i h => (hm i h).1, fun i h j => by rw [(hm i h).2.1]; exact kids_bit ps i ps.length j, fun i h => ?_, (fun x hx => by cases hx), (fun i h q => by rw [(hm i h).2.2.2.2.1] at q; cases q), (fun i h j q => by rw [(hm i h).2.2.1, Nat.zero_testBit] at q; cases q), (fun j h q => by rw [(hm j h).2.2.2.2.1] at q; cases q), (fun x hx => by cases hx), List.nodup_nil, fun i h => by rw [(hm i h).2.2.2.1, Nat.testBit_two_pow]; simp, (fun x hx => by cases hx), fun i h => by rw [(hm i h).2.2.2.1]; exact Nat.pow_lt_pow_right (by decide) (by omega), (fun x hx => by cases hx), fun j => ?_, ?_, fun y => ?_, by simp [sumL]⟩
  · rw [(hm i h).2.2.2.2.2.1, (hm i h).2.2.2.2.2.2]
    exact TI.nil (Dg.nil l1 l2 k1 k2) (fun x hx => by cases hx)
  · rw [MadeAll.sum j 0 (fun i h => by rw [Nat.zero_add]; exact ⟨(hm i h).2.2.2.1, (hm i h).2.2.2.2.1⟩)]
    simp [sumT]
  · rw [sumS_nil (fun c => rfl) hits]; simp [sumT, sumL]
  · rw [sumS_nil (fun c => rfl) hits]; simp [sumT, gsum]
end Tb
end Go.Proofs.YtdnlejboijkcfaaGreatDoor
