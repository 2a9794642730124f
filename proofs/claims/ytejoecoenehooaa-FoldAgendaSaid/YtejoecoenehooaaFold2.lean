/- The walks of fold.Mass, Ready, Do, the reference's Mass and Ready. -/
import Derived.Test.YtejoecoenehooaaFold1
namespace Go.Proofs.Ytejoecoenehooaa
open Go.RowKit Nl

namespace Nl
/-- What comes of a fold. -/
def foldDo (l : Int) (zs : List (Int × Int)) (p : Int) : List (Int × Int) × Int :=
  if kidsB l p then ((stAdd l (stTake (stTake zs (2 * p)).1 (2 * p + 1)).1 p ((stTake zs (2 * p)).2 + (stTake (stTake zs (2 * p)).1 (2 * p + 1)).2)).1, (stTake zs (2 * p)).2 + (stTake (stTake zs (2 * p)).1 (2 * p + 1)).2) else (zs, 0)
theorem findL_filter {zs : List (Int × Int)} {id k : Int} (h : id ≠ k) : findL id (zs.filter (fun x => x.1 ≠ k)) = findL id zs := by
  induction zs with
  | nil => rfl
  | cons x r ih =>
    rw [List.filter_cons]
    by_cases hx : x.1 = k
    · rw [if_neg (by simp [hx]), ih, findL, if_neg (by omega)]
    · rw [if_pos (by simp [hx]), findL, findL, ih]
theorem findL_gone {zs : List (Int × Int)} {id : Int} : findL id (zs.filter (fun x => x.1 ≠ id)) = 0 := findL_no (fun x hx => by simpa using (List.mem_filter.1 hx).2)
theorem fold_pair (l : Int) (zs : List (Int × Int)) (p : Int) : (foldDo l zs p).2 = pairV l zs p := by
  unfold foldDo pairV
  cases kidsB l p
  · rfl
  · simp only [if_true]
    unfold stTake
    simp only
    rw [findL_filter (by omega)]
theorem stTake_len (zs : List (Int × Int)) (id : Int) : (stTake zs id).1.length ≤ zs.length := List.length_filter_le _ _
end Nl

set_option maxRecDepth 100000 in
set_option maxHeartbeats 1000000 in
theorem f_mass {w : World} {q g h m : Nat} {kind l : Int} {zs : List Nd} (p : Int) (d : PoolV w q g h kind l m zs) (hm : m ≤ 100000) (bp : In64 p) :
    Calls Try.prog 68 #[.pointer (some ⟨q, 0, none⟩), .int .i64 p] w fun e w' => e = .returned (.tuple #[.int .i64 (pairV l zs p), .int .i64 (allV l zs p)]) ∧ Below w.heap.size w w' := by
  have hroll := d.roll
  have bl : In64 l := ⟨by have := hroll.l1; omega, by have := hroll.l2; omega⟩
  have K := hid (fun W : World => t_kids l p W bl bp)
  obtain ⟨k, ek⟩ : ∃ k, kidsB l p = k := ⟨_, rfl⟩
  rw [ek] at K
  cases k
  · have e1 : kidA l p = 0 := by unfold kidA; rw [ek]; rfl
    have e2 : kidZ l p = 0 := by unfold kidZ; rw [ek]; rfl
    have e3 : pairV l zs p = 0 := by unfold pairV; rw [ek]; rfl
    have e4 : allV l zs p = 0 := by unfold allV; rw [ek]; rfl
    rw [e1, e2] at K
    rw [e3, e4]
    clear ek e1 e2 e3 e4 hroll
    go_enter Try.func68, Try.ntmps68
    go_wp2_with fail
    refine (pl_l d).mono ?_
    rintro e w' ⟨rfl, rfl⟩
    go_wp2_with fail
    refine (K.out w).mono ?_
    rintro e w' ⟨rfl, rfl⟩
    go_wp2_with fail
    go_ret2
    exact ⟨rfl, Below.refl _ _⟩
  · obtain ⟨kb1, kb2⟩ := kids_bound ek
    have e1 : kidA l p = 2 * p := by unfold kidA; rw [ek]; rfl
    have e2 : kidZ l p = 2 * p + 1 := by unfold kidZ; rw [ek]; rfl
    have e3 : pairV l zs p = findL (2 * p) zs + findL (2 * p + 1) zs := by unfold pairV; rw [ek]; rfl
    have e4 : allV l zs p = findL (2 * p) zs + findL (2 * p + 1) zs + findL p zs := by unfold allV; rw [ek]; rfl
    rw [e1, e2] at K
    rw [e3, e4]
    have G1 := hid (fun W (x : PoolV W q g h kind l m zs) => pl_get (2 * p) x hm ⟨by omega, by omega⟩)
    have G2 := hid (fun W (x : PoolV W q g h kind l m zs) => pl_get (2 * p + 1) x hm ⟨by omega, by omega⟩)
    have G3 := hid (fun W (x : PoolV W q g h kind l m zs) => pl_get p x hm bp)
    have b1 := hroll.find (2 * p)
    have b2 := hroll.find (2 * p + 1)
    have b3 := hroll.find p
    have b4 := hroll.most
    generalize findL (2 * p) zs = x1 at *
    generalize findL (2 * p + 1) zs = x2 at *
    generalize findL p zs = x3 at *
    clear ek e1 e2 e3 e4 hroll
    go_enter Try.func68, Try.ntmps68
    go_wp2_with fail
    refine (pl_l d).mono ?_
    rintro e w' ⟨rfl, rfl⟩
    go_wp2_with fail
    refine (K.out w).mono ?_
    rintro e w' ⟨rfl, rfl⟩
    go_wp2_with fail
    refine (G1.out w d).mono ?_
    rintro e w1 ⟨rfl, hb1⟩
    have d1 := d.below hb1 (Nat.le_refl _)
    have hs1 := hb1.size
    go_wp2_with fail
    refine (G2.out w1 d1).mono ?_
    rintro e w2 ⟨rfl, hb2⟩
    have d2 := d1.below hb2 (Nat.le_refl _)
    have hs2 := hb2.size
    go_wp2_with fail
    refine (G3.out w2 d2).mono ?_
    rintro e w3 ⟨rfl, hb3⟩
    go_wp2_with fail
    go_ret2
    exact ⟨rfl, (hb1.trans (hb2.mono hs1)).trans (hb3.mono (by omega))⟩

set_option maxRecDepth 100000 in
set_option maxHeartbeats 1000000 in
theorem f_ready {w : World} {q g h m : Nat} {kind l : Int} {zs : List Nd} (p most : Int) (d : PoolV w q g h kind l m zs) (hm : m ≤ 100000) (bp : In64 p) :
    Calls Try.prog 69 #[.pointer (some ⟨q, 0, none⟩), .int .i64 p, .int .i64 most] w fun e w' => e = .returned (.bool (readyB l zs p most)) ∧ Below w.heap.size w w' := by
  have M := hid (f_mass p d hm bp)
  have HR : Hid (readyB l zs p most = decide (0 < pairV l zs p ∧ allV l zs p ≤ most)) := rfl
  generalize pairV l zs p = a at *
  generalize allV l zs p = b at *
  generalize readyB l zs p most = R at *
  by_cases h1 : 0 < a <;> by_cases h2 : b ≤ most
  all_goals
    have e := HR.out
    simp [h1, h2] at e
    subst e
    clear HR
    go_enter Try.func69, Try.ntmps69
    go_wp2_with fail
    refine M.out.mono ?_
    rintro e w' ⟨rfl, hb⟩
    go_wp2_with fail
    go_ret
    exact ⟨ret_bool (by simp [h2]), hb⟩

set_option maxRecDepth 100000 in
set_option maxHeartbeats 2000000 in
theorem r_mass {w : World} {l : Int} {zs : List Nd} {v : Value} (p : Int) (hr : RdN w v zs) (hl : zs.length < 1048576) (hroll : Roll l zs) (bp : In64 p) :
    Calls Try.prog 80 #[.agg #[.int .i64 l, v], .int .i64 p] w fun e w' => e = .returned (.tuple #[.int .i64 (pairV l zs p), .int .i64 (allV l zs p)]) ∧ Below w.heap.size w w' := by
  have bl : In64 l := ⟨by have := hroll.l1; omega, by have := hroll.l2; omega⟩
  have K := hid (fun W : World => r_kids l p W bl bp)
  obtain ⟨pp, cap, rfl⟩ := hr.val
  have hba : Below w.heap.size w (w.alloc (.cells #[.int .i64 l, .slice pp zs.length cap] 43)) := (Below.refl _ _).alloc (Nat.le_refl _) _
  obtain ⟨k, ek⟩ : ∃ k, kidsB l p = k := ⟨_, rfl⟩
  rw [ek] at K
  cases k
  · have e1 : kidA l p = 0 := by unfold kidA; rw [ek]; rfl
    have e2 : kidZ l p = 0 := by unfold kidZ; rw [ek]; rfl
    have e3 : pairV l zs p = 0 := by unfold pairV; rw [ek]; rfl
    have e4 : allV l zs p = 0 := by unfold allV; rw [ek]; rfl
    rw [e1, e2] at K
    rw [e3, e4]
    clear ek e1 e2 e3 e4 hroll
    go_enter Try.func80, Try.ntmps80
    go_wp2_with fail
    refine (K.out _).mono ?_
    rintro e w' ⟨rfl, rfl⟩
    go_wp2_with fail
    go_ret2
    exact ⟨rfl, hba⟩
  · obtain ⟨kb1, kb2⟩ := kids_bound ek
    have e1 : kidA l p = 2 * p := by unfold kidA; rw [ek]; rfl
    have e2 : kidZ l p = 2 * p + 1 := by unfold kidZ; rw [ek]; rfl
    have e3 : pairV l zs p = findL (2 * p) zs + findL (2 * p + 1) zs := by unfold pairV; rw [ek]; rfl
    have e4 : allV l zs p = findL (2 * p) zs + findL (2 * p + 1) zs + findL p zs := by unfold allV; rw [ek]; rfl
    rw [e3, e4, ← e2, ← e1]
    have G := hid (fun (i : Int) W (x : RdN W (.slice pp zs.length cap) zs) => r_stget l i W x hl)
    have b1 := hroll.find (kidA l p)
    have b2 := hroll.find (kidZ l p)
    have b3 := hroll.find p
    have b4 := hroll.most
    generalize kidA l p = ka at *
    generalize kidZ l p = kz at *
    obtain ⟨x1, ex1⟩ : ∃ x, findL ka zs = x := ⟨_, rfl⟩
    obtain ⟨x2, ex2⟩ : ∃ x, findL kz zs = x := ⟨_, rfl⟩
    obtain ⟨x3, ex3⟩ : ∃ x, findL p zs = x := ⟨_, rfl⟩
    have G1 := hid (fun W x => G.out ka W x)
    have G2 := hid (fun W x => G.out kz W x)
    have G3 := hid (fun W x => G.out p W x)
    have hkk : Hid (ka ≠ kz) := by show _ ≠ _; omega
    rw [ex1] at G1 b1 ⊢
    rw [ex2] at G2 b2 ⊢
    rw [ex3] at G3 b3 ⊢
    clear ek e1 e2 e3 e4 hroll ex1 ex2 ex3 G
    have hr2 := hr.below hba (Nat.le_refl _)
    have X := Blk.new w #[.int .i64 l, .slice pp zs.length cap] 43
    have hsz : (w.alloc (.cells #[.int .i64 l, .slice pp zs.length cap] 43)).heap.size = w.heap.size + 1 := by simp
    go_enter Try.func80, Try.ntmps80
    go_wp2_with fail
    refine (K.out _).mono ?_
    rintro e w' ⟨rfl, rfl⟩
    go_wp2_with fail
    generalize (w.alloc (.cells #[.int .i64 l, .slice pp zs.length cap] 43)) = w1 at *
    have x0 : w1.cell? ⟨w.heap.size, 0, none⟩ = some (.int .i64 l) := X.cell 0
    have x1' : w1.cell? ⟨w.heap.size, 1, none⟩ = some (.slice pp zs.length cap) := X.cell 1
    have hl0 : w.heap.size < w1.heap.size := by omega
    have hB0 := Below.refl w1.heap.size w1
    go_region_held3 (fun w' => w'.cell? ⟨w.heap.size, 0, none⟩ = some (.int .i64 l) ∧ w'.cell? ⟨w.heap.size, 1, none⟩ = some (.slice pp zs.length cap) ∧ Below w1.heap.size w1 w')
      (first
        | exact ⟨x0, x1', below_drewN hB0 1⟩
        | exact ⟨(X.below' hB6 hl0).cell 0, (X.below' hB6 hl0).cell 1, hB6⟩
        | exact ⟨(X.below' hB5 hl0).cell 0, (X.below' hB5 hl0).cell 1, hB5⟩)
      (first
        | (go_at_call_of 122 (Value.int .i64 ka); have hB4 := (‹_ ∧ _ ∧ Below w1.heap.size w1 _›).2.2; refine (G1.out _ (hr2.below hB4 (Nat.le_refl _))).mono ?_; rintro e w5 ⟨rfl, hb5⟩
           have hB5 := hB4.trans (hb5.mono hB4.size))
        | (go_at_call_of 122 (Value.int .i64 kz); have hB4 := (‹_ ∧ _ ∧ Below w1.heap.size w1 _›).2.2; refine (G2.out _ (hr2.below hB4 (Nat.le_refl _))).mono ?_; rintro e w6 ⟨rfl, hb6⟩
           have hB6 := hB4.trans (hb6.mono hB4.size)))
    have y0 : w6.cell? ⟨w.heap.size, 0, none⟩ = some (.int .i64 l) := (X.below' hB6 hl0).cell 0
    have y1 : w6.cell? ⟨w.heap.size, 1, none⟩ = some (.slice pp zs.length cap) := (X.below' hB6 hl0).cell 1
    have hs6 := hB6.size
    have es : IntKind.i64.wrap (x1 + x2) = x1 + x2 := IntWalk.i64_in _ (by omega)
    clear x0 x1'
    go_wp2_with fail
    refine (G3.out w6 (hr2.below hB6 (Nat.le_refl _))).mono ?_
    rintro e w7 ⟨rfl, hb7⟩
    try rw [es]
    clear es
    go_wp2_with fail
    go_ret2
    exact ⟨rfl, hba.trans ((hB6.trans (hb7.mono hs6)).mono (by omega))⟩

set_option maxRecDepth 100000 in
set_option maxHeartbeats 1000000 in
theorem r_ready {w : World} {l : Int} {zs : List Nd} {v : Value} (p most : Int) (hr : RdN w v zs) (hl : zs.length < 1048576) (hroll : Roll l zs) (bp : In64 p) :
    Calls Try.prog 78 #[.agg #[.int .i64 l, v], .int .i64 p, .int .i64 most] w fun e w' => e = .returned (.bool (readyB l zs p most)) ∧ Below w.heap.size w w' := by
  have hrw := hr
  obtain ⟨pp, cap, rfl⟩ := hr.val
  have M := hid (fun W (x : RdN W (.slice pp zs.length cap) zs) => r_mass p x hl hroll bp)
  have HR : Hid (readyB l zs p most = decide (0 < pairV l zs p ∧ allV l zs p ≤ most)) := rfl
  have hba : Below w.heap.size w (w.alloc (.cells #[.int .i64 l, .slice pp zs.length cap] 43)) := (Below.refl _ _).alloc (Nat.le_refl _) _
  generalize pairV l zs p = a at *
  generalize allV l zs p = b at *
  generalize readyB l zs p most = R at *
  by_cases h1 : 0 < a <;> by_cases h2 : b ≤ most
  all_goals
    have e := HR.out
    simp [h1, h2] at e
    subst e
    clear HR
    go_enter Try.func78, Try.ntmps78
    go_wp2_with fail
    refine (M.out _ (hr.below hba (Nat.le_refl _))).mono ?_
    rintro e w' ⟨rfl, hb⟩
    go_wp2_with fail
    go_ret
    exact ⟨ret_bool (by simp [h2]), hba.trans (hb.mono (by simp))⟩

def FoldPostP (q g h : Nat) (kind l : Int) (m : Nat) (r : List Nd × Int) (w : World) (e : Ending) (w' : World) : Prop :=
  e = .returned (.int .i64 r.2) ∧ ∃ h', PoolV w' q g h' kind l m r.1 ∧ (h' = h ∨ w.heap.size ≤ h') ∧ Tch g h w w'
set_option maxRecDepth 100000 in
set_option maxHeartbeats 1000000 in
theorem f_do {w : World} {q g h m : Nat} {kind l : Int} {zs : List Nd} (m' : Nat) (p : Int) (d : PoolV w q g h kind l m zs) (hm : m ≤ m') (hz : zs.length + 1 ≤ m') (hm' : m' ≤ 100000) (bp : In64 p) :
    Calls Try.prog 28 #[.pointer (some ⟨q, 0, none⟩), .int .i64 p] w (FoldPostP q g h kind l m' (foldDo l zs p) w) := by
  have hroll := d.roll
  have bl : In64 l := ⟨by have := hroll.l1; omega, by have := hroll.l2; omega⟩
  have K := hid (fun W : World => t_kids l p W bl bp)
  obtain ⟨k, ek⟩ : ∃ k, kidsB l p = k := ⟨_, rfl⟩
  rw [ek] at K
  cases k
  · have e1 : kidA l p = 0 := by unfold kidA; rw [ek]; rfl
    have e2 : kidZ l p = 0 := by unfold kidZ; rw [ek]; rfl
    have e3 : foldDo l zs p = (zs, 0) := by unfold foldDo; rw [ek]; rfl
    rw [e1, e2] at K
    rw [e3]
    clear ek e1 e2 e3 hroll
    go_enter Try.func28, Try.ntmps28
    go_wp2_with fail
    refine (pl_l d).mono ?_
    rintro e w' ⟨rfl, rfl⟩
    go_wp2_with fail
    refine (K.out w).mono ?_
    rintro e w' ⟨rfl, rfl⟩
    go_wp2_with fail
    go_ret
    exact ⟨rfl, h, d.mono hm, .inl rfl, Tch.refl _ _ _⟩
  · obtain ⟨kb1, kb2⟩ := kids_bound ek
    have e1 : kidA l p = 2 * p := by unfold kidA; rw [ek]; rfl
    have e2 : kidZ l p = 2 * p + 1 := by unfold kidZ; rw [ek]; rfl
    have e3 : foldDo l zs p = ((stAdd l (stTake (stTake zs (2 * p)).1 (2 * p + 1)).1 p ((stTake zs (2 * p)).2 + (stTake (stTake zs (2 * p)).1 (2 * p + 1)).2)).1, (stTake zs (2 * p)).2 + (stTake (stTake zs (2 * p)).1 (2 * p + 1)).2) := by unfold foldDo; rw [ek]; rfl
    rw [e1, e2] at K
    rw [e3]
    have r1 := hroll.take (2 * p)
    have b1 := hroll.find (2 * p)
    have b2 := r1.find (2 * p + 1)
    have b3 := r1.most
    have b4 := hroll.most
    have l1 := stTake_len zs (2 * p)
    have l2 := stTake_len (stTake zs (2 * p)).1 (2 * p + 1)
    have n1 : (stTake zs (2 * p)).2 = findL (2 * p) zs := rfl
    have n2 : (stTake (stTake zs (2 * p)).1 (2 * p + 1)).2 = findL (2 * p + 1) (stTake zs (2 * p)).1 := rfl
    rw [← n1] at b1
    rw [← n2] at b2
    have T1 := hid (fun W (x : PoolV W q g h kind l m zs) => pl_take (2 * p) x (by omega) ⟨by omega, by omega⟩)
    have T2 := hid (fun W (x : PoolV W q g h kind l m (stTake zs (2 * p)).1) => pl_take (2 * p + 1) x (by omega) ⟨by omega, by omega⟩)
    clear n1 n2 e1 e2 e3 ek r1 hroll
    generalize stTake zs (2 * p) = z1 at *
    obtain ⟨zs1, x1⟩ := z1
    simp only at *
    generalize stTake zs1 (2 * p + 1) = z2 at *
    obtain ⟨zs2, x2⟩ := z2
    simp only at *
    have Ad := hid (fun W (x : PoolV W q g h kind l m zs2) => pl_add m' p (x1 + x2) x hm (by omega) hm' bp ⟨by omega, by omega⟩)
    generalize stAdd l zs2 p (x1 + x2) = z3 at *
    go_enter Try.func28, Try.ntmps28
    go_wp2_with fail
    refine (pl_l d).mono ?_
    rintro e w' ⟨rfl, rfl⟩
    go_wp2_with fail
    refine (K.out w).mono ?_
    rintro e w' ⟨rfl, rfl⟩
    go_wp2_with fail
    refine (T1.out w d).mono ?_
    rintro e w1 ⟨rfl, d1, tc1⟩
    go_wp2_with fail
    refine (T2.out w1 d1).mono ?_
    rintro e w2 ⟨rfl, d2, tc2⟩
    go_wp2_with fail
    refine (Ad.out w2 d2).mono ?_
    rintro e w3 ⟨rfl, h', d3, hh, tc3⟩
    have hs1 := tc1.size
    have hs2 := tc2.size
    go_wp2_with fail
    go_ret
    refine ⟨rfl, h', d3, ?_, (tc1.trans tc2).trans tc3⟩
    rcases hh with e | e
    · exact .inl e
    · right; omega
end Go.Proofs.Ytejoecoenehooaa
