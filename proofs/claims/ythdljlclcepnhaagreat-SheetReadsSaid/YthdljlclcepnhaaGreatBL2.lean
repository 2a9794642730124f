/- Texts laid together: Bl6, Bl7, Bl8, Bl9, Bl10. -/
import Derived.Test.YthdljlclcepnhaaGreatMM
import Derived.Test.YthdljlclcepnhaaGreatDR
import Derived.Test.YthdljlclcepnhaaGreatBL
/- The walks of the reference's layer 14. -/
namespace Go.Proofs.YthdljlclcepnhaaGreat
open Go.RowKit Nl

end Go.Proofs.YthdljlclcepnhaaGreat

/- The walk of law 14's Like, where it holds. -/
namespace Go.Proofs.YthdljlclcepnhaaGreat
open Go.RowKit Nl

set_option maxRecDepth 100000 in
set_option maxHeartbeats 4000000 in
theorem d_like14 {w : World} {dg q g h m : Nat} {kind l k : Int} {zs : List Nd} {v : Value} (d : DgV w dg q g h kind l k m zs) (hm : m ≤ 100000) (hr : RdN w v zs) (hl : zs.length ≤ 4000) :
    Calls Tryz.prog 8 #[.pointer (some ⟨dg, 0, none⟩), .int .i64 kind, .agg #[.int .i64 k, .int .i64 l, v]] w fun e w' => e = .returned (.bool true) ∧ Below w.heap.size w w' := by
  obtain ⟨p, cap, rfl⟩ := hr.val
  have hroll := d.inv.roll
  have CF := hid (fun W (y : DgV W dg q g h kind l k m zs) => dg_conf y)
  have NN := hid (fun W (y : DgV W dg q g h kind l k m zs) => dg_n y)
  have NO := hid (fun W (y : DgV W dg q g h kind l k m zs) => dg_nodes y hm)
  have WT := hid (fun W (y : RdN W (.slice p zs.length cap) zs) => r_dweight k y (by omega) hroll)
  have SM0 := fun W va (x : RdN W va zs) (y : RdN W (.slice p zs.length cap) zs) => r_same W x y (by omega) (by omega)
  simp only [decide_true] at SM0
  have SM := hid SM0
  have Y := Blk.new w #[.int .i64 k, .int .i64 l, .slice p zs.length cap] 27
  have hb0 : Below w.heap.size w (w.alloc (.cells #[.int .i64 k, .int .i64 l, .slice p zs.length cap] 27)) := (Below.refl _ _).alloc (Nat.le_refl _) _
  have hsz : (w.alloc (.cells #[.int .i64 k, .int .i64 l, .slice p zs.length cap] 27)).heap.size = w.heap.size + 1 := by simp
  have d1 := d.below hb0 (Nat.le_refl _)
  have hr1 := hr.below hb0 (Nat.le_refl _)
  have hce := fun W : World => conf_eq3 l k kind l k kind W
  have hz : ((l == l) && ((k == k) && (kind == kind))) = true := by simp
  rw [hz] at hce
  generalize sumL zs = S at *
  clear SM0 hroll d hz
  go_enter Tryz.func8, Tryz.ntmps8
  go_wp2_with fail
  generalize (w.alloc (.cells #[.int .i64 k, .int .i64 l, .slice p zs.length cap] 27)) = w1 at *
  have FX := hid (fun W (hb : Below w1.heap.size w1 W) => show W.cell? ⟨w.heap.size, 0, none⟩ = some (.int .i64 k) ∧ W.cell? ⟨w.heap.size, 1, none⟩ = some (.int .i64 l) ∧ W.cell? ⟨w.heap.size, 2, none⟩ = some (.slice p zs.length cap) ∧ Below w1.heap.size w1 W from
    ⟨(Y.below hb (Nat.le_refl _)).cell 0, (Y.below hb (Nat.le_refl _)).cell 1, (Y.below hb (Nat.le_refl _)).cell 2, hb⟩)
  have hB0 := Below.refl w1.heap.size w1
  have e1 : (S == S) = true := by simp
  go_region_held3 (fun w' => w'.cell? ⟨w.heap.size, 0, none⟩ = some (.int .i64 k) ∧ w'.cell? ⟨w.heap.size, 1, none⟩ = some (.int .i64 l) ∧ w'.cell? ⟨w.heap.size, 2, none⟩ = some (.slice p zs.length cap) ∧ Below w1.heap.size w1 w')
    (first
      | exact FX.out _ (below_drewN hB0 1)
      | exact FX.out _ hBn)
    (first
      | (go_at_call 13; have hBa := (‹_ ∧ _ ∧ _ ∧ Below w1.heap.size w1 _›).2.2.2; refine (CF.out _ (d1.below hBa (Nat.le_refl _))).mono ?_; rintro e w2 ⟨rfl, hb2⟩
         have hBn := hBa.trans (hb2.mono hBa.size))
      | (go_at_call 26; have hBa := (‹_ ∧ _ ∧ _ ∧ Below w1.heap.size w1 _›).2.2.2; refine (NO.out _ (d1.below hBa (Nat.le_refl _))).mono ?_; rintro e w3 hN; obtain ⟨v3, rfl, own3, hb3⟩ := hN; obtain ⟨p3, c3, rfl⟩ := own3.val
         have hBn := hBa.trans (hb3.mono hBa.size))
      | (go_at_call 25; have hBa := (‹_ ∧ _ ∧ _ ∧ Below w1.heap.size w1 _›).2.2.2; refine (SM.out _ _ own3.rd (hr1.below hBa (Nat.le_refl _))).mono ?_; rintro e w4 ⟨rfl, n4, rfl⟩
         have hBn := below_drewN hBa n4)
      | (go_at_call 27; have hBn := (‹_ ∧ _ ∧ _ ∧ Below w1.heap.size w1 _›).2.2.2; refine (NN.out _ (d1.below hBn (Nat.le_refl _))).mono ?_; rintro e w5 ⟨rfl, rfl⟩)
      | (go_at_call 28; have hBa := (‹_ ∧ _ ∧ _ ∧ Below w1.heap.size w1 _›).2.2.2; refine (WT.out _ (hr1.below hBa (Nat.le_refl _))).mono ?_; rintro e w6 ⟨rfl, hb6⟩
         have hBn := hBa.trans (hb6.mono hBa.size)))
  all_goals
    go_wp2_with fail
    go_ret
    exact ⟨rfl, hb0.trans (hBn.mono (by omega))⟩
end Go.Proofs.YthdljlclcepnhaaGreat

/- The walk of law 13's Few, where there is no digest. -/
namespace Go.Proofs.YthdljlclcepnhaaGreat
open Go.RowKit Nl

end Go.Proofs.YthdljlclcepnhaaGreat

/- The walk of the reference's Of: the digest of calls. -/
namespace Go.Proofs.YthdljlclcepnhaaGreat
open Go.RowKit Nl

def OfPost (l k : Int) (n : Nat) (Z : List Nd) (w : World) (e : Ending) (w' : World) : Prop := ∃ v, e = .returned (.agg #[.int .i64 k, .int .i64 l, v]) ∧ RdN w' v Z ∧ NotD v Z (fun j => j < w.heap.size) ∧ Dg l k Z ∧ Z.length ≤ n ∧ Below w.heap.size w w'
def OfRel (l k : Int) (os : List Op3) (N : Nat) (w : World) (gn : Nat) (i : Value) (wr : World) : Prop :=
  ∃ (j : Nat) (zs : List Nd) (v : Value), i = .int .i64 j ∧ j ≤ N ∧ N - j ≤ gn ∧ zs.length ≤ j ∧
    Blk wr w.heap.size #[.int .i64 0, .int .i64 0, .slice none 0 0] 27 ∧ Blk wr (w.heap.size + 1) #[.int .i64 k, .int .i64 l, v] 27 ∧ RdN wr v zs ∧ NotD v zs (fun j => j ≤ w.heap.size + 1) ∧ Dg l k zs ∧ Hid (dgAll l k (os.take j) = zs) ∧ Below w.heap.size w wr

end Go.Proofs.YthdljlclcepnhaaGreat

/- The walk of law 14's Made: a side's digest, and the document's. -/
namespace Go.Proofs.YthdljlclcepnhaaGreat
open Go.RowKit Nl

def SdPost (l k kind : Int) (n : Nat) (F : List Nd) (w : World) (e : Ending) (w' : World) : Prop :=
  ∃ dg q g h v, e = .returned (.tuple #[.pointer (some ⟨dg, 0, none⟩), .agg #[.int .i64 k, .int .i64 l, v]]) ∧ DgV w' dg q g h kind l k 2000 F ∧ RdN w' v F ∧ F.length ≤ n ∧ (∀ j, DB dg q g h j → w.heap.size ≤ j) ∧ Below w.heap.size w w'
/-- The same; the document's nodes lie in memory of their own. -/
def SdPostF (l k kind : Int) (n : Nat) (F : List Nd) (w : World) (e : Ending) (w' : World) : Prop :=
  ∃ dg q g h v, e = .returned (.tuple #[.pointer (some ⟨dg, 0, none⟩), .agg #[.int .i64 k, .int .i64 l, v]]) ∧ DgV w' dg q g h kind l k 2000 F ∧ RdN w' v F ∧ F.length ≤ n ∧ (∀ j, DB dg q g h j → w.heap.size ≤ j) ∧ NotD v F (fun j => j < w.heap.size) ∧ Below w.heap.size w w'

end Go.Proofs.YthdljlclcepnhaaGreat
