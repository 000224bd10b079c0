/- wakes. -/
import Derived.Test.YtabbceinagakfaaProg
import Derived.Below
import Derived.WalkKit
import Derived.KernelRfl
import Derived.RowKit
import Derived.RowKit3
import Derived.Tactics
import Derived.Deep.QuietTactic
import Derived.BigQuiet
import Derived.OwnWalk
import Derived.Outline
import Derived.Handy
import Derived.StillTailTactics
import Derived.Deep.RegionHeld3
import Derived.Deep.DeepCutAuto
import Derived.Deep.CutBlock
import Derived.Shelf.Abstract
import Derived.Shelf.SlSortCmp.QuietGrown
import Derived.Lib.SliceRun
import Derived.Sort.OwnSortedInts
import Derived.Lib.SlicesCompact
import Derived.Lib.SmallJoins
import Derived.SliceStrings
import Derived.ArgAppend
import Derived.Deep.Slices
import Derived.ChangeSame
import Derived.Lib.Strings
import Derived.Test.YtabbceinagakfaaD23
namespace Go.Proofs.Ytabbceinagakfaa.K
open Go.RowKit Go.Proofs.YtabbceinagakfaaS
set_option linter.unusedSimpArgs false
set_option linter.unusedVariables false
attribute [local go_sem] s_leq s_gtr s_geq s_maxr s_minr
attribute [local go_sem] bc_alloc2 bc_alloc3 s_alloc_drewN s_setCell_drewN bc_alloc bc_drewN bc_drew

def x0 : LockV := ⟨1, 0, ⟨#[97]⟩, ⟨#[98]⟩, false, 2⟩
theorem w0 : goodL [] x0 = true := by decide +kernel
theorem wo : othersL [] x0 = [] := by decide +kernel
theorem w1 : takeL [] x0 = [x0] ∧ takeE [] x0 = 0 := by
  have hp : takeP [] x0 = ([x0], 0) := by
    rw [takeP, wo, if_neg (by decide), if_neg (by simp), putL]
    rfl
  rw [takeL, takeE, w0, hp]
  exact ⟨rfl, rfl⟩
theorem w2 : (goodL [x0] x0 && [x0].any (heldL x0)) = true ∧ errI (goodL [x0] x0) = 0 := by decide +kernel
theorem size_gt {w v1 : World} {o : Obj} (hb : BelowC (w.alloc o) v1) : w.heap.size < v1.heap.size := by
  have h := Below.size hb
  rw [World.size_alloc] at h
  omega
theorem no_lks (w : World) : Lks w none 0 [] := ⟨rfl, by simp, fun h => absurd h (by simp)⟩
theorem x0_rules {w v1 : World} (hb : BelowC (w.alloc (.cells #[.int .i64 1, .int .i64 0, .string ⟨#[97]⟩, .string ⟨#[98]⟩, .bool false, .int .i64 2] 31)) v1) : Box6 v1 w.heap.size x0 := (box6_of w x0).below hb
theorem x0_cells {v1 : World} {g : Nat} (h : Box6 v1 g x0) : (∀ w', BelowC v1 w' → w'.cell? ⟨g, 0, none⟩ = some (.int .i64 1)) ∧ (∀ w', BelowC v1 w' → w'.cell? ⟨g, 1, none⟩ = some (.int .i64 0)) ∧ (∀ w', BelowC v1 w' → w'.cell? ⟨g, 2, none⟩ = some (.string ⟨#[97]⟩)) ∧ (∀ w', BelowC v1 w' → w'.cell? ⟨g, 3, none⟩ = some (.string ⟨#[98]⟩)) ∧ (∀ w', BelowC v1 w' → w'.cell? ⟨g, 4, none⟩ = some (.bool false)) ∧ (∀ w', BelowC v1 w' → w'.cell? ⟨g, 5, none⟩ = some (.int .i64 2)) :=
  ⟨fun w' hw => (h.below hw).c0, fun w' hw => (h.below hw).c1, fun w' hw => (h.below hw).c2, fun w' hw => (h.below hw).c3, fun w' hw => (h.below hw).c4, fun w' hw => (h.below hw).c5⟩
set_option maxRecDepth 100000 in
set_option maxHeartbeats 4000000 in
theorem wakes (w : World) : Calls Try.prog 16 #[] w (Ret (.bool true) w) := by
  have h0 := bc_refl w
  go_enter Try.func16, Try.ntmps16
  go_wp2_with fail
  refine (Take none 0 0 [] x0 _ (no_lks _) (Nat.le_refl _) (by decide)).mono ?_
  rintro e v1 ⟨v, rfl, hown, hb⟩
  rw [w1.1] at hown
  rw [w1.2]
  obtain ⟨A, n, c, rfl, hn, hnc, hL, _⟩ := own_form hown
  have hn1 : n = 1 := hn
  subst hn1
  have HL := hid hL
  have HNC := hid hnc
  have HX := hid (bc_trans (by repeat (with_reducible first | assumption | exact bc_refl _ | apply bc_alloc | apply bc_drewN | apply bc_drew)) hb : BelowC w v1)
  have HC := hid (fun W (hW : BelowC v1 W) => Covers A 1 c [x0] x0 W (HL.out.below hW) HNC.out)
  rw [w2.1, w2.2] at HC
  have hv := bc_refl v1
  obtain ⟨r0, r1, r2, r3, r4, r5⟩ := x0_cells (x0_rules hb)
  clear hb hown hn hnc hL
  go_wp2_with (first | (go_at_call 15; refine (HC.out _ hv).mono ?_; rintro e v2 ⟨rfl, hb⟩; have HX2 := hid hb; clear hb) | (go_at_call 13; refine (num' _ _).mono ?_; rintro ee _ ⟨rfl, rfl⟩))
  go_returns
  exact ⟨rfl, bc_trans HX.out HX2.out⟩
end Go.Proofs.Ytabbceinagakfaa.K
