/- The closures of package lock. -/
import Derived.Test.YtabbceinagakfaaProg
import Derived.Below
import Derived.WalkKit
import Derived.KernelRfl
import Derived.RowKit
import Derived.RowKit3
import Derived.Tactics
import Derived.Deep.QuietTactic
import Derived.BigQuiet
import Derived.OwnWalk
import Derived.Outline
import Derived.Handy
import Derived.StillTailTactics
import Derived.Deep.RegionHeld3
import Derived.Deep.DeepCutAuto
import Derived.Deep.CutBlock
import Derived.Shelf.Abstract
import Derived.Lib.SmallJoins
import Derived.SliceStrings
import Derived.ArgAppend
import Derived.Deep.Slices
import Derived.ChangeSame
import Derived.Lib.Strings
import Derived.Test.YtabbceinagakfaaD3
namespace Go.Proofs.Ytabbceinagakfaa.K
open Go.RowKit Go.Proofs.YtabbceinagakfaaS
set_option linter.unusedSimpArgs false
set_option linter.unusedVariables false
attribute [local go_sem] s_leq s_gtr s_geq s_maxr s_minr
attribute [local go_sem] bc_alloc2 bc_alloc3 s_alloc_drewN s_setCell_drewN bc_alloc bc_drewN bc_drew

/-- A lock in a variable of its own. -/
structure Box6 (w : World) (g : Nat) (x : LockV) : Prop where
  lt : g < w.heap.size
  c0 : w.cell? ⟨g, 0, none⟩ = some (.int .i64 x.owner)
  c1 : w.cell? ⟨g, 1, none⟩ = some (.int .i64 x.table)
  c2 : w.cell? ⟨g, 2, none⟩ = some (.string x.lo)
  c3 : w.cell? ⟨g, 3, none⟩ = some (.string x.hi)
  c4 : w.cell? ⟨g, 4, none⟩ = some (.bool x.top)
  c5 : w.cell? ⟨g, 5, none⟩ = some (.int .i64 x.mode)
theorem Box6.below {w w' : World} {g : Nat} {x : LockV} (h : Box6 w g x) (hb : BelowC w w') : Box6 w' g x :=
  ⟨bc_lt hb h.lt, bc_cell h.c0 h.lt w' hb, bc_cell h.c1 h.lt w' hb, bc_cell h.c2 h.lt w' hb, bc_cell h.c3 h.lt w' hb, bc_cell h.c4 h.lt w' hb, bc_cell h.c5 h.lt w' hb⟩
def heldL (x y : LockV) : Bool := y.owner == x.owner && (y.table == x.table && (decide (x.mode ≤ y.mode) && withinB x.lo x.hi x.top y.lo y.hi y.top))
set_option maxHeartbeats 2000000 in
theorem Lit46 (y : LockV) (w : World) : Calls Try.prog 46 #[y.val] w (Ret (.bool (!isL y)) w) := by
  have hA := bc_refl w
  go_enter Try.func46, Try.ntmps46
  go_wp2_with (go_at_call 27; (with_reducible refine (lockIs y _).mono ?_); rintro e v1 ⟨rfl, hb⟩; have HX : BelowC w v1 := bc_step (by repeat (with_reducible first | assumption | exact bc_refl _ | apply bc_alloc | apply bc_drewN | apply bc_drew)) hb; clear hb)
  go_returns
  exact ⟨by simp, HX⟩
set_option maxHeartbeats 2000000 in
theorem Lit47 (x y : LockV) (B : Nat) (w : World) (h : Box6 w B x) : Calls Try.prog 47 #[y.val, .pointer (some ⟨B, 0, none⟩)] w (Ret (.bool (sameL x y || clashL x y)) w) := by
  obtain ⟨wb, hA, hAA, hsz, c0, c1, c2, c3, c4, c5⟩ : ∃ wb : World, BelowC w wb ∧ BelowC wb (w.alloc (.cells #[.int .i64 y.owner, .int .i64 y.table, .string y.lo, .string y.hi, .bool y.top, .int .i64 y.mode] 31)) ∧ w.heap.size + 1 ≤ wb.heap.size ∧ (∀ w', BelowC wb w' → w'.cell? ⟨w.heap.size, 0, none⟩ = some (.int .i64 y.owner)) ∧ (∀ w', BelowC wb w' → w'.cell? ⟨w.heap.size, 1, none⟩ = some (.int .i64 y.table)) ∧ (∀ w', BelowC wb w' → w'.cell? ⟨w.heap.size, 2, none⟩ = some (.string y.lo)) ∧ (∀ w', BelowC wb w' → w'.cell? ⟨w.heap.size, 3, none⟩ = some (.string y.hi)) ∧ (∀ w', BelowC wb w' → w'.cell? ⟨w.heap.size, 4, none⟩ = some (.bool y.top)) ∧ (∀ w', BelowC wb w' → w'.cell? ⟨w.heap.size, 5, none⟩ = some (.int .i64 y.mode)) := ⟨_, bc_alloc (bc_refl _) _, bc_refl _, by simp, bc_cell (by go_simp) (by first | (simp; done) | (simp; omega)), bc_cell (by go_simp) (by first | (simp; done) | (simp; omega)), bc_cell (by go_simp) (by first | (simp; done) | (simp; omega)), bc_cell (by go_simp) (by first | (simp; done) | (simp; omega)), bc_cell (by go_simp) (by first | (simp; done) | (simp; omega)), bc_cell (by go_simp) (by first | (simp; done) | (simp; omega))⟩
  have e0 := bc_cell h.c0 h.lt
  have g0 := bc_cell (h.below hA).c0 (h.below hA).lt
  have e1 := bc_cell h.c1 h.lt
  have g1 := bc_cell (h.below hA).c1 (h.below hA).lt
  have e2 := bc_cell h.c2 h.lt
  have g2 := bc_cell (h.below hA).c2 (h.below hA).lt
  have e3 := bc_cell h.c3 h.lt
  have g3 := bc_cell (h.below hA).c3 (h.below hA).lt
  have e4 := bc_cell h.c4 h.lt
  have g4 := bc_cell (h.below hA).c4 (h.below hA).lt
  have e5 := bc_cell h.c5 h.lt
  have g5 := bc_cell (h.below hA).c5 (h.below hA).lt
  have hlt := h.lt
  have h00 := bc_refl w
  cases h1 : sameL x y
  · go_enter Try.func47, Try.ntmps47
    go_wp2_with (first | (go_at_call 48; (with_reducible refine (same x y _).mono ?_); rintro e v1 ⟨rfl, hb⟩; have HX : BelowC wb v1 := bc_step (by repeat (with_reducible first | assumption | exact bc_refl _ | apply bc_alloc | apply bc_drewN | apply bc_drew)) hb; clear hb) | (go_at_call 49; (with_reducible refine (clash x y _).mono ?_); rintro e v1 ⟨rfl, hb⟩; have HX : BelowC wb v1 := bc_step (by repeat (with_reducible first | assumption | exact bc_refl _ | apply bc_alloc | apply bc_drewN | apply bc_drew)) hb; clear hb))
    go_returns
    exact ⟨by simp, by first | exact bc_trans hA (by with_reducible assumption) | exact bc_trans hA hAA | exact bc_alloc2 (bc_refl _) _ _ | exact bc_alloc (bc_refl _) _⟩
  · go_enter Try.func47, Try.ntmps47
    go_wp2_with (first | (go_at_call 48; (with_reducible refine (same x y _).mono ?_); rintro e v1 ⟨rfl, hb⟩; have HX : BelowC wb v1 := bc_step (by repeat (with_reducible first | assumption | exact bc_refl _ | apply bc_alloc | apply bc_drewN | apply bc_drew)) hb; clear hb) | (go_at_call 49; (with_reducible refine (clash x y _).mono ?_); rintro e v1 ⟨rfl, hb⟩; have HX : BelowC wb v1 := bc_step (by repeat (with_reducible first | assumption | exact bc_refl _ | apply bc_alloc | apply bc_drewN | apply bc_drew)) hb; clear hb))
    go_returns
    exact ⟨by simp, by first | exact bc_trans hA (by with_reducible assumption) | exact bc_trans hA hAA | exact bc_alloc2 (bc_refl _) _ _ | exact bc_alloc (bc_refl _) _⟩
set_option maxHeartbeats 2000000 in
theorem Lit55 (x y : LockV) (B : Nat) (w : World) (h : Box6 w B x) : Calls Try.prog 55 #[y.val, .pointer (some ⟨B, 0, none⟩)] w (Ret (.bool (sameL x y)) w) := by
  obtain ⟨wb, hA, hAA, hsz, c0, c1, c2, c3, c4, c5⟩ : ∃ wb : World, BelowC w wb ∧ BelowC wb (w.alloc (.cells #[.int .i64 y.owner, .int .i64 y.table, .string y.lo, .string y.hi, .bool y.top, .int .i64 y.mode] 31)) ∧ w.heap.size + 1 ≤ wb.heap.size ∧ (∀ w', BelowC wb w' → w'.cell? ⟨w.heap.size, 0, none⟩ = some (.int .i64 y.owner)) ∧ (∀ w', BelowC wb w' → w'.cell? ⟨w.heap.size, 1, none⟩ = some (.int .i64 y.table)) ∧ (∀ w', BelowC wb w' → w'.cell? ⟨w.heap.size, 2, none⟩ = some (.string y.lo)) ∧ (∀ w', BelowC wb w' → w'.cell? ⟨w.heap.size, 3, none⟩ = some (.string y.hi)) ∧ (∀ w', BelowC wb w' → w'.cell? ⟨w.heap.size, 4, none⟩ = some (.bool y.top)) ∧ (∀ w', BelowC wb w' → w'.cell? ⟨w.heap.size, 5, none⟩ = some (.int .i64 y.mode)) := ⟨_, bc_alloc (bc_refl _) _, bc_refl _, by simp, bc_cell (by go_simp) (by first | (simp; done) | (simp; omega)), bc_cell (by go_simp) (by first | (simp; done) | (simp; omega)), bc_cell (by go_simp) (by first | (simp; done) | (simp; omega)), bc_cell (by go_simp) (by first | (simp; done) | (simp; omega)), bc_cell (by go_simp) (by first | (simp; done) | (simp; omega)), bc_cell (by go_simp) (by first | (simp; done) | (simp; omega))⟩
  have e0 := bc_cell h.c0 h.lt
  have g0 := bc_cell (h.below hA).c0 (h.below hA).lt
  have e1 := bc_cell h.c1 h.lt
  have g1 := bc_cell (h.below hA).c1 (h.below hA).lt
  have e2 := bc_cell h.c2 h.lt
  have g2 := bc_cell (h.below hA).c2 (h.below hA).lt
  have e3 := bc_cell h.c3 h.lt
  have g3 := bc_cell (h.below hA).c3 (h.below hA).lt
  have e4 := bc_cell h.c4 h.lt
  have g4 := bc_cell (h.below hA).c4 (h.below hA).lt
  have e5 := bc_cell h.c5 h.lt
  have g5 := bc_cell (h.below hA).c5 (h.below hA).lt
  have hlt := h.lt
  have h00 := bc_refl w
  go_enter Try.func55, Try.ntmps55
  go_wp2_with (first | (go_at_call 48; (with_reducible refine (same x y _).mono ?_); rintro e v1 ⟨rfl, hb⟩; have HX : BelowC wb v1 := bc_step (by repeat (with_reducible first | assumption | exact bc_refl _ | apply bc_alloc | apply bc_drewN | apply bc_drew)) hb; clear hb))
  go_returns
  exact ⟨rfl, by first | exact bc_trans hA (by with_reducible assumption) | exact bc_trans hA hAA | exact bc_alloc2 (bc_refl _) _ _ | exact bc_alloc (bc_refl _) _⟩
theorem Lit58 (o : Int) (y : LockV) (B : Nat) (w : World) (hB : B < w.heap.size) (h : w.cell? ⟨B, 0, none⟩ = some (.int .i64 o)) : Calls Try.prog 58 #[y.val, .pointer (some ⟨B, 0, none⟩)] w (Ret (.bool (y.owner == o)) w) := by
  go_enter Try.func58, Try.ntmps58
  go_wp2_with fail
  go_returns
  exact ⟨rfl, bc_alloc (bc_refl _) _⟩
theorem Lit63 (o : Int) (y : LockV) (B : Nat) (w : World) (hB : B < w.heap.size) (h : w.cell? ⟨B, 0, none⟩ = some (.int .i64 o)) : Calls Try.prog 63 #[y.val, .pointer (some ⟨B, 0, none⟩)] w (Ret (.bool (!(y.owner == o))) w) := by
  go_enter Try.func63, Try.ntmps63
  go_wp2_with fail
  go_returns
  exact ⟨rfl, bc_alloc (bc_refl _) _⟩
set_option maxHeartbeats 2000000 in
theorem Lit59 (x y : LockV) (B : Nat) (w : World) (h : Box6 w B x) : Calls Try.prog 59 #[y.val, .pointer (some ⟨B, 0, none⟩)] w (Ret (.bool (heldL x y)) w) := by
  obtain ⟨o', t', lo', hi', top', m'⟩ := x
  obtain ⟨o, t, lo, hi, top, m⟩ := y
  simp only [LockV.val, heldL]
  by_cases h1 : o = o'
  · subst h1
    by_cases h2 : t = t'
    · subst h2
      by_cases h3 : m' ≤ m
      · obtain ⟨wb, hA, hAA, hsz, c0, c1, c2, c3, c4, c5⟩ : ∃ wb : World, BelowC w wb ∧ BelowC wb (w.alloc (.cells #[.int .i64 o, .int .i64 t, .string lo, .string hi, .bool top, .int .i64 m] 31)) ∧ w.heap.size + 1 ≤ wb.heap.size ∧ (∀ w', BelowC wb w' → w'.cell? ⟨w.heap.size, 0, none⟩ = some (.int .i64 o)) ∧ (∀ w', BelowC wb w' → w'.cell? ⟨w.heap.size, 1, none⟩ = some (.int .i64 t)) ∧ (∀ w', BelowC wb w' → w'.cell? ⟨w.heap.size, 2, none⟩ = some (.string lo)) ∧ (∀ w', BelowC wb w' → w'.cell? ⟨w.heap.size, 3, none⟩ = some (.string hi)) ∧ (∀ w', BelowC wb w' → w'.cell? ⟨w.heap.size, 4, none⟩ = some (.bool top)) ∧ (∀ w', BelowC wb w' → w'.cell? ⟨w.heap.size, 5, none⟩ = some (.int .i64 m)) := ⟨_, bc_alloc (bc_refl _) _, bc_refl _, by simp, bc_cell (by go_simp) (by first | (simp; done) | (simp; omega)), bc_cell (by go_simp) (by first | (simp; done) | (simp; omega)), bc_cell (by go_simp) (by first | (simp; done) | (simp; omega)), bc_cell (by go_simp) (by first | (simp; done) | (simp; omega)), bc_cell (by go_simp) (by first | (simp; done) | (simp; omega)), bc_cell (by go_simp) (by first | (simp; done) | (simp; omega))⟩
        have e0 := bc_cell h.c0 h.lt
        have g0 := bc_cell (h.below hA).c0 (h.below hA).lt
        have e1 := bc_cell h.c1 h.lt
        have g1 := bc_cell (h.below hA).c1 (h.below hA).lt
        have e2 := bc_cell h.c2 h.lt
        have g2 := bc_cell (h.below hA).c2 (h.below hA).lt
        have e3 := bc_cell h.c3 h.lt
        have g3 := bc_cell (h.below hA).c3 (h.below hA).lt
        have e4 := bc_cell h.c4 h.lt
        have g4 := bc_cell (h.below hA).c4 (h.below hA).lt
        have e5 := bc_cell h.c5 h.lt
        have g5 := bc_cell (h.below hA).c5 (h.below hA).lt
        have hlt := h.lt
        have h00 := bc_refl w
        go_enter Try.func59, Try.ntmps59
        go_wp2_with (first | (go_at_call 60; (with_reducible refine (Within _ _ _ _ _ _ _).mono ?_); rintro e v1 ⟨rfl, hb⟩; have HX : BelowC wb v1 := bc_step (by repeat (with_reducible first | assumption | exact bc_refl _ | apply bc_alloc | apply bc_drewN | apply bc_drew)) hb; clear hb))
        all_goals
          go_returns
          exact ⟨by simp [h3], by first | exact bc_trans hA (by with_reducible assumption) | exact bc_trans hA hAA | exact bc_alloc2 (bc_refl _) _ _ | exact bc_alloc (bc_refl _) _⟩
      · obtain ⟨wb, hA, hAA, hsz, c0, c1, c2, c3, c4, c5⟩ : ∃ wb : World, BelowC w wb ∧ BelowC wb (w.alloc (.cells #[.int .i64 o, .int .i64 t, .string lo, .string hi, .bool top, .int .i64 m] 31)) ∧ w.heap.size + 1 ≤ wb.heap.size ∧ (∀ w', BelowC wb w' → w'.cell? ⟨w.heap.size, 0, none⟩ = some (.int .i64 o)) ∧ (∀ w', BelowC wb w' → w'.cell? ⟨w.heap.size, 1, none⟩ = some (.int .i64 t)) ∧ (∀ w', BelowC wb w' → w'.cell? ⟨w.heap.size, 2, none⟩ = some (.string lo)) ∧ (∀ w', BelowC wb w' → w'.cell? ⟨w.heap.size, 3, none⟩ = some (.string hi)) ∧ (∀ w', BelowC wb w' → w'.cell? ⟨w.heap.size, 4, none⟩ = some (.bool top)) ∧ (∀ w', BelowC wb w' → w'.cell? ⟨w.heap.size, 5, none⟩ = some (.int .i64 m)) := ⟨_, bc_alloc (bc_refl _) _, bc_refl _, by simp, bc_cell (by go_simp) (by first | (simp; done) | (simp; omega)), bc_cell (by go_simp) (by first | (simp; done) | (simp; omega)), bc_cell (by go_simp) (by first | (simp; done) | (simp; omega)), bc_cell (by go_simp) (by first | (simp; done) | (simp; omega)), bc_cell (by go_simp) (by first | (simp; done) | (simp; omega)), bc_cell (by go_simp) (by first | (simp; done) | (simp; omega))⟩
        have e0 := bc_cell h.c0 h.lt
        have g0 := bc_cell (h.below hA).c0 (h.below hA).lt
        have e1 := bc_cell h.c1 h.lt
        have g1 := bc_cell (h.below hA).c1 (h.below hA).lt
        have e2 := bc_cell h.c2 h.lt
        have g2 := bc_cell (h.below hA).c2 (h.below hA).lt
        have e3 := bc_cell h.c3 h.lt
        have g3 := bc_cell (h.below hA).c3 (h.below hA).lt
        have e4 := bc_cell h.c4 h.lt
        have g4 := bc_cell (h.below hA).c4 (h.below hA).lt
        have e5 := bc_cell h.c5 h.lt
        have g5 := bc_cell (h.below hA).c5 (h.below hA).lt
        have hlt := h.lt
        have h00 := bc_refl w
        go_enter Try.func59, Try.ntmps59
        go_wp2_with (first | (go_at_call 60; (with_reducible refine (Within _ _ _ _ _ _ _).mono ?_); rintro e v1 ⟨rfl, hb⟩; have HX : BelowC wb v1 := bc_step (by repeat (with_reducible first | assumption | exact bc_refl _ | apply bc_alloc | apply bc_drewN | apply bc_drew)) hb; clear hb))
        all_goals
          go_returns
          exact ⟨by have h4 : ¬ m' ≤ m := by omega
                    simp [h4], by first | exact bc_trans hA (by with_reducible assumption) | exact bc_trans hA hAA | exact bc_alloc2 (bc_refl _) _ _ | exact bc_alloc (bc_refl _) _⟩
    · obtain ⟨wb, hA, hAA, hsz, c0, c1, c2, c3, c4, c5⟩ : ∃ wb : World, BelowC w wb ∧ BelowC wb (w.alloc (.cells #[.int .i64 o, .int .i64 t, .string lo, .string hi, .bool top, .int .i64 m] 31)) ∧ w.heap.size + 1 ≤ wb.heap.size ∧ (∀ w', BelowC wb w' → w'.cell? ⟨w.heap.size, 0, none⟩ = some (.int .i64 o)) ∧ (∀ w', BelowC wb w' → w'.cell? ⟨w.heap.size, 1, none⟩ = some (.int .i64 t)) ∧ (∀ w', BelowC wb w' → w'.cell? ⟨w.heap.size, 2, none⟩ = some (.string lo)) ∧ (∀ w', BelowC wb w' → w'.cell? ⟨w.heap.size, 3, none⟩ = some (.string hi)) ∧ (∀ w', BelowC wb w' → w'.cell? ⟨w.heap.size, 4, none⟩ = some (.bool top)) ∧ (∀ w', BelowC wb w' → w'.cell? ⟨w.heap.size, 5, none⟩ = some (.int .i64 m)) := ⟨_, bc_alloc (bc_refl _) _, bc_refl _, by simp, bc_cell (by go_simp) (by first | (simp; done) | (simp; omega)), bc_cell (by go_simp) (by first | (simp; done) | (simp; omega)), bc_cell (by go_simp) (by first | (simp; done) | (simp; omega)), bc_cell (by go_simp) (by first | (simp; done) | (simp; omega)), bc_cell (by go_simp) (by first | (simp; done) | (simp; omega)), bc_cell (by go_simp) (by first | (simp; done) | (simp; omega))⟩
      have e0 := bc_cell h.c0 h.lt
      have g0 := bc_cell (h.below hA).c0 (h.below hA).lt
      have e1 := bc_cell h.c1 h.lt
      have g1 := bc_cell (h.below hA).c1 (h.below hA).lt
      have e2 := bc_cell h.c2 h.lt
      have g2 := bc_cell (h.below hA).c2 (h.below hA).lt
      have e3 := bc_cell h.c3 h.lt
      have g3 := bc_cell (h.below hA).c3 (h.below hA).lt
      have e4 := bc_cell h.c4 h.lt
      have g4 := bc_cell (h.below hA).c4 (h.below hA).lt
      have e5 := bc_cell h.c5 h.lt
      have g5 := bc_cell (h.below hA).c5 (h.below hA).lt
      have hlt := h.lt
      have h00 := bc_refl w
      go_enter Try.func59, Try.ntmps59
      go_wp2_with (first | (go_at_call 60; (with_reducible refine (Within _ _ _ _ _ _ _).mono ?_); rintro e v1 ⟨rfl, hb⟩; have HX : BelowC wb v1 := bc_step (by repeat (with_reducible first | assumption | exact bc_refl _ | apply bc_alloc | apply bc_drewN | apply bc_drew)) hb; clear hb))
      all_goals
        go_returns
        exact ⟨by simp [h2], by first | exact bc_trans hA (by with_reducible assumption) | exact bc_trans hA hAA | exact bc_alloc2 (bc_refl _) _ _ | exact bc_alloc (bc_refl _) _⟩
  · obtain ⟨wb, hA, hAA, hsz, c0, c1, c2, c3, c4, c5⟩ : ∃ wb : World, BelowC w wb ∧ BelowC wb (w.alloc (.cells #[.int .i64 o, .int .i64 t, .string lo, .string hi, .bool top, .int .i64 m] 31)) ∧ w.heap.size + 1 ≤ wb.heap.size ∧ (∀ w', BelowC wb w' → w'.cell? ⟨w.heap.size, 0, none⟩ = some (.int .i64 o)) ∧ (∀ w', BelowC wb w' → w'.cell? ⟨w.heap.size, 1, none⟩ = some (.int .i64 t)) ∧ (∀ w', BelowC wb w' → w'.cell? ⟨w.heap.size, 2, none⟩ = some (.string lo)) ∧ (∀ w', BelowC wb w' → w'.cell? ⟨w.heap.size, 3, none⟩ = some (.string hi)) ∧ (∀ w', BelowC wb w' → w'.cell? ⟨w.heap.size, 4, none⟩ = some (.bool top)) ∧ (∀ w', BelowC wb w' → w'.cell? ⟨w.heap.size, 5, none⟩ = some (.int .i64 m)) := ⟨_, bc_alloc (bc_refl _) _, bc_refl _, by simp, bc_cell (by go_simp) (by first | (simp; done) | (simp; omega)), bc_cell (by go_simp) (by first | (simp; done) | (simp; omega)), bc_cell (by go_simp) (by first | (simp; done) | (simp; omega)), bc_cell (by go_simp) (by first | (simp; done) | (simp; omega)), bc_cell (by go_simp) (by first | (simp; done) | (simp; omega)), bc_cell (by go_simp) (by first | (simp; done) | (simp; omega))⟩
    have e0 := bc_cell h.c0 h.lt
    have g0 := bc_cell (h.below hA).c0 (h.below hA).lt
    have e1 := bc_cell h.c1 h.lt
    have g1 := bc_cell (h.below hA).c1 (h.below hA).lt
    have e2 := bc_cell h.c2 h.lt
    have g2 := bc_cell (h.below hA).c2 (h.below hA).lt
    have e3 := bc_cell h.c3 h.lt
    have g3 := bc_cell (h.below hA).c3 (h.below hA).lt
    have e4 := bc_cell h.c4 h.lt
    have g4 := bc_cell (h.below hA).c4 (h.below hA).lt
    have e5 := bc_cell h.c5 h.lt
    have g5 := bc_cell (h.below hA).c5 (h.below hA).lt
    have hlt := h.lt
    have h00 := bc_refl w
    go_enter Try.func59, Try.ntmps59
    go_wp2_with (first | (go_at_call 60; (with_reducible refine (Within _ _ _ _ _ _ _).mono ?_); rintro e v1 ⟨rfl, hb⟩; have HX : BelowC wb v1 := bc_step (by repeat (with_reducible first | assumption | exact bc_refl _ | apply bc_alloc | apply bc_drewN | apply bc_drew)) hb; clear hb))
    all_goals
      go_returns
      exact ⟨by simp [h1], by first | exact bc_trans hA (by with_reducible assumption) | exact bc_trans hA hAA | exact bc_alloc2 (bc_refl _) _ _ | exact bc_alloc (bc_refl _) _⟩
end Go.Proofs.Ytabbceinagakfaa.K
