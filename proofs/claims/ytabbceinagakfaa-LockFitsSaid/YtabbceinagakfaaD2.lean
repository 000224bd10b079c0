/- Locks: contracts. -/
import Derived.Test.YtabbceinagakfaaProg
import Derived.Below
import Derived.WalkKit
import Derived.KernelRfl
import Derived.RowKit
import Derived.RowKit3
import Derived.Tactics
import Derived.Deep.QuietTactic
import Derived.BigQuiet
import Derived.OwnWalk
import Derived.Outline
import Derived.Handy
import Derived.StillTailTactics
import Derived.Deep.RegionHeld3
import Derived.Deep.DeepCutAuto
import Derived.Deep.CutBlock
import Derived.Shelf.Abstract
import Derived.Lib.SmallJoins
import Derived.SliceStrings
import Derived.ArgAppend
import Derived.Deep.Slices
import Derived.ChangeSame
import Derived.Lib.Strings
import Derived.Test.YtabbceinagakfaaQ
namespace Go.Proofs.Ytabbceinagakfaa.K
open Go.RowKit Go.Proofs.YtabbceinagakfaaS
set_option linter.unusedSimpArgs false
set_option linter.unusedVariables false
attribute [local go_sem] s_leq s_gtr s_geq s_maxr s_minr
attribute [local go_sem] bc_alloc2 bc_alloc3 s_alloc_drewN s_setCell_drewN bc_alloc bc_drewN bc_drew

structure LockV where (owner table : Int) (lo hi : ByteArray) (top : Bool) (mode : Int)
instance : Inhabited LockV := ⟨⟨0, 0, ⟨#[]⟩, ⟨#[]⟩, false, 0⟩⟩
abbrev LockV.val (x : LockV) : Value := .agg #[.int .i64 x.owner, .int .i64 x.table, .string x.lo, .string x.hi, .bool x.top, .int .i64 x.mode]
def eqR (x y : LockV) : Bool := x.lo.toList == y.lo.toList && (x.hi.toList == y.hi.toList && x.top == y.top)
def isL (x : LockV) : Bool := numB x.owner 1073741824 && (numB x.table 2 && (mayB x.lo x.hi x.top && modeB x.mode))
def sameL (x y : LockV) : Bool := x.owner == y.owner && (x.table == y.table && eqR x y)
def clashL (x y : LockV) : Bool := !(x.owner == y.owner) && (x.table == y.table && (!togB x.mode y.mode && sharesB x.lo x.hi x.top y.lo y.hi y.top))
def fitR (a b : Int) : Bool := decide (wrap64 (a + b) ≤ 3)
theorem num' (n : Int) (w : World) : Calls Try.prog 13 #[.int .i64 n] w fun e w' => e = .returned (.int .i64 n) ∧ w = w' := by
  go_enter Try.func13, Try.ntmps13
  go_wp2
  go_returns
  exact ⟨rfl, rfl⟩
set_option maxHeartbeats 1000000 in
theorem Tog (a b : Int) (w : World) : Calls Try.prog 65 #[.int .i64 a, .int .i64 b] w (Ret (.bool (togB a b)) w) := by
  go_enter Try.func65, Try.ntmps65
  go_wp2
  all_goals
    go_returns
    refine ⟨?_, bc_refl _⟩
    by_cases g1 : a = 3 <;> by_cases g2 : b = 3 <;> by_cases g3 : a = 1 <;> by_cases g4 : b = 1 <;> simp_all [togB] <;> first | rfl | (rw [Bool.and_assoc]; rfl) | skip
theorem rFit (a b : Int) (w : World) : Calls Try.prog 22 #[.int .i64 a, .int .i64 b] w (Ret (.bool (fitR a b)) w) := by
  go_enter Try.func22, Try.ntmps22
  go_wp2
  go_returns
  exact ⟨rfl, bc_refl _⟩
set_option maxHeartbeats 2000000 in
theorem lockIs (x : LockV) (w : World) : Calls Try.prog 27 #[x.val] w (Ret (.bool (isL x)) w) := by
  obtain ⟨wb, hA, hAA, hsz, c0, c1, c2, c3, c4, c5⟩ : ∃ wb : World, BelowC w wb ∧ BelowC wb (w.alloc (.cells #[.int .i64 x.owner, .int .i64 x.table, .string x.lo, .string x.hi, .bool x.top, .int .i64 x.mode] 31)) ∧ w.heap.size + 1 ≤ wb.heap.size ∧ (∀ w', BelowC wb w' → w'.cell? ⟨w.heap.size, 0, none⟩ = some (.int .i64 x.owner)) ∧ (∀ w', BelowC wb w' → w'.cell? ⟨w.heap.size, 1, none⟩ = some (.int .i64 x.table)) ∧ (∀ w', BelowC wb w' → w'.cell? ⟨w.heap.size, 2, none⟩ = some (.string x.lo)) ∧ (∀ w', BelowC wb w' → w'.cell? ⟨w.heap.size, 3, none⟩ = some (.string x.hi)) ∧ (∀ w', BelowC wb w' → w'.cell? ⟨w.heap.size, 4, none⟩ = some (.bool x.top)) ∧ (∀ w', BelowC wb w' → w'.cell? ⟨w.heap.size, 5, none⟩ = some (.int .i64 x.mode)) := ⟨_, bc_alloc (bc_refl _) _, bc_refl _, by simp, bc_cell (by go_simp) (by first | (simp; done) | (simp; omega)), bc_cell (by go_simp) (by first | (simp; done) | (simp; omega)), bc_cell (by go_simp) (by first | (simp; done) | (simp; omega)), bc_cell (by go_simp) (by first | (simp; done) | (simp; omega)), bc_cell (by go_simp) (by first | (simp; done) | (simp; omega)), bc_cell (by go_simp) (by first | (simp; done) | (simp; omega))⟩
  cases h3 : mayB x.lo x.hi x.top <;> cases h4 : modeB x.mode
  all_goals
    go_enter Try.func27, Try.ntmps27
    go_wp2_with (first | (go_at_call 50; (with_reducible refine (May _ _ _ _).mono ?_); rintro e v1 ⟨rfl, hb⟩; have HX : BelowC wb v1 := bc_step (by repeat (with_reducible first | assumption | exact bc_refl _ | apply bc_alloc | apply bc_drewN | apply bc_drew)) hb; clear hb) | (go_at_call 51; (with_reducible refine (modeIs _ _).mono ?_); rintro e v1 ⟨rfl, hb⟩; have HX : BelowC wb v1 := bc_step (by repeat (with_reducible first | assumption | exact bc_refl _ | apply bc_alloc | apply bc_drewN | apply bc_drew)) hb; clear hb))
    all_goals
      go_returns
      refine ⟨?_, by first | exact bc_trans hA (by with_reducible assumption) | exact bc_trans hA hAA | exact bc_alloc2 (bc_refl _) _ _ | exact bc_alloc (bc_refl _) _⟩
      by_cases g1 : 0 ≤ x.owner <;> by_cases g2 : x.owner ≤ 1073741824 <;> by_cases g3 : 0 ≤ x.table <;> by_cases g4 : x.table ≤ 2 <;> simp [isL, numB, g1, g2, g3, g4, h3, h4] <;> first | omega | skip
set_option maxHeartbeats 2000000 in
theorem rLock (x : LockV) (w : World) : Calls Try.prog 10 #[x.val] w (Ret (.bool (isL x)) w) := by
  obtain ⟨wb, hA, hAA, hsz, c0, c1, c2, c3, c4, c5⟩ : ∃ wb : World, BelowC w wb ∧ BelowC wb (w.alloc (.cells #[.int .i64 x.owner, .int .i64 x.table, .string x.lo, .string x.hi, .bool x.top, .int .i64 x.mode] 31)) ∧ w.heap.size + 1 ≤ wb.heap.size ∧ (∀ w', BelowC wb w' → w'.cell? ⟨w.heap.size, 0, none⟩ = some (.int .i64 x.owner)) ∧ (∀ w', BelowC wb w' → w'.cell? ⟨w.heap.size, 1, none⟩ = some (.int .i64 x.table)) ∧ (∀ w', BelowC wb w' → w'.cell? ⟨w.heap.size, 2, none⟩ = some (.string x.lo)) ∧ (∀ w', BelowC wb w' → w'.cell? ⟨w.heap.size, 3, none⟩ = some (.string x.hi)) ∧ (∀ w', BelowC wb w' → w'.cell? ⟨w.heap.size, 4, none⟩ = some (.bool x.top)) ∧ (∀ w', BelowC wb w' → w'.cell? ⟨w.heap.size, 5, none⟩ = some (.int .i64 x.mode)) := ⟨_, bc_alloc (bc_refl _) _, bc_refl _, by simp, bc_cell (by go_simp) (by first | (simp; done) | (simp; omega)), bc_cell (by go_simp) (by first | (simp; done) | (simp; omega)), bc_cell (by go_simp) (by first | (simp; done) | (simp; omega)), bc_cell (by go_simp) (by first | (simp; done) | (simp; omega)), bc_cell (by go_simp) (by first | (simp; done) | (simp; omega)), bc_cell (by go_simp) (by first | (simp; done) | (simp; omega))⟩
  cases h1 : numB x.owner 1073741824 <;> cases h2 : numB x.table 2 <;> cases h3 : mayB x.lo x.hi x.top <;> cases h4 : modeB x.mode
  all_goals
    go_enter Try.func10, Try.ntmps10
    go_wp2_with (first | (go_at_call 23; (with_reducible refine (rNum _ _ _).mono ?_); rintro e v1 ⟨rfl, hb⟩; have HX : BelowC wb v1 := bc_step (by repeat (with_reducible first | assumption | exact bc_refl _ | apply bc_alloc | apply bc_drewN | apply bc_drew)) hb; clear hb) | (go_at_call 24; (with_reducible refine (rRange _ _ _ _).mono ?_); rintro e v1 ⟨rfl, hb⟩; have HX : BelowC wb v1 := bc_step (by repeat (with_reducible first | assumption | exact bc_refl _ | apply bc_alloc | apply bc_drewN | apply bc_drew)) hb; clear hb) | (go_at_call 25; (with_reducible refine (rMode _ _).mono ?_); rintro e v1 ⟨rfl, hb⟩; have HX : BelowC wb v1 := bc_step (by repeat (with_reducible first | assumption | exact bc_refl _ | apply bc_alloc | apply bc_drewN | apply bc_drew)) hb; clear hb))
    all_goals
      go_returns
      exact ⟨by simp [isL, h1, h2, h3, h4], by first | exact bc_trans hA (by with_reducible assumption) | exact bc_trans hA hAA | exact bc_alloc2 (bc_refl _) _ _ | exact bc_alloc (bc_refl _) _⟩
set_option maxHeartbeats 2000000 in
theorem same (x y : LockV) (w : World) : Calls Try.prog 48 #[x.val, y.val] w (Ret (.bool (sameL x y)) w) := by
  obtain ⟨wb, hA, hAA, hsz, c0, c1, c2, c3, c4, c5, d0, d1, d2, d3, d4, d5⟩ : ∃ wb : World, BelowC w wb ∧ BelowC wb ((w.alloc (.cells #[.int .i64 x.owner, .int .i64 x.table, .string x.lo, .string x.hi, .bool x.top, .int .i64 x.mode] 31)).alloc (.cells #[.int .i64 y.owner, .int .i64 y.table, .string y.lo, .string y.hi, .bool y.top, .int .i64 y.mode] 31)) ∧ w.heap.size + 2 ≤ wb.heap.size ∧ (∀ w', BelowC wb w' → w'.cell? ⟨w.heap.size, 0, none⟩ = some (.int .i64 x.owner)) ∧ (∀ w', BelowC wb w' → w'.cell? ⟨w.heap.size, 1, none⟩ = some (.int .i64 x.table)) ∧ (∀ w', BelowC wb w' → w'.cell? ⟨w.heap.size, 2, none⟩ = some (.string x.lo)) ∧ (∀ w', BelowC wb w' → w'.cell? ⟨w.heap.size, 3, none⟩ = some (.string x.hi)) ∧ (∀ w', BelowC wb w' → w'.cell? ⟨w.heap.size, 4, none⟩ = some (.bool x.top)) ∧ (∀ w', BelowC wb w' → w'.cell? ⟨w.heap.size, 5, none⟩ = some (.int .i64 x.mode)) ∧ (∀ w', BelowC wb w' → w'.cell? ⟨w.heap.size + 1, 0, none⟩ = some (.int .i64 y.owner)) ∧ (∀ w', BelowC wb w' → w'.cell? ⟨w.heap.size + 1, 1, none⟩ = some (.int .i64 y.table)) ∧ (∀ w', BelowC wb w' → w'.cell? ⟨w.heap.size + 1, 2, none⟩ = some (.string y.lo)) ∧ (∀ w', BelowC wb w' → w'.cell? ⟨w.heap.size + 1, 3, none⟩ = some (.string y.hi)) ∧ (∀ w', BelowC wb w' → w'.cell? ⟨w.heap.size + 1, 4, none⟩ = some (.bool y.top)) ∧ (∀ w', BelowC wb w' → w'.cell? ⟨w.heap.size + 1, 5, none⟩ = some (.int .i64 y.mode)) := ⟨_, bc_alloc2 (bc_refl _) _ _, bc_refl _, by simp, bc_cell (by go_simp) (by first | (simp; done) | (simp; omega)), bc_cell (by go_simp) (by first | (simp; done) | (simp; omega)), bc_cell (by go_simp) (by first | (simp; done) | (simp; omega)), bc_cell (by go_simp) (by first | (simp; done) | (simp; omega)), bc_cell (by go_simp) (by first | (simp; done) | (simp; omega)), bc_cell (by go_simp) (by first | (simp; done) | (simp; omega)), bc_cell (by go_simp) (by first | (simp; done) | (simp; omega)), bc_cell (by go_simp) (by first | (simp; done) | (simp; omega)), bc_cell (by go_simp) (by first | (simp; done) | (simp; omega)), bc_cell (by go_simp) (by first | (simp; done) | (simp; omega)), bc_cell (by go_simp) (by first | (simp; done) | (simp; omega)), bc_cell (by go_simp) (by first | (simp; done) | (simp; omega))⟩
  go_enter Try.func48, Try.ntmps48
  go_wp2_with fail
  all_goals
    go_returns
    refine ⟨?_, by first | exact bc_trans hA (by with_reducible assumption) | exact bc_trans hA hAA | exact bc_alloc2 (bc_refl _) _ _ | exact bc_alloc (bc_refl _) _⟩
    clear c0 c1 c2 c3 c4 c5 d0 d1 d2 d3 d4 d5
    by_cases g1 : x.owner = y.owner <;> by_cases g2 : x.table = y.table <;> simp_all [sameL, eqR]
set_option maxHeartbeats 2000000 in
theorem clash (x y : LockV) (w : World) : Calls Try.prog 49 #[x.val, y.val] w (Ret (.bool (clashL x y)) w) := by
  obtain ⟨o, t, lo, hi, top, m⟩ := x
  obtain ⟨o', t', lo', hi', top', m'⟩ := y
  simp only [LockV.val, clashL]
  by_cases h2 : t = t'
  · subst h2
    by_cases h1 : o = o'
    · subst h1
      obtain ⟨wb, hA, hAA, hsz, c0, c1, c2, c3, c4, c5, d0, d1, d2, d3, d4, d5⟩ : ∃ wb : World, BelowC w wb ∧ BelowC wb ((w.alloc (.cells #[.int .i64 o, .int .i64 t, .string lo, .string hi, .bool top, .int .i64 m] 31)).alloc (.cells #[.int .i64 o, .int .i64 t, .string lo', .string hi', .bool top', .int .i64 m'] 31)) ∧ w.heap.size + 2 ≤ wb.heap.size ∧ (∀ w', BelowC wb w' → w'.cell? ⟨w.heap.size, 0, none⟩ = some (.int .i64 o)) ∧ (∀ w', BelowC wb w' → w'.cell? ⟨w.heap.size, 1, none⟩ = some (.int .i64 t)) ∧ (∀ w', BelowC wb w' → w'.cell? ⟨w.heap.size, 2, none⟩ = some (.string lo)) ∧ (∀ w', BelowC wb w' → w'.cell? ⟨w.heap.size, 3, none⟩ = some (.string hi)) ∧ (∀ w', BelowC wb w' → w'.cell? ⟨w.heap.size, 4, none⟩ = some (.bool top)) ∧ (∀ w', BelowC wb w' → w'.cell? ⟨w.heap.size, 5, none⟩ = some (.int .i64 m)) ∧ (∀ w', BelowC wb w' → w'.cell? ⟨w.heap.size + 1, 0, none⟩ = some (.int .i64 o)) ∧ (∀ w', BelowC wb w' → w'.cell? ⟨w.heap.size + 1, 1, none⟩ = some (.int .i64 t)) ∧ (∀ w', BelowC wb w' → w'.cell? ⟨w.heap.size + 1, 2, none⟩ = some (.string lo')) ∧ (∀ w', BelowC wb w' → w'.cell? ⟨w.heap.size + 1, 3, none⟩ = some (.string hi')) ∧ (∀ w', BelowC wb w' → w'.cell? ⟨w.heap.size + 1, 4, none⟩ = some (.bool top')) ∧ (∀ w', BelowC wb w' → w'.cell? ⟨w.heap.size + 1, 5, none⟩ = some (.int .i64 m')) := ⟨_, bc_alloc2 (bc_refl _) _ _, bc_refl _, by simp, bc_cell (by go_simp) (by first | (simp; done) | (simp; omega)), bc_cell (by go_simp) (by first | (simp; done) | (simp; omega)), bc_cell (by go_simp) (by first | (simp; done) | (simp; omega)), bc_cell (by go_simp) (by first | (simp; done) | (simp; omega)), bc_cell (by go_simp) (by first | (simp; done) | (simp; omega)), bc_cell (by go_simp) (by first | (simp; done) | (simp; omega)), bc_cell (by go_simp) (by first | (simp; done) | (simp; omega)), bc_cell (by go_simp) (by first | (simp; done) | (simp; omega)), bc_cell (by go_simp) (by first | (simp; done) | (simp; omega)), bc_cell (by go_simp) (by first | (simp; done) | (simp; omega)), bc_cell (by go_simp) (by first | (simp; done) | (simp; omega)), bc_cell (by go_simp) (by first | (simp; done) | (simp; omega))⟩
      go_enter Try.func49, Try.ntmps49
      go_wp2_with (first | (go_at_call 65; (with_reducible refine (Tog _ _ _).mono ?_); rintro e v1 ⟨rfl, hb⟩; have HX : BelowC wb v1 := bc_step (by repeat (with_reducible first | assumption | exact bc_refl _ | apply bc_alloc | apply bc_drewN | apply bc_drew)) hb; clear hb) | (go_at_call 66; (with_reducible refine (Shares _ _ _ _ _ _ _).mono ?_); rintro e v1 ⟨rfl, hb⟩; have HX : BelowC wb v1 := bc_step (by repeat (with_reducible first | assumption | exact bc_refl _ | apply bc_alloc | apply bc_drewN | apply bc_drew)) hb; clear hb))
      all_goals
        go_returns
        exact ⟨by simp, by first | exact bc_trans hA (by with_reducible assumption) | exact bc_trans hA hAA | exact bc_alloc2 (bc_refl _) _ _ | exact bc_alloc (bc_refl _) _⟩
    · obtain ⟨wb, hA, hAA, hsz, c0, c1, c2, c3, c4, c5, d0, d1, d2, d3, d4, d5⟩ : ∃ wb : World, BelowC w wb ∧ BelowC wb ((w.alloc (.cells #[.int .i64 o, .int .i64 t, .string lo, .string hi, .bool top, .int .i64 m] 31)).alloc (.cells #[.int .i64 o', .int .i64 t, .string lo', .string hi', .bool top', .int .i64 m'] 31)) ∧ w.heap.size + 2 ≤ wb.heap.size ∧ (∀ w', BelowC wb w' → w'.cell? ⟨w.heap.size, 0, none⟩ = some (.int .i64 o)) ∧ (∀ w', BelowC wb w' → w'.cell? ⟨w.heap.size, 1, none⟩ = some (.int .i64 t)) ∧ (∀ w', BelowC wb w' → w'.cell? ⟨w.heap.size, 2, none⟩ = some (.string lo)) ∧ (∀ w', BelowC wb w' → w'.cell? ⟨w.heap.size, 3, none⟩ = some (.string hi)) ∧ (∀ w', BelowC wb w' → w'.cell? ⟨w.heap.size, 4, none⟩ = some (.bool top)) ∧ (∀ w', BelowC wb w' → w'.cell? ⟨w.heap.size, 5, none⟩ = some (.int .i64 m)) ∧ (∀ w', BelowC wb w' → w'.cell? ⟨w.heap.size + 1, 0, none⟩ = some (.int .i64 o')) ∧ (∀ w', BelowC wb w' → w'.cell? ⟨w.heap.size + 1, 1, none⟩ = some (.int .i64 t)) ∧ (∀ w', BelowC wb w' → w'.cell? ⟨w.heap.size + 1, 2, none⟩ = some (.string lo')) ∧ (∀ w', BelowC wb w' → w'.cell? ⟨w.heap.size + 1, 3, none⟩ = some (.string hi')) ∧ (∀ w', BelowC wb w' → w'.cell? ⟨w.heap.size + 1, 4, none⟩ = some (.bool top')) ∧ (∀ w', BelowC wb w' → w'.cell? ⟨w.heap.size + 1, 5, none⟩ = some (.int .i64 m')) := ⟨_, bc_alloc2 (bc_refl _) _ _, bc_refl _, by simp, bc_cell (by go_simp) (by first | (simp; done) | (simp; omega)), bc_cell (by go_simp) (by first | (simp; done) | (simp; omega)), bc_cell (by go_simp) (by first | (simp; done) | (simp; omega)), bc_cell (by go_simp) (by first | (simp; done) | (simp; omega)), bc_cell (by go_simp) (by first | (simp; done) | (simp; omega)), bc_cell (by go_simp) (by first | (simp; done) | (simp; omega)), bc_cell (by go_simp) (by first | (simp; done) | (simp; omega)), bc_cell (by go_simp) (by first | (simp; done) | (simp; omega)), bc_cell (by go_simp) (by first | (simp; done) | (simp; omega)), bc_cell (by go_simp) (by first | (simp; done) | (simp; omega)), bc_cell (by go_simp) (by first | (simp; done) | (simp; omega)), bc_cell (by go_simp) (by first | (simp; done) | (simp; omega))⟩
      cases h3 : togB m m'
      all_goals
        go_enter Try.func49, Try.ntmps49
        go_wp2_with (first | (go_at_call 65; (with_reducible refine (Tog _ _ _).mono ?_); rintro e v1 ⟨rfl, hb⟩; have HX : BelowC wb v1 := bc_step (by repeat (with_reducible first | assumption | exact bc_refl _ | apply bc_alloc | apply bc_drewN | apply bc_drew)) hb; clear hb) | (go_at_call 66; (with_reducible refine (Shares _ _ _ _ _ _ _).mono ?_); rintro e v1 ⟨rfl, hb⟩; have HX : BelowC wb v1 := bc_step (by repeat (with_reducible first | assumption | exact bc_refl _ | apply bc_alloc | apply bc_drewN | apply bc_drew)) hb; clear hb))
        all_goals
          go_returns
          exact ⟨by simp [h1, h3] <;> rfl, by first | exact bc_trans hA (by with_reducible assumption) | exact bc_trans hA hAA | exact bc_alloc2 (bc_refl _) _ _ | exact bc_alloc (bc_refl _) _⟩
  · obtain ⟨wb, hA, hAA, hsz, c0, c1, c2, c3, c4, c5, d0, d1, d2, d3, d4, d5⟩ : ∃ wb : World, BelowC w wb ∧ BelowC wb ((w.alloc (.cells #[.int .i64 o, .int .i64 t, .string lo, .string hi, .bool top, .int .i64 m] 31)).alloc (.cells #[.int .i64 o', .int .i64 t', .string lo', .string hi', .bool top', .int .i64 m'] 31)) ∧ w.heap.size + 2 ≤ wb.heap.size ∧ (∀ w', BelowC wb w' → w'.cell? ⟨w.heap.size, 0, none⟩ = some (.int .i64 o)) ∧ (∀ w', BelowC wb w' → w'.cell? ⟨w.heap.size, 1, none⟩ = some (.int .i64 t)) ∧ (∀ w', BelowC wb w' → w'.cell? ⟨w.heap.size, 2, none⟩ = some (.string lo)) ∧ (∀ w', BelowC wb w' → w'.cell? ⟨w.heap.size, 3, none⟩ = some (.string hi)) ∧ (∀ w', BelowC wb w' → w'.cell? ⟨w.heap.size, 4, none⟩ = some (.bool top)) ∧ (∀ w', BelowC wb w' → w'.cell? ⟨w.heap.size, 5, none⟩ = some (.int .i64 m)) ∧ (∀ w', BelowC wb w' → w'.cell? ⟨w.heap.size + 1, 0, none⟩ = some (.int .i64 o')) ∧ (∀ w', BelowC wb w' → w'.cell? ⟨w.heap.size + 1, 1, none⟩ = some (.int .i64 t')) ∧ (∀ w', BelowC wb w' → w'.cell? ⟨w.heap.size + 1, 2, none⟩ = some (.string lo')) ∧ (∀ w', BelowC wb w' → w'.cell? ⟨w.heap.size + 1, 3, none⟩ = some (.string hi')) ∧ (∀ w', BelowC wb w' → w'.cell? ⟨w.heap.size + 1, 4, none⟩ = some (.bool top')) ∧ (∀ w', BelowC wb w' → w'.cell? ⟨w.heap.size + 1, 5, none⟩ = some (.int .i64 m')) := ⟨_, bc_alloc2 (bc_refl _) _ _, bc_refl _, by simp, bc_cell (by go_simp) (by first | (simp; done) | (simp; omega)), bc_cell (by go_simp) (by first | (simp; done) | (simp; omega)), bc_cell (by go_simp) (by first | (simp; done) | (simp; omega)), bc_cell (by go_simp) (by first | (simp; done) | (simp; omega)), bc_cell (by go_simp) (by first | (simp; done) | (simp; omega)), bc_cell (by go_simp) (by first | (simp; done) | (simp; omega)), bc_cell (by go_simp) (by first | (simp; done) | (simp; omega)), bc_cell (by go_simp) (by first | (simp; done) | (simp; omega)), bc_cell (by go_simp) (by first | (simp; done) | (simp; omega)), bc_cell (by go_simp) (by first | (simp; done) | (simp; omega)), bc_cell (by go_simp) (by first | (simp; done) | (simp; omega)), bc_cell (by go_simp) (by first | (simp; done) | (simp; omega))⟩
    go_enter Try.func49, Try.ntmps49
    go_wp2_with (first | (go_at_call 65; (with_reducible refine (Tog _ _ _).mono ?_); rintro e v1 ⟨rfl, hb⟩; have HX : BelowC wb v1 := bc_step (by repeat (with_reducible first | assumption | exact bc_refl _ | apply bc_alloc | apply bc_drewN | apply bc_drew)) hb; clear hb) | (go_at_call 66; (with_reducible refine (Shares _ _ _ _ _ _ _).mono ?_); rintro e v1 ⟨rfl, hb⟩; have HX : BelowC wb v1 := bc_step (by repeat (with_reducible first | assumption | exact bc_refl _ | apply bc_alloc | apply bc_drewN | apply bc_drew)) hb; clear hb))
    all_goals
      go_returns
      exact ⟨by simp [h2], by first | exact bc_trans hA (by with_reducible assumption) | exact bc_trans hA hAA | exact bc_alloc2 (bc_refl _) _ _ | exact bc_alloc (bc_refl _) _⟩
end Go.Proofs.Ytabbceinagakfaa.K
