/- quorumref1.Own. -/
import Derived.Test.YtabbceinagakfaaProg
import Derived.Below
import Derived.WalkKit
import Derived.KernelRfl
import Derived.RowKit
import Derived.RowKit3
import Derived.Tactics
import Derived.Deep.QuietTactic
import Derived.BigQuiet
import Derived.OwnWalk
import Derived.Outline
import Derived.Handy
import Derived.StillTailTactics
import Derived.Deep.RegionHeld3
import Derived.Deep.DeepCutAuto
import Derived.Deep.CutBlock
import Derived.Shelf.Abstract
import Derived.Shelf.SlSortCmp.QuietGrown
import Derived.Lib.SliceRun
import Derived.Lib.SmallJoins
import Derived.SliceStrings
import Derived.ArgAppend
import Derived.Deep.Slices
import Derived.ChangeSame
import Derived.Lib.Strings
import Derived.Test.YtabbceinagakfaaD11
namespace Go.Proofs.Ytabbceinagakfaa.K
open Go.RowKit Go.Proofs.YtabbceinagakfaaS
set_option linter.unusedSimpArgs false
set_option linter.unusedVariables false
attribute [local go_sem] s_leq s_gtr s_geq s_maxr s_minr
attribute [local go_sem] bc_alloc2 bc_alloc3 s_alloc_drewN s_setCell_drewN bc_alloc bc_drewN bc_drew

theorem withinL (x y : LockV) : True := trivial
theorem sameL_y (x y : LockV) : sameL x y = ((y.owner == x.owner) && ((y.table == x.table) && eqR y x)) := by
  rw [sameL, beq_sym x.owner, beq_sym x.table, eqR_sym x y]
set_option maxRecDepth 100000 in
set_option maxHeartbeats 4000000 in
theorem rOwn (A : Option Addr) (n c : Nat) (L : List LockV) (x : LockV) (w : World) (h : Lks w A n L) : Calls Try.prog 64 #[.slice A n c, x.val] w (Ret (.int .i64 (idxL (sameL x) L)) w) := by
  have hn := h.2.1
  have H := hid h
  have HL := hid h.1
  clear h
  obtain ⟨wb, hA, hAA, hsz, c0, c1, c2, c3, c4, c5⟩ : ∃ wb : World, BelowC w wb ∧ BelowC wb (w.alloc (.cells #[.int .i64 x.owner, .int .i64 x.table, .string x.lo, .string x.hi, .bool x.top, .int .i64 x.mode] 31)) ∧ w.heap.size + 1 ≤ wb.heap.size ∧ (∀ w', BelowC wb w' → w'.cell? ⟨w.heap.size, 0, none⟩ = some (.int .i64 x.owner)) ∧ (∀ w', BelowC wb w' → w'.cell? ⟨w.heap.size, 1, none⟩ = some (.int .i64 x.table)) ∧ (∀ w', BelowC wb w' → w'.cell? ⟨w.heap.size, 2, none⟩ = some (.string x.lo)) ∧ (∀ w', BelowC wb w' → w'.cell? ⟨w.heap.size, 3, none⟩ = some (.string x.hi)) ∧ (∀ w', BelowC wb w' → w'.cell? ⟨w.heap.size, 4, none⟩ = some (.bool x.top)) ∧ (∀ w', BelowC wb w' → w'.cell? ⟨w.heap.size, 5, none⟩ = some (.int .i64 x.mode)) := ⟨_, bc_alloc (bc_refl _) _, bc_refl _, by simp, bc_cell (by go_simp) (by first | (simp; done) | (simp; omega)), bc_cell (by go_simp) (by first | (simp; done) | (simp; omega)), bc_cell (by go_simp) (by first | (simp; done) | (simp; omega)), bc_cell (by go_simp) (by first | (simp; done) | (simp; omega)), bc_cell (by go_simp) (by first | (simp; done) | (simp; omega)), bc_cell (by go_simp) (by first | (simp; done) | (simp; omega))⟩
  have HA := hid hA
  go_enter Try.func64, Try.ntmps64
  go_wp2_with fail
  go_loopw [5] (fun y wr => ∃ k : Nat, k ≤ n ∧ y = .int .i64 k ∧ BelowC wb wr ∧ Hid (∀ j (hj : j < L.length), j < k → sameL x L[j] = false)) (fun y _ => n - (intOf y).toNat)
  case atStart => exact ⟨0, by omega, rfl, hAA, hid (fun j _ hj => absurd hj (by omega))⟩
  case round =>
    clear hAA
    obtain ⟨k, hk, rfl, HK, HN⟩ := hrel
    rename World => wK
    by_cases hlt : k < n
    · obtain ⟨b, o, rfl, hb0, hcs⟩ := H.out.2.2 (by omega)
      have hkl : k < L.length := by have := HL.out; omega
      have HKL := hid hkl
      have hy := hcs k hkl
      generalize hyy : L[k] = y at hy
      have HY := hid hyy
      clear hyy
      have q0 := bc_cell (hy.below hA hb0).c0 (bc_lt hA hb0)
      have q1 := bc_cell (hy.below hA hb0).c1 (bc_lt hA hb0)
      have q2 := bc_cell (hy.below hA hb0).c2 (bc_lt hA hb0)
      have q3 := bc_cell (hy.below hA hb0).c3 (bc_lt hA hb0)
      have q4 := bc_cell (hy.below hA hb0).c4 (bc_lt hA hb0)
      have q5 := bc_cell (hy.below hA hb0).c5 (bc_lt hA hb0)
      clear hy hcs hkl
      have i1 : (k : Int) < (n : Int) := by omega
      go_upto_region 4 with (fail)
      go_cut [39] (fun u wc => u = .bool (sameL x y) ∧ BelowC wb wc)
      case first =>
        as_aux_lemma =>
        cases h1 : (y.owner == x.owner)
        · go_quiet (fail)
          go_wp2_with fail
          go_meet
          case rel => exact ⟨by rw [sameL_y, h1]; rfl, bc_drewN HK _⟩
        cases h2 : (y.table == x.table)
        · go_quiet (fail)
          go_wp2_with fail
          go_meet
          case rel => exact ⟨by rw [sameL_y, h1, h2]; rfl, bc_drewN HK _⟩
        cases e1 : (y.lo.toList == x.lo.toList) <;> cases e2 : (y.hi.toList == x.hi.toList) <;> cases e3 : (y.top == x.top)
        all_goals
          go_region_held3 (fun w' => BelowC wb w') ((repeat (with_reducible first | assumption | exact bc_refl _ | apply bc_alloc | apply bc_drewN | apply bc_drew))) (fail)
        all_goals
          go_wp2_with fail
          go_meet
          case rel => exact ⟨by rw [sameL_y, h1, h2]; simp [eqR, e1, e2, e3], by with_reducible assumption⟩
      case rest =>
      clear HK
      obtain ⟨rfl, HK⟩ := hcut
      generalize hq : sameL x y = bq
      have HQ := hid hq
      clear hq
      cases bq
      · go_wp2_with fail
        go_roundw
        case rel =>
          refine ⟨k + 1, by omega, by go_num, HK, hid fun j hjl hj => ?_⟩
          by_cases e : j = k
          · subst e; exact (congrArg (sameL x) HY.out).trans HQ.out
          · exact HN.out j hjl (by omega)
        case measure => simp [intOf]; omega
      · have HH := hid (idxL_hit (p := sameL x) HKL.out ((congrArg (sameL x) HY.out).trans HQ.out) (fun j hj => HN.out j _ hj))
        go_wp2_with fail
        go_returns
        exact ⟨ret_intq HH.out.symm, bc_trans HA.out HK⟩
    · have HH := hid (idxL_miss (p := sameL x) (L := L) (fun j hj => HN.out j hj (by have := HL.out; omega)))
      go_wp2_with fail
      go_returns
      exact ⟨ret_intq HH.out.symm, bc_trans HA.out HK⟩
end Go.Proofs.Ytabbceinagakfaa.K
