/- quorumref1.Covers. -/
import Derived.Test.YtabbceinagakfaaProg
import Derived.Below
import Derived.WalkKit
import Derived.KernelRfl
import Derived.RowKit
import Derived.RowKit3
import Derived.Tactics
import Derived.Deep.QuietTactic
import Derived.BigQuiet
import Derived.OwnWalk
import Derived.Outline
import Derived.Handy
import Derived.StillTailTactics
import Derived.Deep.RegionHeld3
import Derived.Deep.DeepCutAuto
import Derived.Deep.CutBlock
import Derived.Shelf.Abstract
import Derived.Shelf.SlSortCmp.QuietGrown
import Derived.Lib.SliceRun
import Derived.Lib.SmallJoins
import Derived.SliceStrings
import Derived.ArgAppend
import Derived.Deep.Slices
import Derived.ChangeSame
import Derived.Lib.Strings
import Derived.Test.YtabbceinagakfaaD12
namespace Go.Proofs.Ytabbceinagakfaa.K
open Go.RowKit Go.Proofs.YtabbceinagakfaaS
set_option linter.unusedSimpArgs false
set_option linter.unusedVariables false
attribute [local go_sem] s_leq s_gtr s_geq s_maxr s_minr
attribute [local go_sem] bc_alloc2 bc_alloc3 s_alloc_drewN s_setCell_drewN bc_alloc bc_drewN bc_drew

open Go.Sort in
theorem rInG (lo hi : ByteArray) (top : Bool) (lo' hi' : ByteArray) (top' : Bool) (W : World) : Calls Try.prog 62 #[rng lo hi top, rng lo' hi' top'] W fun e w' => e = .returned (.bool (withinB lo hi top lo' hi' top')) ∧ ∃ q os', w' = grow (W.drewN q) os' := by
  cases h0 : lt lo lo' <;> cases top <;> cases top'
  all_goals
    try simp only [lt] at h0
    go_enter Try.func62, Try.ntmps62
    go_wp2
    all_goals
      go_returns
      exact ⟨by simp [withinB, lt, *], 0, #[_, _], alloc2_grow _ _ _⟩
theorem heldL_y (x y : LockV) : heldL x y = ((y.owner == x.owner) && ((y.table == x.table) && (withinB x.lo x.hi x.top y.lo y.hi y.top && decide (x.mode ≤ y.mode)))) := by
  rw [heldL, Bool.and_comm (decide (x.mode ≤ y.mode))]
set_option maxRecDepth 100000 in
set_option maxHeartbeats 4000000 in
theorem rCovers (A : Option Addr) (n c : Nat) (L : List LockV) (x : LockV) (w : World) (h : Lks w A n L) : Calls Try.prog 38 #[.slice A n c, x.val] w (Ret (.bool (L.any (heldL x))) w) := by
  have hn := h.2.1
  have H := hid h
  have HL := hid h.1
  clear h
  obtain ⟨wb, hA, hAA, hsz, c0, c1, c2, c3, c4, c5⟩ : ∃ wb : World, BelowC w wb ∧ BelowC wb (w.alloc (.cells #[.int .i64 x.owner, .int .i64 x.table, .string x.lo, .string x.hi, .bool x.top, .int .i64 x.mode] 31)) ∧ w.heap.size + 1 ≤ wb.heap.size ∧ (∀ w', BelowC wb w' → w'.cell? ⟨w.heap.size, 0, none⟩ = some (.int .i64 x.owner)) ∧ (∀ w', BelowC wb w' → w'.cell? ⟨w.heap.size, 1, none⟩ = some (.int .i64 x.table)) ∧ (∀ w', BelowC wb w' → w'.cell? ⟨w.heap.size, 2, none⟩ = some (.string x.lo)) ∧ (∀ w', BelowC wb w' → w'.cell? ⟨w.heap.size, 3, none⟩ = some (.string x.hi)) ∧ (∀ w', BelowC wb w' → w'.cell? ⟨w.heap.size, 4, none⟩ = some (.bool x.top)) ∧ (∀ w', BelowC wb w' → w'.cell? ⟨w.heap.size, 5, none⟩ = some (.int .i64 x.mode)) := ⟨_, bc_alloc (bc_refl _) _, bc_refl _, by simp, bc_cell (by go_simp) (by first | (simp; done) | (simp; omega)), bc_cell (by go_simp) (by first | (simp; done) | (simp; omega)), bc_cell (by go_simp) (by first | (simp; done) | (simp; omega)), bc_cell (by go_simp) (by first | (simp; done) | (simp; omega)), bc_cell (by go_simp) (by first | (simp; done) | (simp; omega)), bc_cell (by go_simp) (by first | (simp; done) | (simp; omega))⟩
  have HA := hid hA
  go_enter Try.func38, Try.ntmps38
  go_wp2_with fail
  go_loopw [5] (fun y wr => ∃ k : Nat, k ≤ n ∧ y = .int .i64 k ∧ BelowC wb wr ∧ Hid (∀ j (hj : j < L.length), j < k → heldL x L[j] = false)) (fun y _ => n - (intOf y).toNat)
  case atStart => exact ⟨0, by omega, rfl, hAA, hid (fun j _ hj => absurd hj (by omega))⟩
  case round =>
    clear hAA
    obtain ⟨k, hk, rfl, HK, HN⟩ := hrel
    rename World => wK
    by_cases hlt : k < n
    · obtain ⟨b, o, rfl, hb0, hcs⟩ := H.out.2.2 (by omega)
      have hkl : k < L.length := by have := HL.out; omega
      have HKL := hid hkl
      have hy := hcs k hkl
      generalize hyy : L[k] = y at hy
      have HY := hid hyy
      clear hyy
      have q0 := bc_cell (hy.below hA hb0).c0 (bc_lt hA hb0)
      have q1 := bc_cell (hy.below hA hb0).c1 (bc_lt hA hb0)
      have q2 := bc_cell (hy.below hA hb0).c2 (bc_lt hA hb0)
      have q3 := bc_cell (hy.below hA hb0).c3 (bc_lt hA hb0)
      have q4 := bc_cell (hy.below hA hb0).c4 (bc_lt hA hb0)
      have q5 := bc_cell (hy.below hA hb0).c5 (bc_lt hA hb0)
      clear hy hcs hkl
      have i1 : (k : Int) < (n : Int) := by omega
      go_upto_region 4 with (fail)
      go_cut [49] (fun u wc => u = .bool (heldL x y) ∧ BelowC wb wc)
      case first =>
        as_aux_lemma =>
        have hmx : Try.prog.follows .mixedOrders = true := by kernel_rfl
        have hbk : b < wK.heap.size := bc_lt (bc_trans hA HK) hb0
        have hbx : w.heap.size < wK.heap.size := by have := bc_size HK; omega
        have g0 := fun n os => cell_grown hbk (q0 _ HK) n os
        have f0 := fun n os => cell_grown hbx (c0 _ HK) n os
        have g1 := fun n os => cell_grown hbk (q1 _ HK) n os
        have f1 := fun n os => cell_grown hbx (c1 _ HK) n os
        have g2 := fun n os => cell_grown hbk (q2 _ HK) n os
        have f2 := fun n os => cell_grown hbx (c2 _ HK) n os
        have g3 := fun n os => cell_grown hbk (q3 _ HK) n os
        have f3 := fun n os => cell_grown hbx (c3 _ HK) n os
        have g4 := fun n os => cell_grown hbk (q4 _ HK) n os
        have f4 := fun n os => cell_grown hbx (c4 _ HK) n os
        have g5 := fun n os => cell_grown hbk (q5 _ HK) n os
        have f5 := fun n os => cell_grown hbx (c5 _ HK) n os
        clear q0 q1 q2 q3 q4 q5 c0 c1 c2 c3 c4 c5
        have cO := fun W => rInG x.lo x.hi x.top y.lo y.hi y.top W
        cases h1 : (y.owner == x.owner)
        · have CO := hid cO
          clear cO
          refine wp_region_quiet_grown (by assumption) (by kernel_rfl) ?_
          repeat (go_big_quiet_step (first | (go_at_call 62; refine Calls.grown_of (CO.out _))))
          refine wpQuiet_nil ?_
          intro _ hw'
          obtain ⟨⟨nq, osq⟩, rfl⟩ := hw'
          go_wp2_with fail
          go_meet
          case rel => exact ⟨by rw [heldL_y, h1]; rfl, bc_grow (bc_drewN HK _) _⟩
        cases h2 : (y.table == x.table)
        · have CO := hid cO
          clear cO
          refine wp_region_quiet_grown (by assumption) (by kernel_rfl) ?_
          repeat (go_big_quiet_step (first | (go_at_call 62; refine Calls.grown_of (CO.out _))))
          refine wpQuiet_nil ?_
          intro _ hw'
          obtain ⟨⟨nq, osq⟩, rfl⟩ := hw'
          go_wp2_with fail
          go_meet
          case rel => exact ⟨by rw [heldL_y, h1, h2]; rfl, bc_grow (bc_drewN HK _) _⟩
        cases hw : withinB x.lo x.hi x.top y.lo y.hi y.top
        · simp only [hw] at cO
          have CO := hid cO
          clear cO
          refine wp_region_quiet_grown (by assumption) (by kernel_rfl) ?_
          repeat (go_big_quiet_step (first | (go_at_call 62; refine Calls.grown_of (CO.out _))))
          refine wpQuiet_nil ?_
          intro _ hw'
          obtain ⟨⟨nq, osq⟩, rfl⟩ := hw'
          go_wp2_with fail
          go_meet
          case rel => exact ⟨by rw [heldL_y, h1, h2, hw]; rfl, bc_grow (bc_drewN HK _) _⟩
        · simp only [hw] at cO
          have CO := hid cO
          clear cO
          refine wp_region_quiet_grown (by assumption) (by kernel_rfl) ?_
          repeat (go_big_quiet_step (first | (go_at_call 62; refine Calls.grown_of (CO.out _))))
          refine wpQuiet_nil ?_
          intro _ hw'
          obtain ⟨⟨nq, osq⟩, rfl⟩ := hw'
          go_wp2_with fail
          go_meet
          case rel => exact ⟨by rw [heldL_y, h1, h2, hw]; simp, bc_grow (bc_drewN HK _) _⟩
      case rest =>
      clear HK
      obtain ⟨rfl, HK⟩ := hcut
      generalize hq : heldL x y = bq
      have HQ := hid hq
      clear hq
      cases bq
      · go_wp2_with fail
        go_roundw
        case rel =>
          refine ⟨k + 1, by omega, by go_num, HK, hid fun j hjl hj => ?_⟩
          by_cases e : j = k
          · subst e; exact (congrArg (heldL x) HY.out).trans HQ.out
          · exact HN.out j hjl (by omega)
        case measure => simp [intOf]; omega
      · have HH : Hid (L.any (heldL x) = true) := hid (List.any_eq_true.2 ⟨L[k]'HKL.out, List.getElem_mem HKL.out, (congrArg (heldL x) HY.out).trans HQ.out⟩)
        go_wp2_with fail
        go_returns
        exact ⟨by rw [HH.out]; rfl, bc_trans HA.out HK⟩
    · have HH : Hid (L.any (heldL x) = false) := hid (by
        rw [List.any_eq_false]
        intro z hz
        obtain ⟨j, hj, rfl⟩ := List.mem_iff_getElem.1 hz
        rw [HN.out j hj (by have := HL.out; omega)]
        simp)
      go_wp2_with fail
      go_returns
      exact ⟨by rw [HH.out]; rfl, bc_trans HA.out HK⟩
end Go.Proofs.Ytabbceinagakfaa.K
