/- quorumref1.Block. -/
import Derived.Test.YtabbceinagakfaaProg
import Derived.Below
import Derived.WalkKit
import Derived.KernelRfl
import Derived.RowKit
import Derived.RowKit3
import Derived.Tactics
import Derived.Deep.QuietTactic
import Derived.BigQuiet
import Derived.OwnWalk
import Derived.Outline
import Derived.Handy
import Derived.StillTailTactics
import Derived.Deep.RegionHeld3
import Derived.Deep.DeepCutAuto
import Derived.Deep.CutBlock
import Derived.Shelf.Abstract
import Derived.Shelf.SlSortCmp.QuietGrown
import Derived.Lib.SliceRun
import Derived.Sort.OwnSortedInts
import Derived.Lib.SlicesCompact
import Derived.Lib.SmallJoins
import Derived.SliceStrings
import Derived.ArgAppend
import Derived.Deep.Slices
import Derived.ChangeSame
import Derived.Lib.Strings
import Derived.Test.YtabbceinagakfaaD18
namespace Go.Proofs.Ytabbceinagakfaa.K
open Go.RowKit Go.Proofs.YtabbceinagakfaaS
set_option linter.unusedSimpArgs false
set_option linter.unusedVariables false
attribute [local go_sem] s_leq s_gtr s_geq s_maxr s_minr
attribute [local go_sem] bc_alloc2 bc_alloc3 s_alloc_drewN s_setCell_drewN bc_alloc bc_drewN bc_drew

theorem clash_ref {x y : LockV} (hx : isL x = true) (hy : isL y = true) : clashL x y = (!(y.owner == x.owner) && ((y.table == x.table) && (overB y.lo y.hi y.top x.lo x.hi x.top && !fitR y.mode x.mode))) := by
  rw [fit_tog (isL_mode hy) (isL_mode hx), over_sym y.lo, clashL, share_over, beq_sym x.owner, beq_sym x.table, Bool.and_comm (!togB x.mode y.mode)]
set_option maxRecDepth 100000 in
set_option maxHeartbeats 4000000 in
theorem rBlock (A : Option Addr) (n c : Nat) (L : List LockV) (x : LockV) (w : World) (h : Lks w A n L) (hbig : n ≤ 2199023255551) (hxv : isL x = true) (hall : ∀ y ∈ L, isL y = true) : Calls Try.prog 35 #[.slice A n c, x.val] w (RetI (othersL L x) w) := by
  have hn := h.2.1
  have H := hid h
  have HL := hid h.1
  have HXV := hid hxv
  have HALL := hid hall
  clear h hxv hall
  obtain ⟨wb, hA, hAA, hsz, c0, c1, c2, c3, c4, c5⟩ : ∃ wb : World, BelowC w wb ∧ BelowC wb (w.alloc (.cells #[.int .i64 x.owner, .int .i64 x.table, .string x.lo, .string x.hi, .bool x.top, .int .i64 x.mode] 31)) ∧ w.heap.size + 1 ≤ wb.heap.size ∧ (∀ w', BelowC wb w' → w'.cell? ⟨w.heap.size, 0, none⟩ = some (.int .i64 x.owner)) ∧ (∀ w', BelowC wb w' → w'.cell? ⟨w.heap.size, 1, none⟩ = some (.int .i64 x.table)) ∧ (∀ w', BelowC wb w' → w'.cell? ⟨w.heap.size, 2, none⟩ = some (.string x.lo)) ∧ (∀ w', BelowC wb w' → w'.cell? ⟨w.heap.size, 3, none⟩ = some (.string x.hi)) ∧ (∀ w', BelowC wb w' → w'.cell? ⟨w.heap.size, 4, none⟩ = some (.bool x.top)) ∧ (∀ w', BelowC wb w' → w'.cell? ⟨w.heap.size, 5, none⟩ = some (.int .i64 x.mode)) := ⟨_, bc_alloc (bc_refl _) _, bc_refl _, by simp, bc_cell (by go_simp) (by first | (simp; done) | (simp; omega)), bc_cell (by go_simp) (by first | (simp; done) | (simp; omega)), bc_cell (by go_simp) (by first | (simp; done) | (simp; omega)), bc_cell (by go_simp) (by first | (simp; done) | (simp; omega)), bc_cell (by go_simp) (by first | (simp; done) | (simp; omega)), bc_cell (by go_simp) (by first | (simp; done) | (simp; omega))⟩
  have HA := hid hA
  go_enter Try.func35, Try.ntmps35
  go_wp2_with fail
  go_loopw [5, 6] (fun u y wr => ∃ k : Nat, k ≤ n ∧ y = .int .i64 k ∧ OwnI wr wb u (((L.take k).filter (clashL x)).map (·.owner)) ∧ BelowC wb wr) (fun _ y _ => n - (intOf y).toNat)
  case atStart => exact ⟨0, by omega, rfl, ownI_nil _ _, hAA⟩
  case round =>
    clear hAA
    obtain ⟨k, hk, rfl, HO, HK⟩ := hrel
    rename World => wK
    have HOw := hid HO
    clear HO
    by_cases hlt : k < n
    · obtain ⟨b, o, rfl, hb0, hcs⟩ := H.out.2.2 (by omega)
      have hkl : k < L.length := by have := HL.out; omega
      have hy := hcs k hkl
      have HYV := hid (HALL.out _ (List.getElem_mem hkl))
      have HT := hid (filt_take (p := clashL x) hkl)
      have HT2 : Hid ((((L.take k).filter (clashL x)).map (·.owner)).length ≤ k) := hid (by
        rw [List.length_map]
        exact Nat.le_trans (List.length_filter_le _ _) (by rw [List.length_take]; omega))
      generalize L[k] = y at hy HT HYV
      have q0 := bc_cell (hy.below hA hb0).c0 (bc_lt hA hb0)
      have q1 := bc_cell (hy.below hA hb0).c1 (bc_lt hA hb0)
      have q2 := bc_cell (hy.below hA hb0).c2 (bc_lt hA hb0)
      have q3 := bc_cell (hy.below hA hb0).c3 (bc_lt hA hb0)
      have q4 := bc_cell (hy.below hA hb0).c4 (bc_lt hA hb0)
      have q5 := bc_cell (hy.below hA hb0).c5 (bc_lt hA hb0)
      clear hy hcs hkl
      have i1 : (k : Int) < (n : Int) := by omega
      go_upto_region 5 with (fail)
      go_cut [51] (fun u wc => u = .bool (clashL x y) ∧ BelowC wK wc)
      case first =>
        as_aux_lemma =>
        have hmx : Try.prog.follows .mixedOrders = true := by kernel_rfl
        have hbk : b < wK.heap.size := bc_lt (bc_trans hA HK) hb0
        have hbx : w.heap.size < wK.heap.size := by have := bc_size HK; omega
        have HQ := hid (clash_ref HXV.out HYV.out)
        have g0 := fun n os => cell_grown hbk (q0 _ HK) n os
        have f0 := fun n os => cell_grown hbx (c0 _ HK) n os
        have g1 := fun n os => cell_grown hbk (q1 _ HK) n os
        have f1 := fun n os => cell_grown hbx (c1 _ HK) n os
        have g2 := fun n os => cell_grown hbk (q2 _ HK) n os
        have f2 := fun n os => cell_grown hbx (c2 _ HK) n os
        have g3 := fun n os => cell_grown hbk (q3 _ HK) n os
        have f3 := fun n os => cell_grown hbx (c3 _ HK) n os
        have g4 := fun n os => cell_grown hbk (q4 _ HK) n os
        have f4 := fun n os => cell_grown hbx (c4 _ HK) n os
        have g5 := fun n os => cell_grown hbk (q5 _ HK) n os
        have f5 := fun n os => cell_grown hbx (c5 _ HK) n os
        clear q0 q1 q2 q3 q4 q5 c0 c1 c2 c3 c4 c5
        have cO := fun W => rOverG y.lo y.hi y.top x.lo x.hi x.top W
        cases h1 : (y.owner == x.owner)
        rotate_left
        · have hb1 : (y.owner != x.owner) = false := by rw [bne, h1]; rfl
          have CO := hid cO
          clear cO
          refine wp_region_quiet_grown (by assumption) (by kernel_rfl) ?_
          repeat (go_big_quiet_step (first | (go_at_call 21; refine Calls.grown_of (CO.out _)) | (go_at_call 22; refine Calls.grown_of (rFitG _ _ _))))
          refine wpQuiet_nil ?_
          intro _ hw'
          obtain ⟨⟨nq, osq⟩, rfl⟩ := hw'
          go_wp2_with fail
          go_meet
          case rel => exact ⟨by rw [HQ.out, h1]; rfl, bc_grow (bc_drewN (bc_refl _) _) _⟩
        have hb1 : (y.owner != x.owner) = true := by rw [bne, h1]; rfl
        cases h2 : (y.table == x.table)
        · have CO := hid cO
          clear cO
          refine wp_region_quiet_grown (by assumption) (by kernel_rfl) ?_
          repeat (go_big_quiet_step (first | (go_at_call 21; refine Calls.grown_of (CO.out _)) | (go_at_call 22; refine Calls.grown_of (rFitG _ _ _))))
          refine wpQuiet_nil ?_
          intro _ hw'
          obtain ⟨⟨nq, osq⟩, rfl⟩ := hw'
          go_wp2_with fail
          go_meet
          case rel => exact ⟨by rw [HQ.out, h1, h2]; rfl, bc_grow (bc_drewN (bc_refl _) _) _⟩
        cases hw : overB y.lo y.hi y.top x.lo x.hi x.top
        · simp only [hw] at cO
          have CO := hid cO
          clear cO
          refine wp_region_quiet_grown (by assumption) (by kernel_rfl) ?_
          repeat (go_big_quiet_step (first | (go_at_call 21; refine Calls.grown_of (CO.out _)) | (go_at_call 22; refine Calls.grown_of (rFitG _ _ _))))
          refine wpQuiet_nil ?_
          intro _ hw'
          obtain ⟨⟨nq, osq⟩, rfl⟩ := hw'
          go_wp2_with fail
          go_meet
          case rel => exact ⟨by rw [HQ.out, h1, h2, hw]; rfl, bc_grow (bc_drewN (bc_refl _) _) _⟩
        · simp only [hw] at cO
          have CO := hid cO
          clear cO
          refine wp_region_quiet_grown (by assumption) (by kernel_rfl) ?_
          repeat (go_big_quiet_step (first | (go_at_call 21; refine Calls.grown_of (CO.out _)) | (go_at_call 22; refine Calls.grown_of (rFitG _ _ _))))
          refine wpQuiet_nil ?_
          intro _ hw'
          obtain ⟨⟨nq, osq⟩, rfl⟩ := hw'
          go_wp2_with fail
          go_meet
          case rel => exact ⟨by rw [HQ.out, h1, h2, hw]; rfl, bc_grow (bc_drewN (bc_refl _) _) _⟩
      case rest =>
      obtain ⟨rfl, HC⟩ := hcut
      rename World => wL
      generalize hq : clashL x y = bq
      have HQ := hid hq
      clear hq
      have HKL := hid (bc_trans HK HC)
      have HKL2 := HKL.out
      cases bq
      · have HN : Hid (((L.take (k + 1)).filter (clashL x)).map (·.owner) = ((L.take k).filter (clashL x)).map (·.owner)) := hid (by rw [HT.out, HQ.out]; simp)
        go_wp2_with fail
        go_roundw
        case rel => exact ⟨k + 1, by omega, by go_num, by rw [HN.out]; exact ownI_below HOw.out HC, HKL.out⟩
        case measure => simp [intOf]; omega
      · have HN : Hid (((L.take (k + 1)).filter (clashL x)).map (·.owner) = ((L.take k).filter (clashL x)).map (·.owner) ++ [y.owner]) := hid (by rw [HT.out, HQ.out]; rfl)
        clear HK
        go_wp2_with (at_builtin; refine pause ?_)
        unfold Pause
        refine app35 (b := wb) rfl (.tmp 52) (.tmp 58) rfl _ _ rfl (ownI_below HOw.out (bc_trans HC (bc_alloc (bc_refl _) _))) wL.heap.size y.owner rfl (one_int wL y.owner) (by have := HT2.out; omega) (bc_trans HKL.out (bc_alloc (bc_refl _) _)) ?_
        intro v' w1 hown1 HB1
        have HOWN := hid hown1
        clear hown1
        go_wp2_with fail
        go_roundw
        case rel => exact ⟨k + 1, by omega, by go_num, by rw [HN.out]; exact HOWN.out, HB1⟩
        case measure => simp [intOf]; omega
    · have e : L.take k = L := by have := HL.out; exact List.take_of_length_le (by omega)
      have HOf := HOw.out
      rw [e] at HOf
      obtain ⟨A2, m2, c2, rfl, hm2, _, hN2, _⟩ := ownI_form HOf
      have HN2 := hid hN2
      have HM2 : Hid (m2 ≤ 17592186044415) := hid (by
        rw [hm2, List.length_map]
        exact Nat.le_trans (List.length_filter_le _ _) (by have := HL.out; omega))
      have HKw := hid (bc_trans HA.out HK)
      clear HOf e HOw hm2 hN2
      go_wp2_with fail
      refine (Rising A2 m2 c2 _ _ HN2.out HM2.out).mono ?_
      rintro ee w2 ⟨v2, xs, rfl, hown, hst, hmem, hb⟩
      have HE := hid (others_eq hst hmem)
      have HOW := hid (ownI_le hown HKw.out)
      have HBB := hid (bc_trans HKw.out hb)
      clear hown hst hmem hb
      go_wp2_with fail
      go_returns
      exact ⟨_, rfl, by rw [← HE.out]; exact HOW.out, HBB.out⟩
end Go.Proofs.Ytabbceinagakfaa.K
