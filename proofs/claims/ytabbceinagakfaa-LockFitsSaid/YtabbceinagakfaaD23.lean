/- quorumref1.Take. -/
import Derived.Test.YtabbceinagakfaaProg
import Derived.Below
import Derived.WalkKit
import Derived.KernelRfl
import Derived.RowKit
import Derived.RowKit3
import Derived.Tactics
import Derived.Deep.QuietTactic
import Derived.BigQuiet
import Derived.OwnWalk
import Derived.Outline
import Derived.Handy
import Derived.StillTailTactics
import Derived.Deep.RegionHeld3
import Derived.Deep.DeepCutAuto
import Derived.Deep.CutBlock
import Derived.Shelf.Abstract
import Derived.Shelf.SlSortCmp.QuietGrown
import Derived.Lib.SliceRun
import Derived.Sort.OwnSortedInts
import Derived.Lib.SlicesCompact
import Derived.Lib.SmallJoins
import Derived.SliceStrings
import Derived.ArgAppend
import Derived.Deep.Slices
import Derived.ChangeSame
import Derived.Lib.Strings
import Derived.Test.YtabbceinagakfaaD22
namespace Go.Proofs.Ytabbceinagakfaa.K
open Go.RowKit Go.Proofs.YtabbceinagakfaaS
set_option linter.unusedSimpArgs false
set_option linter.unusedVariables false
attribute [local go_sem] s_leq s_gtr s_geq s_maxr s_minr
attribute [local go_sem] bc_alloc2 bc_alloc3 s_alloc_drewN s_setCell_drewN bc_alloc bc_drewN bc_drew

theorem takeP_len (L : List LockV) (x : LockV) : (takeP L x).1.length ≤ L.length ∨ (takeP L x).1.length ≤ 200 := by
  unfold takeP putL
  split
  · simp
  · split
    · simp
    · rename_i h1 h2
      simp only
      split
      · simp
      · right
        simp
        omega
set_option maxRecDepth 100000 in
set_option maxHeartbeats 4000000 in
theorem rTake (A : Option Addr) (n c : Nat) (L : List LockV) (x : LockV) (w : World) (h : Lks w A n L) (hbig : n ≤ 2199023255550) (hxv : isL x = true) (hall : ∀ y ∈ L, isL y = true) : Calls Try.prog 41 #[.slice A n c, x.val] w (RetLE (takeP L x).1 (takeP L x).2 w) := by
  have h0 := bc_refl w
  have hnn := h.2.1
  have H := hid h
  have HNL := hid h.1
  have HXV := hid hxv
  have HALL := hid hall
  clear h hxv hall
  obtain ⟨wb, hA, hAA, hsz, c0, c1, c2, c3, c4, c5⟩ : ∃ wb : World, BelowC w wb ∧ BelowC wb (w.alloc (.cells #[.int .i64 x.owner, .int .i64 x.table, .string x.lo, .string x.hi, .bool x.top, .int .i64 x.mode] 31)) ∧ w.heap.size + 1 ≤ wb.heap.size ∧ (∀ w', BelowC wb w' → w'.cell? ⟨w.heap.size, 0, none⟩ = some (.int .i64 x.owner)) ∧ (∀ w', BelowC wb w' → w'.cell? ⟨w.heap.size, 1, none⟩ = some (.int .i64 x.table)) ∧ (∀ w', BelowC wb w' → w'.cell? ⟨w.heap.size, 2, none⟩ = some (.string x.lo)) ∧ (∀ w', BelowC wb w' → w'.cell? ⟨w.heap.size, 3, none⟩ = some (.string x.hi)) ∧ (∀ w', BelowC wb w' → w'.cell? ⟨w.heap.size, 4, none⟩ = some (.bool x.top)) ∧ (∀ w', BelowC wb w' → w'.cell? ⟨w.heap.size, 5, none⟩ = some (.int .i64 x.mode)) := ⟨_, bc_alloc (bc_refl _) _, bc_refl _, by simp, bc_cell (by go_simp) (by first | (simp; done) | (simp; omega)), bc_cell (by go_simp) (by first | (simp; done) | (simp; omega)), bc_cell (by go_simp) (by first | (simp; done) | (simp; omega)), bc_cell (by go_simp) (by first | (simp; done) | (simp; omega)), bc_cell (by go_simp) (by first | (simp; done) | (simp; omega)), bc_cell (by go_simp) (by first | (simp; done) | (simp; omega))⟩
  have HA := hid hA
  by_cases ho : 0 < (othersL L x).length
  · have HP : Hid (takeP L x = ([], 8)) := hid (by rw [takeP, if_pos ho])
    have HO := hid ho
    clear ho
    go_enter Try.func41, Try.ntmps41
    go_wp2_with (first | (go_at_call 35; refine (rBlock _ _ _ L x _ (H.out.below (bc_trans hA (by repeat (with_reducible first | assumption | exact bc_refl _ | apply bc_alloc | apply bc_drewN | apply bc_drew)))) (by omega) HXV.out HALL.out).mono ?_; rintro e v3 ⟨v, rfl, ho3, hb⟩; have HX3 : BelowC wb v3 := bc_trans (by repeat (with_reducible first | assumption | exact bc_refl _ | apply bc_alloc | apply bc_drewN | apply bc_drew)) hb; clear hb; obtain ⟨A3, n3, c3, rfl, hn3, _, _, _⟩ := ownI_form ho3; have hq3 := HO.out; rw [← hn3] at hq3; clear ho3 hn3))
    go_returns
    exact ⟨.slice none 0 0, by rw [HP.out]; rfl, by rw [HP.out]; exact own_nil _ _, bc_trans HA.out HX3⟩
  rcases idx_cases (sameL x) L with ⟨hi, hal⟩ | ⟨k, hk, hi, hpk, hlow⟩
  · have HI := hid hi
    by_cases h2 : (200 : Int) ≤ (n : Int)
    · have HP : Hid (takeP L x = ([], 5)) := hid (by rw [takeP, if_neg ho, if_pos ⟨by rw [hi]; decide, by have := HNL.out; omega⟩])
      have HO := hid ho
      clear ho hi hal
      go_enter Try.func41, Try.ntmps41
      go_wp2_with (first | (go_at_call 35; refine (rBlock _ _ _ L x _ (H.out.below (bc_trans hA (by repeat (with_reducible first | assumption | exact bc_refl _ | apply bc_alloc | apply bc_drewN | apply bc_drew)))) (by omega) HXV.out HALL.out).mono ?_; rintro e v3 ⟨v, rfl, ho3, hb⟩; have HX3 : BelowC wb v3 := bc_trans (by repeat (with_reducible first | assumption | exact bc_refl _ | apply bc_alloc | apply bc_drewN | apply bc_drew)) hb; clear hb; obtain ⟨A3, n3, c3, rfl, hn3, _, _, _⟩ := ownI_form ho3; have hq3 := HO.out; rw [← hn3] at hq3; clear ho3 hn3) | (go_at_call 17; refine (CopyLocks _ _ _ L _ (H.out.below (bc_trans hA (by repeat (with_reducible first | assumption | exact bc_refl _ | apply bc_alloc | apply bc_drewN | apply bc_drew)))) (by omega)).mono ?_; rintro e v4 ⟨v, rfl, ho4, hb⟩; have HX4 : BelowC wb v4 := bc_trans (by repeat (with_reducible first | assumption | exact bc_refl _ | apply bc_alloc | apply bc_drewN | apply bc_drew)) hb; clear hb; obtain ⟨A4, n4, c4, rfl, hn4, hnc4, hL4, hA4⟩ := own_form ho4; have HOW4 := hid (own_le ho4 (bc_trans hA (by repeat (with_reducible first | assumption | exact bc_refl _ | apply bc_alloc | apply bc_drewN | apply bc_drew)))); have HL4 := hid hL4; have hn4n : n4 = n := hn4.trans HNL.out.symm; have HA4 := hid hA4; subst hn4n; clear ho4 hn4 hL4 hA4) | (go_at_call 64; refine (rOwn _ _ _ L x _ HL4.out).mono ?_; rintro e v5 ⟨rfl, hb⟩; rw [HI.out]; have HX45 := hid hb; have HX5 : BelowC wb v5 := bc_trans HX4 hb; clear hb))
      go_returns
      exact ⟨.slice none 0 0, by rw [HP.out]; rfl, by rw [HP.out]; exact own_nil _ _, bc_trans HA.out HX5⟩
    · have HP : Hid (takeP L x = (L ++ [x], 0)) := hid (by rw [takeP, if_neg ho, if_neg (fun e => h2 (by have := HNL.out; omega)), putL, hi]; rfl)
      have HO := hid ho
      clear ho hi hal
      go_enter Try.func41, Try.ntmps41
      go_wp2_with (first | (go_at_call 35; refine (rBlock _ _ _ L x _ (H.out.below (bc_trans hA (by repeat (with_reducible first | assumption | exact bc_refl _ | apply bc_alloc | apply bc_drewN | apply bc_drew)))) (by omega) HXV.out HALL.out).mono ?_; rintro e v3 ⟨v, rfl, ho3, hb⟩; have HX3 : BelowC wb v3 := bc_trans (by repeat (with_reducible first | assumption | exact bc_refl _ | apply bc_alloc | apply bc_drewN | apply bc_drew)) hb; clear hb; obtain ⟨A3, n3, c3, rfl, hn3, _, _, _⟩ := ownI_form ho3; have hq3 := HO.out; rw [← hn3] at hq3; clear ho3 hn3) | (go_at_call 17; refine (CopyLocks _ _ _ L _ (H.out.below (bc_trans hA (by repeat (with_reducible first | assumption | exact bc_refl _ | apply bc_alloc | apply bc_drewN | apply bc_drew)))) (by omega)).mono ?_; rintro e v4 ⟨v, rfl, ho4, hb⟩; have HX4 : BelowC wb v4 := bc_trans (by repeat (with_reducible first | assumption | exact bc_refl _ | apply bc_alloc | apply bc_drewN | apply bc_drew)) hb; clear hb; obtain ⟨A4, n4, c4, rfl, hn4, hnc4, hL4, hA4⟩ := own_form ho4; have HOW4 := hid (own_le ho4 (bc_trans hA (by repeat (with_reducible first | assumption | exact bc_refl _ | apply bc_alloc | apply bc_drewN | apply bc_drew)))); have HL4 := hid hL4; have hn4n : n4 = n := hn4.trans HNL.out.symm; have HA4 := hid hA4; subst hn4n; clear ho4 hn4 hL4 hA4) | (go_at_call 64; refine (rOwn _ _ _ L x _ HL4.out).mono ?_; rintro e v5 ⟨rfl, hb⟩; rw [HI.out]; have HX45 := hid hb; have HX5 : BelowC wb v5 := bc_trans HX4 hb; clear hb) | (at_builtin; refine pause ?_))
      unfold Pause
      refine app22 (b := w) rfl (.tmp 35) (.tmp 37) rfl _ L rfl (own_below HOW4.out (bc_trans HX45.out (bc_alloc (bc_refl _) _))) ⟨v5.heap.size, 0, none⟩ 1 1 [x] rfl (one_lk v5 x) (by have := HNL.out; omega) (bc_trans HA.out (bc_trans HX5 (bc_alloc (bc_refl _) _))) ?_
      intro v' w1 hown1 HB1
      have HOWN := hid hown1
      clear hown1
      go_wp2_with fail
      go_returns
      exact ⟨_, by rw [HP.out]; rfl, by rw [HP.out]; exact HOWN.out, HB1⟩
  · have HI := hid hi
    have HK := hid hk
    have hni : ¬ (idxL (sameL x) L < 0) := by rw [hi]; omega
    have HP : Hid (takeP L x = (L.set k (raise L[k] x), 0)) := hid (by rw [takeP, if_neg ho, if_neg (fun e => hni e.1), putL, hi, if_pos (by omega), show ((k : Int)).toNat = k by omega, getI hk]; rfl)
    have HO := hid ho
    have hkn : k < n := by have := HNL.out; omega
    clear ho hi hpk hlow hk hni
    have i0 : (0 : Int) ≤ (k : Int) := by omega
    go_enter Try.func41, Try.ntmps41
    go_upto_region 6 with (first | (go_at_call 35; refine (rBlock _ _ _ L x _ (H.out.below (bc_trans hA (by repeat (with_reducible first | assumption | exact bc_refl _ | apply bc_alloc | apply bc_drewN | apply bc_drew)))) (by omega) HXV.out HALL.out).mono ?_; rintro e v3 ⟨v, rfl, ho3, hb⟩; have HX3 : BelowC wb v3 := bc_trans (by repeat (with_reducible first | assumption | exact bc_refl _ | apply bc_alloc | apply bc_drewN | apply bc_drew)) hb; clear hb; obtain ⟨A3, n3, c3, rfl, hn3, _, _, _⟩ := ownI_form ho3; have hq3 := HO.out; rw [← hn3] at hq3; clear ho3 hn3) | (go_at_call 17; refine (CopyLocks _ _ _ L _ (H.out.below (bc_trans hA (by repeat (with_reducible first | assumption | exact bc_refl _ | apply bc_alloc | apply bc_drewN | apply bc_drew)))) (by omega)).mono ?_; rintro e v4 ⟨v, rfl, ho4, hb⟩; have HX4 : BelowC wb v4 := bc_trans (by repeat (with_reducible first | assumption | exact bc_refl _ | apply bc_alloc | apply bc_drewN | apply bc_drew)) hb; clear hb; obtain ⟨A4, n4, c4, rfl, hn4, hnc4, hL4, hA4⟩ := own_form ho4; have HOW4 := hid (own_le ho4 (bc_trans hA (by repeat (with_reducible first | assumption | exact bc_refl _ | apply bc_alloc | apply bc_drewN | apply bc_drew)))); have HL4 := hid hL4; have hn4n : n4 = n := hn4.trans HNL.out.symm; have HA4 := hid hA4; subst hn4n; clear ho4 hn4 hL4 hA4) | (go_at_call 64; refine (rOwn _ _ _ L x _ HL4.out).mono ?_; rintro e v5 ⟨rfl, hb⟩; rw [HI.out]; have HX45 := hid hb; have HX5 : BelowC wb v5 := bc_trans HX4 hb; clear hb))
    obtain ⟨g, o1, rfl, _, _⟩ := HL4.out.2.2 (by omega)
    obtain ⟨g', hg, hbg, _, _⟩ := HA4.out _ rfl
    cases hg
    have hbw : w.heap.size ≤ g := by have e1 := bc_size HX3; have e2 := bc_size HA.out; omega
    have HO2 := hid (own_below HOW4.out HX45.out)
    have hy := own_at HO2.out HNL.out HK.out
    generalize hye : (L[k]'HK.out) = y at hy HP
    have HYE := hid hye
    have s5 := hy.c5
    clear hy hye
    have fz := own_fz HO2.out HNL.out
    have i1 : (k : Int) < (n4 : Int) := by omega
    have cx := c5 v5 HX5
    go_still_tail 12, (by kernel_rfl)
    have HF : Hid (OwnL (v5.setCell ⟨g, k * 6 + 5, none⟩ (.int .i64 (max y.mode x.mode))).drew w (.slice (some ⟨g, 0, none⟩) n4 c4) (L.set k (raise y x))) := hid (World.ownsRow.drew (own_mode y (max y.mode x.mode) HO2.out HNL.out HK.out HYE.out))
    have HBD := hid (bc_trans HA.out HX5)
    go_wp2_with fail
    go_returns
    exact ⟨.slice (some ⟨g, 0, none⟩) n4 c4, by rw [HP.out]; rfl, by rw [HP.out]; exact HF.out, bc_drew (bc_set HBD.out hbw)⟩
end Go.Proofs.Ytabbceinagakfaa.K
