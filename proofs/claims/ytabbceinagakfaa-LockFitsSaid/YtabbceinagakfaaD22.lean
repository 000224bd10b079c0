/- lock.Take. -/
import Derived.Test.YtabbceinagakfaaProg
import Derived.Below
import Derived.WalkKit
import Derived.KernelRfl
import Derived.RowKit
import Derived.RowKit3
import Derived.Tactics
import Derived.Deep.QuietTactic
import Derived.BigQuiet
import Derived.OwnWalk
import Derived.Outline
import Derived.Handy
import Derived.StillTailTactics
import Derived.Deep.RegionHeld3
import Derived.Deep.DeepCutAuto
import Derived.Deep.CutBlock
import Derived.Shelf.Abstract
import Derived.Shelf.SlSortCmp.QuietGrown
import Derived.Lib.SliceRun
import Derived.Sort.OwnSortedInts
import Derived.Lib.SlicesCompact
import Derived.Lib.SmallJoins
import Derived.SliceStrings
import Derived.ArgAppend
import Derived.Deep.Slices
import Derived.ChangeSame
import Derived.Lib.Strings
import Derived.Test.YtabbceinagakfaaD21
namespace Go.Proofs.Ytabbceinagakfaa.K
open Go.RowKit Go.Proofs.YtabbceinagakfaaS
set_option linter.unusedSimpArgs false
set_option linter.unusedVariables false
attribute [local go_sem] s_leq s_gtr s_geq s_maxr s_minr
attribute [local go_sem] bc_alloc2 bc_alloc3 s_alloc_drewN s_setCell_drewN bc_alloc bc_drewN bc_drew

/-- What taking a lock that may be among locks that may be comes to: the locks, the error. -/
def takeP (L : List LockV) (x : LockV) : List LockV × Int := if 0 < (othersL L x).length then ([], 8) else if idxL (sameL x) L < 0 ∧ (200 : Int) ≤ (L.length : Int) then ([], 5) else (putL L x, 0)
def takeL (L : List LockV) (x : LockV) : List LockV := bif goodL L x then (takeP L x).1 else []
def takeE (L : List LockV) (x : LockV) : Int := bif goodL L x then (takeP L x).2 else 1
set_option maxRecDepth 100000 in
set_option maxHeartbeats 4000000 in
theorem Take (A : Option Addr) (n c : Nat) (L : List LockV) (x : LockV) (w : World) (h : Lks w A n L) (hc : n ≤ c) (hbig : n ≤ 2199023255550) : Calls Try.prog 12 #[.slice A n c, x.val] w (RetLE (takeL L x) (takeE L x) w) := by
  have h0 := bc_refl w
  have hnn := h.2.1
  have H := hid h
  have HNL := hid h.1
  clear h
  have HM := hid (lockMay A n c L)
  obtain ⟨wb, hA, hAA, hsz, c0, c1, c2, c3, c4, c5⟩ : ∃ wb : World, BelowC w wb ∧ BelowC wb (w.alloc (.cells #[.int .i64 x.owner, .int .i64 x.table, .string x.lo, .string x.hi, .bool x.top, .int .i64 x.mode] 31)) ∧ w.heap.size + 1 ≤ wb.heap.size ∧ (∀ w', BelowC wb w' → w'.cell? ⟨w.heap.size, 0, none⟩ = some (.int .i64 x.owner)) ∧ (∀ w', BelowC wb w' → w'.cell? ⟨w.heap.size, 1, none⟩ = some (.int .i64 x.table)) ∧ (∀ w', BelowC wb w' → w'.cell? ⟨w.heap.size, 2, none⟩ = some (.string x.lo)) ∧ (∀ w', BelowC wb w' → w'.cell? ⟨w.heap.size, 3, none⟩ = some (.string x.hi)) ∧ (∀ w', BelowC wb w' → w'.cell? ⟨w.heap.size, 4, none⟩ = some (.bool x.top)) ∧ (∀ w', BelowC wb w' → w'.cell? ⟨w.heap.size, 5, none⟩ = some (.int .i64 x.mode)) := ⟨_, bc_alloc (bc_refl _) _, bc_refl _, by simp, bc_cell (by go_simp) (by first | (simp; done) | (simp; omega)), bc_cell (by go_simp) (by first | (simp; done) | (simp; omega)), bc_cell (by go_simp) (by first | (simp; done) | (simp; omega)), bc_cell (by go_simp) (by first | (simp; done) | (simp; omega)), bc_cell (by go_simp) (by first | (simp; done) | (simp; omega)), bc_cell (by go_simp) (by first | (simp; done) | (simp; omega))⟩
  have HA := hid hA
  cases hm : mayL L
  · have HF : Hid (takeL L x = []) := hid (by simp [takeL, goodL, hm])
    have HE : Hid (takeE L x = 1) := hid (by simp [takeE, goodL, hm])
    go_enter Try.func12, Try.ntmps12
    go_wp2_with (first | (go_at_call 26; refine (HM.out _ (H.out.below (bc_trans hA (by repeat (with_reducible first | assumption | exact bc_refl _ | apply bc_alloc | apply bc_drewN | apply bc_drew)))) hc).mono ?_; rintro e v1 ⟨rfl, hb⟩; rw [hm]; have HX : BelowC wb v1 := bc_step (by repeat (with_reducible first | assumption | exact bc_refl _ | apply bc_alloc | apply bc_drewN | apply bc_drew)) hb; clear hb) | (go_at_call 27; (with_reducible refine (lockIs x _).mono ?_); rintro e v2 ⟨rfl, hb⟩; rw [hx]; have HX2 : BelowC wb v2 := bc_step (by repeat (with_reducible first | assumption | exact bc_refl _ | apply bc_alloc | apply bc_drewN | apply bc_drew)) hb; clear hb))
    go_returns
    exact ⟨.slice none 0 0, by rw [HE.out]; rfl, by rw [HF.out]; exact own_nil _ _, bc_trans HA.out (by repeat (with_reducible first | assumption | exact bc_refl _ | apply bc_alloc | apply bc_drewN | apply bc_drew))⟩
  cases hx : isL x
  · have HF : Hid (takeL L x = []) := hid (by simp [takeL, goodL, hm, hx])
    have HE : Hid (takeE L x = 1) := hid (by simp [takeE, goodL, hm, hx])
    go_enter Try.func12, Try.ntmps12
    go_wp2_with (first | (go_at_call 26; refine (HM.out _ (H.out.below (bc_trans hA (by repeat (with_reducible first | assumption | exact bc_refl _ | apply bc_alloc | apply bc_drewN | apply bc_drew)))) hc).mono ?_; rintro e v1 ⟨rfl, hb⟩; rw [hm]; have HX : BelowC wb v1 := bc_step (by repeat (with_reducible first | assumption | exact bc_refl _ | apply bc_alloc | apply bc_drewN | apply bc_drew)) hb; clear hb) | (go_at_call 27; (with_reducible refine (lockIs x _).mono ?_); rintro e v2 ⟨rfl, hb⟩; rw [hx]; have HX2 : BelowC wb v2 := bc_step (by repeat (with_reducible first | assumption | exact bc_refl _ | apply bc_alloc | apply bc_drewN | apply bc_drew)) hb; clear hb))
    go_returns
    exact ⟨.slice none 0 0, by rw [HE.out]; rfl, by rw [HF.out]; exact own_nil _ _, bc_trans HA.out (by repeat (with_reducible first | assumption | exact bc_refl _ | apply bc_alloc | apply bc_drewN | apply bc_drew))⟩
  have HTL : Hid (takeL L x = (takeP L x).1) := hid (by simp [takeL, goodL, hm, hx])
  have HTE : Hid (takeE L x = (takeP L x).2) := hid (by simp [takeE, goodL, hm, hx])
  by_cases ho : 0 < (othersL L x).length
  · have HP : Hid (takeP L x = ([], 8)) := hid (by rw [takeP, if_pos ho])
    have HO := hid ho
    clear ho
    go_enter Try.func12, Try.ntmps12
    go_wp2_with (first | (go_at_call 26; refine (HM.out _ (H.out.below (bc_trans hA (by repeat (with_reducible first | assumption | exact bc_refl _ | apply bc_alloc | apply bc_drewN | apply bc_drew)))) hc).mono ?_; rintro e v1 ⟨rfl, hb⟩; rw [hm]; have HX : BelowC wb v1 := bc_step (by repeat (with_reducible first | assumption | exact bc_refl _ | apply bc_alloc | apply bc_drewN | apply bc_drew)) hb; clear hb) | (go_at_call 27; (with_reducible refine (lockIs x _).mono ?_); rintro e v2 ⟨rfl, hb⟩; rw [hx]; have HX2 : BelowC wb v2 := bc_step (by repeat (with_reducible first | assumption | exact bc_refl _ | apply bc_alloc | apply bc_drewN | apply bc_drew)) hb; clear hb) | (go_at_call 28; refine (Others _ _ _ L x _ (H.out.below (bc_trans hA (by repeat (with_reducible first | assumption | exact bc_refl _ | apply bc_alloc | apply bc_drewN | apply bc_drew)))) (by omega)).mono ?_; rintro e v3 ⟨v, rfl, ho3, hb⟩; have HX3 : BelowC wb v3 := bc_trans (by repeat (with_reducible first | assumption | exact bc_refl _ | apply bc_alloc | apply bc_drewN | apply bc_drew)) hb; clear hb; obtain ⟨A3, n3, c3, rfl, hn3, _, _, _⟩ := ownI_form ho3; have hq3 := HO.out; rw [← hn3] at hq3; clear ho3 hn3))
    go_returns
    exact ⟨.slice none 0 0, by rw [HTE.out, HP.out]; rfl, by rw [HTL.out, HP.out]; exact own_nil _ _, bc_trans HA.out HX3⟩
  by_cases hi : idxL (sameL x) L < 0
  · by_cases h2 : (200 : Int) ≤ (n : Int)
    · have HP : Hid (takeP L x = ([], 5)) := hid (by rw [takeP, if_neg ho, if_pos ⟨hi, by have := HNL.out; omega⟩])
      have HO := hid ho
      clear ho
      go_enter Try.func12, Try.ntmps12
      go_wp2_with (first | (go_at_call 26; refine (HM.out _ (H.out.below (bc_trans hA (by repeat (with_reducible first | assumption | exact bc_refl _ | apply bc_alloc | apply bc_drewN | apply bc_drew)))) hc).mono ?_; rintro e v1 ⟨rfl, hb⟩; rw [hm]; have HX : BelowC wb v1 := bc_step (by repeat (with_reducible first | assumption | exact bc_refl _ | apply bc_alloc | apply bc_drewN | apply bc_drew)) hb; clear hb) | (go_at_call 27; (with_reducible refine (lockIs x _).mono ?_); rintro e v2 ⟨rfl, hb⟩; rw [hx]; have HX2 : BelowC wb v2 := bc_step (by repeat (with_reducible first | assumption | exact bc_refl _ | apply bc_alloc | apply bc_drewN | apply bc_drew)) hb; clear hb) | (go_at_call 28; refine (Others _ _ _ L x _ (H.out.below (bc_trans hA (by repeat (with_reducible first | assumption | exact bc_refl _ | apply bc_alloc | apply bc_drewN | apply bc_drew)))) (by omega)).mono ?_; rintro e v3 ⟨v, rfl, ho3, hb⟩; have HX3 : BelowC wb v3 := bc_trans (by repeat (with_reducible first | assumption | exact bc_refl _ | apply bc_alloc | apply bc_drewN | apply bc_drew)) hb; clear hb; obtain ⟨A3, n3, c3, rfl, hn3, _, _, _⟩ := ownI_form ho3; have hq3 := HO.out; rw [← hn3] at hq3; clear ho3 hn3) | (go_at_call 29; refine (lockOwn _ _ _ L x _ (H.out.below (bc_trans hA (by repeat (with_reducible first | assumption | exact bc_refl _ | apply bc_alloc | apply bc_drewN | apply bc_drew))))).mono ?_; rintro e v4 ⟨rfl, hb⟩; have HX4 : BelowC wb v4 := bc_step (by repeat (with_reducible first | assumption | exact bc_refl _ | apply bc_alloc | apply bc_drewN | apply bc_drew)) hb; clear hb))
      go_returns
      exact ⟨.slice none 0 0, by rw [HTE.out, HP.out]; rfl, by rw [HTL.out, HP.out]; exact own_nil _ _, bc_trans HA.out HX4⟩
    · have HP : Hid (takeP L x = (putL L x, 0)) := hid (by rw [takeP, if_neg ho, if_neg (fun e => h2 (by have := HNL.out; omega))])
      have HO := hid ho
      clear ho
      go_enter Try.func12, Try.ntmps12
      go_wp2_with (first | (go_at_call 26; refine (HM.out _ (H.out.below (bc_trans hA (by repeat (with_reducible first | assumption | exact bc_refl _ | apply bc_alloc | apply bc_drewN | apply bc_drew)))) hc).mono ?_; rintro e v1 ⟨rfl, hb⟩; rw [hm]; have HX : BelowC wb v1 := bc_step (by repeat (with_reducible first | assumption | exact bc_refl _ | apply bc_alloc | apply bc_drewN | apply bc_drew)) hb; clear hb) | (go_at_call 27; (with_reducible refine (lockIs x _).mono ?_); rintro e v2 ⟨rfl, hb⟩; rw [hx]; have HX2 : BelowC wb v2 := bc_step (by repeat (with_reducible first | assumption | exact bc_refl _ | apply bc_alloc | apply bc_drewN | apply bc_drew)) hb; clear hb) | (go_at_call 28; refine (Others _ _ _ L x _ (H.out.below (bc_trans hA (by repeat (with_reducible first | assumption | exact bc_refl _ | apply bc_alloc | apply bc_drewN | apply bc_drew)))) (by omega)).mono ?_; rintro e v3 ⟨v, rfl, ho3, hb⟩; have HX3 : BelowC wb v3 := bc_trans (by repeat (with_reducible first | assumption | exact bc_refl _ | apply bc_alloc | apply bc_drewN | apply bc_drew)) hb; clear hb; obtain ⟨A3, n3, c3, rfl, hn3, _, _, _⟩ := ownI_form ho3; have hq3 := HO.out; rw [← hn3] at hq3; clear ho3 hn3) | (go_at_call 29; refine (lockOwn _ _ _ L x _ (H.out.below (bc_trans hA (by repeat (with_reducible first | assumption | exact bc_refl _ | apply bc_alloc | apply bc_drewN | apply bc_drew))))).mono ?_; rintro e v4 ⟨rfl, hb⟩; have HX4 : BelowC wb v4 := bc_step (by repeat (with_reducible first | assumption | exact bc_refl _ | apply bc_alloc | apply bc_drewN | apply bc_drew)) hb; clear hb) | (go_at_call 30; refine (Put _ _ _ L x _ (H.out.below (bc_trans hA (by repeat (with_reducible first | assumption | exact bc_refl _ | apply bc_alloc | apply bc_drewN | apply bc_drew)))) hbig).mono ?_; rintro e v5 ⟨v, rfl, ho5, hb⟩; have HX5 : BelowC wb v5 := bc_trans (by repeat (with_reducible first | assumption | exact bc_refl _ | apply bc_alloc | apply bc_drewN | apply bc_drew)) hb; have HOW := hid (own_le ho5 (bc_trans hA (by repeat (with_reducible first | assumption | exact bc_refl _ | apply bc_alloc | apply bc_drewN | apply bc_drew)))); clear hb ho5))
      go_returns
      exact ⟨_, by rw [HTE.out, HP.out]; rfl, by rw [HTL.out, HP.out]; exact HOW.out, bc_trans HA.out HX5⟩
  · have HP : Hid (takeP L x = (putL L x, 0)) := hid (by rw [takeP, if_neg ho, if_neg (fun e => hi e.1)])
    have HO := hid ho
    clear ho
    go_enter Try.func12, Try.ntmps12
    go_wp2_with (first | (go_at_call 26; refine (HM.out _ (H.out.below (bc_trans hA (by repeat (with_reducible first | assumption | exact bc_refl _ | apply bc_alloc | apply bc_drewN | apply bc_drew)))) hc).mono ?_; rintro e v1 ⟨rfl, hb⟩; rw [hm]; have HX : BelowC wb v1 := bc_step (by repeat (with_reducible first | assumption | exact bc_refl _ | apply bc_alloc | apply bc_drewN | apply bc_drew)) hb; clear hb) | (go_at_call 27; (with_reducible refine (lockIs x _).mono ?_); rintro e v2 ⟨rfl, hb⟩; rw [hx]; have HX2 : BelowC wb v2 := bc_step (by repeat (with_reducible first | assumption | exact bc_refl _ | apply bc_alloc | apply bc_drewN | apply bc_drew)) hb; clear hb) | (go_at_call 28; refine (Others _ _ _ L x _ (H.out.below (bc_trans hA (by repeat (with_reducible first | assumption | exact bc_refl _ | apply bc_alloc | apply bc_drewN | apply bc_drew)))) (by omega)).mono ?_; rintro e v3 ⟨v, rfl, ho3, hb⟩; have HX3 : BelowC wb v3 := bc_trans (by repeat (with_reducible first | assumption | exact bc_refl _ | apply bc_alloc | apply bc_drewN | apply bc_drew)) hb; clear hb; obtain ⟨A3, n3, c3, rfl, hn3, _, _, _⟩ := ownI_form ho3; have hq3 := HO.out; rw [← hn3] at hq3; clear ho3 hn3) | (go_at_call 29; refine (lockOwn _ _ _ L x _ (H.out.below (bc_trans hA (by repeat (with_reducible first | assumption | exact bc_refl _ | apply bc_alloc | apply bc_drewN | apply bc_drew))))).mono ?_; rintro e v4 ⟨rfl, hb⟩; have HX4 : BelowC wb v4 := bc_step (by repeat (with_reducible first | assumption | exact bc_refl _ | apply bc_alloc | apply bc_drewN | apply bc_drew)) hb; clear hb) | (go_at_call 30; refine (Put _ _ _ L x _ (H.out.below (bc_trans hA (by repeat (with_reducible first | assumption | exact bc_refl _ | apply bc_alloc | apply bc_drewN | apply bc_drew)))) hbig).mono ?_; rintro e v5 ⟨v, rfl, ho5, hb⟩; have HX5 : BelowC wb v5 := bc_trans (by repeat (with_reducible first | assumption | exact bc_refl _ | apply bc_alloc | apply bc_drewN | apply bc_drew)) hb; have HOW := hid (own_le ho5 (bc_trans hA (by repeat (with_reducible first | assumption | exact bc_refl _ | apply bc_alloc | apply bc_drewN | apply bc_drew)))); clear hb ho5))
    go_returns
    exact ⟨_, by rw [HTE.out, HP.out]; rfl, by rw [HTL.out, HP.out]; exact HOW.out, bc_trans HA.out HX5⟩
end Go.Proofs.Ytabbceinagakfaa.K
