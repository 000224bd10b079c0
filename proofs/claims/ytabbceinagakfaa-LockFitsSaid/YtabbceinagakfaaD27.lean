/- LockExact. -/
import Derived.Test.YtabbceinagakfaaProg
import Derived.Below
import Derived.WalkKit
import Derived.KernelRfl
import Derived.RowKit
import Derived.RowKit3
import Derived.Tactics
import Derived.Deep.QuietTactic
import Derived.BigQuiet
import Derived.OwnWalk
import Derived.Outline
import Derived.Handy
import Derived.StillTailTactics
import Derived.Deep.RegionHeld3
import Derived.Deep.DeepCutAuto
import Derived.Deep.CutBlock
import Derived.Shelf.Abstract
import Derived.Shelf.SlSortCmp.QuietGrown
import Derived.Lib.SliceRun
import Derived.Sort.OwnSortedInts
import Derived.Lib.SlicesCompact
import Derived.Lib.SmallJoins
import Derived.SliceStrings
import Derived.ArgAppend
import Derived.Deep.Slices
import Derived.ChangeSame
import Derived.Lib.Strings
import Derived.Test.YtabbceinagakfaaD26
namespace Go.Proofs.Ytabbceinagakfaa.K
open Go.RowKit Go.Proofs.YtabbceinagakfaaS
set_option linter.unusedSimpArgs false
set_option linter.unusedVariables false
attribute [local go_sem] s_leq s_gtr s_geq s_maxr s_minr
attribute [local go_sem] bc_alloc2 bc_alloc3 s_alloc_drewN s_setCell_drewN bc_alloc bc_drewN bc_drew

theorem step (A : Option Addr) (n c : Nat) (L : List LockV) (a : ActV) (w : World) (h : Lks w A n L) (hc : n ≤ c) (hbig : n ≤ 2199023255500) : Calls Try.prog 18 #[.slice A n c, a.val] w (StepR w) := by
  cases hm : mayL L
  · exact step_ff A n c L a w h hc hbig hm
  · cases hx : isL a.x
    · exact step_tf A n c L a w h hc hbig hm hx
    · exact step_tt A n c L a w h hc hbig hm hx
set_option maxRecDepth 100000 in
set_option maxHeartbeats 4000000 in
theorem Exact (AL AA : Option Addr) (nL cL nA cA : Nat) (L : List LockV) (F : Nat → ActV) (w : World) (hL : Lks w AL nL L) (hc : nL ≤ cL) (hbig : nL ≤ 2199023255500) (hF : Acts w AA nA F) : Calls Try.prog 4 #[.agg #[.slice AL nL cL, .slice AA nA cA]] w (Ret (.bool true) w) := by
  have hn := hF.1
  have HL := hid hL
  have HF := hid hF
  clear hL hF
  obtain ⟨wb, hA, hAA, hsz, c0, c1⟩ : ∃ wb : World, BelowC w wb ∧ BelowC wb (w.alloc (.cells #[.slice AL nL cL, .slice AA nA cA] 25)) ∧ w.heap.size + 1 ≤ wb.heap.size ∧ (∀ w', BelowC wb w' → w'.cell? ⟨w.heap.size, 0, none⟩ = some (.slice AL nL cL)) ∧ (∀ w', BelowC wb w' → w'.cell? ⟨w.heap.size, 1, none⟩ = some (.slice AA nA cA)) := ⟨_, bc_alloc (bc_refl _) _, bc_refl _, by simp, bc_cell (by go_simp) (by first | (simp; done) | (simp; omega)), bc_cell (by go_simp) (by first | (simp; done) | (simp; omega))⟩
  have HA := hid hA
  go_enter Try.func4, Try.ntmps4
  go_wp2_with (first | (go_at_call 8; refine (Heavy AL AA nL cL nA cA L F _ (HL.out.below (bc_trans hA (by repeat (with_reducible first | assumption | exact bc_refl _ | apply bc_alloc | apply bc_drewN | apply bc_drew)))) (HF.out.below (bc_trans hA (by repeat (with_reducible first | assumption | exact bc_refl _ | apply bc_alloc | apply bc_drewN | apply bc_drew))))).mono ?_; rintro e v1 ⟨hv, rfl, hb⟩; have HX1 : BelowC wb v1 := bc_trans (by repeat (with_reducible first | assumption | exact bc_refl _ | apply bc_alloc | apply bc_drewN | apply bc_drew)) hb; clear hb) | (go_at_call 17; refine (CopyLocks AL nL cL L _ (HL.out.below (bc_trans hA (by repeat (with_reducible first | assumption | exact bc_refl _ | apply bc_alloc | apply bc_drewN | apply bc_drew)))) (by omega)).mono ?_; rintro e v2 ⟨v, rfl, ho, hb⟩; have HX2 : BelowC wb v2 := bc_trans (by repeat (with_reducible first | assumption | exact bc_refl _ | apply bc_alloc | apply bc_drewN | apply bc_drew)) hb; clear hb; obtain ⟨A2, n2, c2, rfl, hn2, hnc2, hL2, _⟩ := own_form ho; have hnn : nL = n2 := HL.out.1.trans hn2.symm; subst hnn; have HL2 := hid hL2; have HC2 := hid hnc2; clear ho hn2 hL2 hnc2))
  · go_returns
    exact ⟨rfl, bc_trans HA.out HX1⟩
  go_loopw [3, 4, 5, 6] (fun y3 y4 _ _ wr => ∃ (i : Nat) (A' : Option Addr) (n' c' : Nat) (L' : List LockV), i ≤ nA ∧ y3 = .slice A' n' c' ∧ y4 = .int .i64 i ∧ Lks wr A' n' L' ∧ Hid (n' ≤ c') ∧ n' ≤ 2199023255500 ∧ BelowC wb wr) (fun _ y _ _ _ => nA - (intOf y).toNat)
  case atStart => exact ⟨0, A2, nL, c2, L, by omega, rfl, rfl, HL2.out, HC2, hbig, HX2⟩
  case round =>
    clear HX1 HX2
    obtain ⟨i, A', n', c', L', hi, rfl, rfl, HO, HC, hb', HW⟩ := hrel
    rename World => wI
    have HOw := hid HO
    clear HO
    by_cases hlt : i < nA
    · have d1 : decide ((i : Int) < (nA : Int)) = true := decide_eq_true (by omega)
      obtain ⟨b, o, rfl, hb0, hcs⟩ := (HF.out.below (bc_trans HA.out HW)).2 (by omega)
      have hx := hcs i hlt
      generalize F i = a at hx
      obtain ⟨s0, s1, s2, s3, s4, s5, s6, s7⟩ := hx
      clear hcs
      have i1 : (i : Int) < (nA : Int) := by omega
      by_cases h14 : (i : Int) < 14
      · have d2 : decide ((i : Int) < 14) = true := decide_eq_true h14
        go_wp2_with (go_at_call 18; refine (step A' n' c' L' a _ (HOw.out.below (by repeat (with_reducible first | assumption | exact bc_refl _ | apply bc_alloc | apply bc_drewN | apply bc_drew))) HC.out hb').mono ?_; rintro e v3 ⟨A3, n3, c3, L3, rfl, hl3, hc3, hb3, hb⟩; have HL3 := hid hl3; have HC3 := hid hc3; have HX3 : BelowC wb v3 := bc_trans (by repeat (with_reducible first | assumption | exact bc_refl _ | apply bc_alloc | apply bc_drewN | apply bc_drew)) hb; clear hl3 hc3 hb)
        go_roundw
        case rel => exact ⟨i + 1, A3, n3, c3, L3, by omega, rfl, by go_num, HL3.out, HC3, hb3, HX3⟩
        case measure => simp [intOf]; omega
      · have d2 : decide ((i : Int) < 14) = false := decide_eq_false h14
        go_wp2_with (go_at_call 16; refine (wakes _).mono ?_; rintro e v3 ⟨rfl, hb⟩; have HX3 : BelowC wb v3 := bc_step (by repeat (with_reducible first | assumption | exact bc_refl _ | apply bc_alloc | apply bc_drewN | apply bc_drew)) hb; clear hb)
        go_returns
        exact ⟨rfl, bc_trans HA.out HX3⟩
    · have d1 : decide ((i : Int) < (nA : Int)) = false := decide_eq_false (by omega)
      go_wp2_with (go_at_call 16; refine (wakes _).mono ?_; rintro e v3 ⟨rfl, hb⟩; have HX3 : BelowC wb v3 := bc_step (by repeat (with_reducible first | assumption | exact bc_refl _ | apply bc_alloc | apply bc_drewN | apply bc_drew)) hb; clear hb)
      go_returns
      exact ⟨rfl, bc_trans HA.out HX3⟩
end Go.Proofs.Ytabbceinagakfaa.K
