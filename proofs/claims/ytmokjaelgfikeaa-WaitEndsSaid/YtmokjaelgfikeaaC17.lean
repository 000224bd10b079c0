/- ref Ages. -/
import Derived.Test.YtmokjaelgfikeaaProg
import Derived.Below
import Derived.WalkKit
import Derived.KernelRfl
import Derived.RowKit
import Derived.RowKit3
import Derived.Tactics
import Derived.Deep.QuietTactic
import Derived.BigQuiet
import Derived.OwnWalk
import Derived.Outline
import Derived.Handy
import Derived.StillTailTactics
import Derived.Deep.RegionHeld3
import Derived.Deep.DeepCutAuto
import Derived.Deep.CutBlock
import Derived.Shelf.Abstract
import Derived.Shelf.SlSortCmp.QuietGrown
import Derived.Lib.SliceRun
import Derived.Sort.OwnSortedInts
import Derived.Lib.SlicesCompact
import Derived.Lib.SmallJoins
import Derived.SliceStrings
import Derived.ArgAppend
import Derived.Deep.AppendSrc
import Derived.Deep.Upon
import Derived.Deep.Slices
import Derived.ChangeSame
import Derived.Maps.OwnSet
import Derived.Maps.Range
import Derived.Maps.OwnOps
import Derived.Lib.SlKeysI
import Derived.Maps.Views
import Derived.Maps.AppendAt
import Derived.Test.YtmokjaelgfikeaaC16
namespace Go.Proofs.Ytmokjaelgfikeaa.K
open Go.RowKit
set_option linter.unusedSimpArgs false
set_option linter.unusedVariables false
attribute [local go_sem] bc_alloc2 bc_alloc3 s_alloc_drewN s_setCell_drewN bc_alloc bc_drewN bc_drew

theorem NumQ (n m : Int) (w : World) : Calls Try.prog 15 #[.int .i64 n, .int .i64 m] w (QRet (.bool (decide (0 ≤ n) && decide (n ≤ m))) w) := by
  by_cases h : 0 ≤ n
  · have d : decide (0 ≤ n) = true := decide_eq_true h
    go_enter Try.func15, Try.ntmps15
    go_wp2_with fail
    go_returns
    exact ⟨by first | rfl | simp [h], 0, rfl⟩
  · have d : decide (0 ≤ n) = false := decide_eq_false h
    go_enter Try.func15, Try.ntmps15
    go_wp2_with fail
    go_returns
    exact ⟨by first | rfl | simp [h], 0, rfl⟩
set_option maxRecDepth 100000 in
set_option maxHeartbeats 8000000 in
theorem AgesOf (A A' : Option Addr) (n n' c c' : Nat) (l L : List Int) (w : World) (h : Ns w A n l) (h' : Ns w A' n' L) (hu : UnlikeP l) : Calls Try.prog 9 #[.slice A n c, .slice A' n' c'] w (QRet (.bool (L.all (agedB l))) w) := by
  have hn := h.2.1
  have hn' := h'.2.1
  have H := hid h
  have H' := hid h'
  have HU := hid hu
  have HL := hid h.1
  have HL' := hid h'.1
  clear h h' hu
  go_enter Try.func9, Try.ntmps9
  go_wp2_with fail
  go_loopg [5, 6] n (fun g y5 _ wr => ∃ (i q : Nat), i ≤ n ∧ g = n - i ∧ y5 = .int .i64 i ∧ wr = w.drewN q)
  case atStart => exact ⟨0, 0, by omega, by omega, rfl, rfl⟩
  case round =>
    obtain ⟨i, q, hi, rfl, rfl, rfl⟩ := hrel
    by_cases hlt : i < n
    · obtain ⟨b, o, rfl, hb0, hc⟩ := H.out.2.2 (by omega)
      have hil : i < l.length := by have := HL.out; omega
      have hz := hc i hil
      have hz0 := HU.out.1 _ (List.getElem_mem hil)
      have HPW := hid (fun k (hkl : k < l.length) (hk : k < i) => (List.pairwise_iff_getElem.1 HU.out.2) k i hkl hil hk)
      have HC := hid hc
      generalize l[i] = z at hz hz0 HPW
      have dz : decide (z < 0) = false := decide_eq_false (by omega)
      have i1 : (i : Int) < (n : Int) := by omega
      clear hc hil
      go_wp2_with fail
      go_loopg [6] i (fun g y wr => ∃ (k q : Nat), k ≤ i ∧ g = i - k ∧ y = .int .i64 k ∧ wr = w.drewN q)
      case atStart => exact ⟨0, q, by omega, by omega, rfl, rfl⟩
      case round =>
        obtain ⟨k, q, hk, rfl, rfl, rfl⟩ := hrel
        by_cases hki : k < i
        · have hy := HC.out k (by have := HL.out; omega)
          have hne := HPW.out k (by have := HL.out; omega) hki
          generalize l[k]'(by have := HL.out; omega) = y at hy hne
          have k1 : (k : Int) < (i : Int) := by omega
          have k2 : (k : Int) < (n : Int) := by omega
          by_cases ez : z = 0
          · have b1 : (z != 0) = false := by simp [ez]
            clear ez hne
            go_wp2_with fail
            go_quiet (fail)
            go_wp2_with fail
            go_roundg (i - (k + 1))
            case measure => omega
            case rel => exact ⟨k + 1, _, by omega, rfl, by go_num, rfl⟩
          · have b1 : (z != 0) = true := by simp [ez]
            have b2 : (y == z) = false := by have := hne (by omega); simp [this]
            clear ez hne
            go_wp2_with fail
            go_quiet (fail)
            go_wp2_with fail
            go_roundg (i - (k + 1))
            case measure => omega
            case rel => exact ⟨k + 1, _, by omega, rfl, by go_num, rfl⟩
        · have k1 : decide ((k : Int) < (i : Int)) = false := decide_eq_false (by omega)
          go_wp2_with fail
          go_roundg (n - (i + 1))
          case measure => omega
          case rel => exact ⟨i + 1, _, by omega, rfl, by go_num, rfl⟩
    · go_wp2_with fail
      go_loopg [7] n' (fun g y wr => ∃ (j q : Nat), j ≤ n' ∧ g = n' - j ∧ y = .int .i64 j ∧ wr = w.drewN q ∧ Hid ((L.take j).all (agedB l) = true))
      case atStart => exact ⟨0, q, by omega, by omega, rfl, rfl, hid (by simp)⟩
      case round =>
        obtain ⟨j, q, hj, rfl, rfl, rfl, HJ⟩ := hrel
        by_cases hjn : j < n'
        · obtain ⟨b, o, rfl, hb0, hc⟩ := H'.out.2.2 (by omega)
          have hjl : j < L.length := by have := HL'.out; omega
          have hx := hc j hjl
          have HBAD := hid (fun h : agedB l L[j] = false => (List.all_eq_false.2 ⟨L[j], List.getElem_mem hjl, by simp [h]⟩ : L.all (agedB l) = false))
          have HGO := hid (fun h : agedB l L[j] = true => (by rw [take_succ' hjl, List.all_append, HJ.out]; simp [h] : (L.take (j + 1)).all (agedB l) = true))
          generalize L[j] = x at hx HBAD HGO
          have j1 : (j : Int) < (n' : Int) := by omega
          have hwr : wrap64 ((n : Int) - 1) = (n : Int) - 1 := by simp only [wrap64]; omega
          clear hc hjl
          by_cases hin : 0 ≤ x ∧ x ≤ (n : Int) - 1
          · have dn : (decide (0 ≤ x) && decide (x ≤ (n : Int) - 1)) = true := by simp [hin.1, hin.2]
            obtain ⟨k, rfl⟩ : ∃ k : Nat, x = (k : Int) := ⟨x.toNat, by omega⟩
            obtain ⟨b2, o2, rfl, hb2, hc2⟩ := H.out.2.2 (by omega)
            have hkl : k < l.length := by have := HL.out; omega
            have hy := hc2 k hkl
            have HAG : Hid (agedB l (k : Int) = !(l[k] == 0)) := hid (by
              rw [agedB, decide_eq_true (by omega : (0 : Int) ≤ (k : Int)), decide_eq_true (by omega : (k : Int) < l.length), show ((k : Int)).toNat = k by omega, getI hkl]
              rfl)
            generalize l[k] = y at hy HAG
            have k0 : (0 : Int) ≤ (k : Int) := by omega
            have k1 : (k : Int) < (n : Int) := by omega
            clear hc2 hkl
            cases hy0 : (y == 0)
            · have HG := hid (HGO.out (by rw [HAG.out, hy0]; rfl))
              go_wp2_with (go_at_call 15; refine (NumQ _ _ _).mono ?_; rintro e v1 ⟨rfl, q1, rfl⟩; rw [dn])
              go_roundg (n' - (j + 1))
              case measure => omega
              case rel => exact ⟨j + 1, _, by omega, rfl, by go_num, rfl, HG⟩
            · have HB := hid (HBAD.out (by rw [HAG.out, hy0]; rfl))
              go_wp2_with (go_at_call 15; refine (NumQ _ _ _).mono ?_; rintro e v1 ⟨rfl, q1, rfl⟩; rw [dn])
              go_returns
              exact ⟨by first | (rw [HB.out]; rfl) | rw [HB.out], _, rfl⟩
          · have dn : (decide (0 ≤ x) && decide (x ≤ (n : Int) - 1)) = false := by
              rw [Bool.and_eq_false_iff, decide_eq_false_iff_not, decide_eq_false_iff_not]
              omega
            have HB := hid (HBAD.out (by
              unfold agedB
              by_cases h0 : 0 ≤ x
              · rw [decide_eq_false (by have := HL.out; omega : ¬ x < (l.length : Int))]
                simp
              · simp [h0]))
            go_wp2_with (go_at_call 15; refine (NumQ _ _ _).mono ?_; rintro e v1 ⟨rfl, q1, rfl⟩; rw [dn])
            go_returns
            exact ⟨by first | (rw [HB.out]; rfl) | rw [HB.out], _, rfl⟩
        · have hj2 : decide ((j : Int) < (n' : Int)) = false := decide_eq_false (by omega)
          have HF : Hid (L.all (agedB l) = true) := hid (by have := HJ.out; rw [List.take_of_length_le (by have := HL'.out; omega)] at this; exact this)
          go_wp2_with fail
          go_returns
          exact ⟨by first | (rw [HF.out]; rfl) | rw [HF.out], _, rfl⟩
end Go.Proofs.Ytmokjaelgfikeaa.K
