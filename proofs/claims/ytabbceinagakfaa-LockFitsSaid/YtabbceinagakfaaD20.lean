/- EqNumbers, quorumlaw0.Locks. -/
import Derived.Test.YtabbceinagakfaaProg
import Derived.Below
import Derived.WalkKit
import Derived.KernelRfl
import Derived.RowKit
import Derived.RowKit3
import Derived.Tactics
import Derived.Deep.QuietTactic
import Derived.BigQuiet
import Derived.OwnWalk
import Derived.Outline
import Derived.Handy
import Derived.StillTailTactics
import Derived.Deep.RegionHeld3
import Derived.Deep.DeepCutAuto
import Derived.Deep.CutBlock
import Derived.Shelf.Abstract
import Derived.Shelf.SlSortCmp.QuietGrown
import Derived.Lib.SliceRun
import Derived.Sort.OwnSortedInts
import Derived.Lib.SlicesCompact
import Derived.Lib.SmallJoins
import Derived.SliceStrings
import Derived.ArgAppend
import Derived.Deep.Slices
import Derived.ChangeSame
import Derived.Lib.Strings
import Derived.Test.YtabbceinagakfaaD19
namespace Go.Proofs.Ytabbceinagakfaa.K
open Go.RowKit Go.Proofs.YtabbceinagakfaaS
set_option linter.unusedSimpArgs false
set_option linter.unusedVariables false
attribute [local go_sem] s_leq s_gtr s_geq s_maxr s_minr
attribute [local go_sem] bc_alloc2 bc_alloc3 s_alloc_drewN s_setCell_drewN bc_alloc bc_drewN bc_drew

set_option maxRecDepth 100000 in
set_option maxHeartbeats 4000000 in
theorem EqNumbers (A A' : Option Addr) (n n' c c' : Nat) (L : List Int) (w : World) (h : Ns w A n L) (h' : Ns w A' n' L) : Calls Try.prog 36 #[.slice A n c, .slice A' n' c'] w (Ret (.bool true) w) := by
  obtain rfl : n = n' := h.1.trans h'.1.symm
  have hn := h.2.1
  have H := hid h
  have H' := hid h'
  have HL := hid h.1
  clear h h'
  have h0 := bc_refl w
  go_enter Try.func36, Try.ntmps36
  go_wp2_with fail
  go_loopw [5] (fun y wr => ∃ k : Nat, k ≤ n ∧ y = .int .i64 k ∧ BelowC w wr) (fun y _ => n - (intOf y).toNat)
  case atStart => exact ⟨0, by omega, rfl, h0⟩
  case round =>
    obtain ⟨k, hk, rfl, HK⟩ := hrel
    rename World => wK
    by_cases hlt : k < n
    · obtain ⟨b, of, rfl, hb0, hcs⟩ := H.out.2.2 (by omega)
      obtain ⟨b', of', rfl, hb0', hcs'⟩ := H'.out.2.2 (by omega)
      have hkl : k < L.length := by have := HL.out; omega
      have hx := hcs k hkl
      have hx' := hcs' k hkl
      generalize L[k] = x at hx hx'
      have qa := bc_cell hx hb0
      have qb := bc_cell hx' hb0'
      clear hx hx' hcs hcs' hkl
      have i1 : (k : Int) < (n : Int) := by omega
      go_wp2_with fail
      go_quiet (fail)
      go_wp2_with fail
      go_roundw
      case rel => exact ⟨k + 1, by omega, by go_num, bc_drewN HK _⟩
      case measure => simp [intOf]; omega
    · go_wp2_with fail
      go_returns
      exact ⟨rfl, HK⟩
set_option maxHeartbeats 4000000 in
theorem Spoil (A : Option Addr) (n c : Nat) (L : List LockV) (w b : World) (h : OwnL w b (.slice A n c) L) (hB : BelowC b w) : Calls Try.prog 43 #[.slice A n c] w fun e w' => e = .returned (.tuple #[]) ∧ BelowC b w' := by
  obtain ⟨A', n', c', e, hn, hnc, hL, hA⟩ := own_form h
  cases e
  have hn2 := hL.2.1
  have H := hid h
  have HN := hid hn
  have HL := hid hL
  have HA := hid hA
  clear h hn hL hA
  go_enter Try.func43, Try.ntmps43
  go_wp2_with fail
  go_loopw [2] (fun y wr => ∃ (k : Nat) (M : List LockV), k ≤ n ∧ y = .int .i64 k ∧ OwnL wr b (.slice A n c) M ∧ Hid (n = M.length) ∧ BelowC b wr) (fun y _ => n - (intOf y).toNat)
  case atStart => exact ⟨0, L, by omega, rfl, H.out, HN, hB⟩
  case round =>
    obtain ⟨k, M, hk, rfl, HO, HM, HK⟩ := hrel
    rename World => wK
    have HOw := hid HO
    clear HO
    by_cases hlt : k < n
    · obtain ⟨g, o1, rfl, _, _⟩ := HL.out.2.2 (by omega)
      obtain ⟨g', hg, hbg, _, _⟩ := HA.out _ rfl
      cases hg
      have HKM : Hid (k < M.length) := hid (by have := HM.out; omega)
      have hy := own_at HOw.out HM.out HKM.out
      generalize (M[k]'HKM.out) = y at hy
      have s0 := hy.c0
      have s1 := hy.c1
      have s2 := hy.c2
      have s3 := hy.c3
      have s4 := hy.c4
      have s5 := hy.c5
      clear hy
      have fz := own_fz HOw.out HM.out
      have i1 : (k : Int) < (n : Int) := by omega
      go_wp2_with fail
      go_roundw
      case rel => exact ⟨k + 1, M.set k ⟨-9, 0, ⟨#[]⟩, ⟨#[]⟩, false, 0⟩, by omega, by go_num, own_store ⟨-9, 0, ⟨#[]⟩, ⟨#[]⟩, false, 0⟩ HOw.out HM.out HKM.out, hid (by rw [List.length_set]; exact HM.out), bc_set (bc_set (bc_set (bc_set (bc_set (bc_set HK hbg) hbg) hbg) hbg) hbg) hbg⟩
      case measure => simp [intOf]; omega
    · go_wp2_with fail
      go_returns
      exact ⟨rfl, HK⟩
end Go.Proofs.Ytabbceinagakfaa.K
