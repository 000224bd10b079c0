/- What is spoiled, and what is not. -/
import Derived.Test.YtabbceinagakfaaProg
import Derived.Below
import Derived.WalkKit
import Derived.KernelRfl
import Derived.RowKit
import Derived.RowKit3
import Derived.Tactics
import Derived.Deep.QuietTactic
import Derived.BigQuiet
import Derived.OwnWalk
import Derived.Outline
import Derived.Handy
import Derived.StillTailTactics
import Derived.Deep.RegionHeld3
import Derived.Deep.DeepCutAuto
import Derived.Deep.CutBlock
import Derived.Shelf.Abstract
import Derived.Shelf.SlSortCmp.QuietGrown
import Derived.Lib.SliceRun
import Derived.Sort.OwnSortedInts
import Derived.Lib.SlicesCompact
import Derived.Lib.SmallJoins
import Derived.SliceStrings
import Derived.ArgAppend
import Derived.Deep.Slices
import Derived.ChangeSame
import Derived.Lib.Strings
import Derived.Test.YtabbceinagakfaaD24
namespace Go.Proofs.Ytabbceinagakfaa.K
open Go.RowKit Go.Proofs.YtabbceinagakfaaS
set_option linter.unusedSimpArgs false
set_option linter.unusedVariables false
attribute [local go_sem] s_leq s_gtr s_geq s_maxr s_minr
attribute [local go_sem] bc_alloc2 bc_alloc3 s_alloc_drewN s_setCell_drewN bc_alloc bc_drewN bc_drew

theorem g_trans {a b c : World} {row : Option Nat} (h : a.grownBy b row) (k : b.grownBy c row) : a.grownBy c row :=
  ⟨k.os.trans h.os, k.tape.trans h.tape, k.output.trans h.output, Nat.le_trans h.size k.size, fun i hi hne => (k.block i (Nat.lt_of_lt_of_le hi h.size) hne).trans (h.block i hi hne)⟩
theorem g_refl (a : World) (row : Option Nat) : a.grownBy a row := ⟨rfl, rfl, rfl, Nat.le_refl _, fun _ _ _ => rfl⟩
theorem grown_set {w w' : World} {g : Nat} (h : w.grownBy w' (some g)) (j : Nat) (v : Value) : w.grownBy (w'.setCell ⟨g, j, none⟩ v) (some g) := by
  exact g_trans h ⟨rfl, rfl, rfl, by simp, fun k _ hne => heap_setCell_other w' ⟨g, j, none⟩ k v (fun e => hne (by rw [e]))⟩
/-- A row of one's own that lies in another block is kept. -/
theorem own_apart {w w' b : World} {A : Option Addr} {n c : Nat} {u : Value} {L M : List LockV} {b0 w0 : World} (hu : OwnL w b u M) (hx : OwnL w0 b0 (.slice A n c) L) (hB : BelowC w0 b) (hg : w.grownBy w' (Value.slice A n c).ownBlock) : OwnL w' b u M := by
  refine World.ownsRow.kept hu hg ?_
  obtain ⟨A', n', c', e, _, _, _, hA⟩ := own_form hx
  cases e
  obtain ⟨A2, n2, c2, rfl, _, _, _, hA2⟩ := own_form hu
  cases A2 with
  | none => exact .inl rfl
  | some a =>
    obtain ⟨g2, rfl, hg2, _, _⟩ := hA2 _ rfl
    cases A with
    | none => exact .inr (by simp [Value.ownBlock])
    | some a' =>
      obtain ⟨g1, rfl, _, hg1, _⟩ := hA _ rfl
      refine .inr ?_
      have := bc_size hB
      simp [Value.ownBlock]
      omega
set_option maxHeartbeats 4000000 in
theorem SpoilG (A : Option Addr) (n c : Nat) (L : List LockV) (w b : World) (h : OwnL w b (.slice A n c) L) (hB : BelowC b w) : Calls Try.prog 43 #[.slice A n c] w fun e w' => e = .returned (.tuple #[]) ∧ BelowC b w' ∧ Hid (w.grownBy w' (Value.slice A n c).ownBlock) := by
  obtain ⟨A', n', c', e, hn, hnc, hL, hA⟩ := own_form h
  cases e
  have hn2 := hL.2.1
  have H := hid h
  have HN := hid hn
  have HL := hid hL
  have HA := hid hA
  have HG0 := hid (g_refl w (Value.slice A n c).ownBlock)
  clear h hn hL hA
  go_enter Try.func43, Try.ntmps43
  go_wp2_with fail
  go_loopw [2] (fun y wr => ∃ (k : Nat) (M : List LockV), k ≤ n ∧ y = .int .i64 k ∧ OwnL wr b (.slice A n c) M ∧ Hid (n = M.length) ∧ BelowC b wr ∧ Hid (w.grownBy wr (Value.slice A n c).ownBlock)) (fun y _ => n - (intOf y).toNat)
  case atStart => exact ⟨0, L, by omega, rfl, H.out, HN, hB, HG0⟩
  case round =>
    obtain ⟨k, M, hk, rfl, HO, HM, HK, HG⟩ := hrel
    rename World => wK
    have HOw := hid HO
    clear HO
    by_cases hlt : k < n
    · obtain ⟨g, o1, rfl, _, _⟩ := HL.out.2.2 (by omega)
      obtain ⟨g', hg, hbg, _, _⟩ := HA.out _ rfl
      cases hg
      have HKM : Hid (k < M.length) := hid (by have := HM.out; omega)
      have hy := own_at HOw.out HM.out HKM.out
      generalize (M[k]'HKM.out) = y at hy
      have s0 := hy.c0
      have s1 := hy.c1
      have s2 := hy.c2
      have s3 := hy.c3
      have s4 := hy.c4
      have s5 := hy.c5
      clear hy
      have fz := own_fz HOw.out HM.out
      have i1 : (k : Int) < (n : Int) := by omega
      go_wp2_with fail
      go_roundw
      case rel => exact ⟨k + 1, M.set k ⟨-9, 0, ⟨#[]⟩, ⟨#[]⟩, false, 0⟩, by omega, by go_num, own_store ⟨-9, 0, ⟨#[]⟩, ⟨#[]⟩, false, 0⟩ HOw.out HM.out HKM.out, hid (by rw [List.length_set]; exact HM.out), bc_set (bc_set (bc_set (bc_set (bc_set (bc_set HK hbg) hbg) hbg) hbg) hbg) hbg, hid (grown_set (grown_set (grown_set (grown_set (grown_set (grown_set HG.out _ _) _ _) _ _) _ _) _ _) _ _)⟩
      case measure => simp [intOf]; omega
    · go_wp2_with fail
      go_returns
      exact ⟨rfl, HK, HG⟩
theorem Within9 (d : Int) (w : World) : Calls Try.prog 33 #[.int .i64 d, .int .i64 9] w fun e w' => ∃ d' : Int, e = .returned (.int .i64 d') ∧ BelowC w w' := by
  have h0 := bc_refl w
  go_enter Try.func33, Try.ntmps33
  go_wp2_with fail
  go_returns
  exact ⟨_, rfl, h0⟩
abbrev ActV.val (a : ActV) : Value := .agg #[.int .i64 a.d, .int .i64 a.o, .int .i64 a.x.owner, .int .i64 a.x.table, .string a.x.lo, .string a.x.hi, .bool a.x.top, .int .i64 a.x.mode]
theorem may_all {L : List LockV} (h : mayL L = true) : (∀ y ∈ L, isL y = true) ∧ (L.length : Int) ≤ 200 := by
  simp [mayL] at h
  exact ⟨h.2.1, h.1⟩
end Go.Proofs.Ytabbceinagakfaa.K
