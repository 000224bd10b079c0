/- Locks in own memory: written, cut, cleared. -/
import Derived.Test.YtabbceinagakfaaProg
import Derived.Below
import Derived.WalkKit
import Derived.KernelRfl
import Derived.RowKit
import Derived.RowKit3
import Derived.Tactics
import Derived.Deep.QuietTactic
import Derived.BigQuiet
import Derived.OwnWalk
import Derived.Outline
import Derived.Handy
import Derived.StillTailTactics
import Derived.Deep.RegionHeld3
import Derived.Deep.DeepCutAuto
import Derived.Deep.CutBlock
import Derived.Shelf.Abstract
import Derived.Shelf.SlSortCmp.QuietGrown
import Derived.Lib.SliceRun
import Derived.Lib.SmallJoins
import Derived.SliceStrings
import Derived.ArgAppend
import Derived.Deep.Slices
import Derived.ChangeSame
import Derived.Lib.Strings
import Derived.Test.YtabbceinagakfaaD8
namespace Go.Proofs.Ytabbceinagakfaa.K
open Go.RowKit Go.Proofs.YtabbceinagakfaaS
set_option linter.unusedSimpArgs false
set_option linter.unusedVariables false
attribute [local go_sem] s_leq s_gtr s_geq s_maxr s_minr
attribute [local go_sem] bc_alloc2 bc_alloc3 s_alloc_drewN s_setCell_drewN bc_alloc bc_drewN bc_drew

theorem own_below {w w' b : World} {v : Value} {L : List LockV} (h : OwnL w b v L) (hb : BelowC w w') : OwnL w' b v L :=
  World.ownsRow.kept h (row := none) ⟨hb.os, hb.tape, hb.output, hb.size, fun k hk _ => hb.block k hk⟩ (by cases v.ownBlock <;> simp)
theorem bc_setCells {b : World} {g : Nat} (hg : b.heap.size ≤ g) : ∀ (vs : List Value) (o : Nat) (w : World), BelowC b w → BelowC b (w.setCells g o vs)
  | [], _, _, h => h
  | v :: r, o, w, h => bc_setCells hg r (o + 1) _ (bc_set h hg)
/-- Cells of an own row written from o on: what lies ahead of o is as it was. -/
theorem own_setCells {B g n cap : Nat} : ∀ (vs : List Value) (o : Nat) (w : World) (xs : List Value), w.ownsRow B 31 6 (.slice (some ⟨g, 0, none⟩) n cap) n xs →
    ∃ xs', (w.setCells g o vs).ownsRow B 31 6 (.slice (some ⟨g, 0, none⟩) n cap) n xs' ∧ xs'.take o = xs.take o
  | [], o, w, xs, h => ⟨xs, h, rfl⟩
  | v :: r, o, w, xs, h => by
    obtain ⟨xs', h', ht⟩ := own_setCells r (o + 1) _ _ (h.stored o v).1
    refine ⟨xs', h', ?_⟩
    have e := congrArg (List.take o) ht
    rw [List.take_take, List.take_take, Nat.min_eq_left (by omega)] at e
    rw [e, List.take_set_of_le (Nat.le_refl _)]
theorem own_cut {w b : World} {g n cap m : Nat} {xs : List Value} {L : List LockV} (h : w.ownsRow b.heap.size 31 6 (.slice (some ⟨g, 0, none⟩) n cap) n xs) (hm : m ≤ n) (hL : m = L.length) (hx : xs.take (m * 6) = L.flatMap lkCells) : OwnL w b (.slice (some ⟨g, 0, none⟩) m cap) L := by
  subst hL
  refine ⟨flat_len L, .inr ?_⟩
  rcases h.2 with ⟨h', _⟩ | ⟨g', cap', cur, h', hb, hg, hnc, hcm, hcs, htake⟩
  · simp at h'
  · simp only [Value.slice.injEq, Option.some.injEq, Addr.mk.injEq, and_true, true_and] at h'
    obtain ⟨rfl, rfl⟩ := h'
    refine ⟨g, cap, cur, rfl, hb, hg, by omega, hcm, hcs, ?_⟩
    rw [← hx, ← htake, List.take_take, Nat.min_eq_left (Nat.mul_le_mul_right 6 hm)]
theorem flat_take (L : List LockV) (m : Nat) : (L.flatMap lkCells).take (m * 6) = (L.take m).flatMap lkCells := by
  induction m generalizing L with
  | zero => simp
  | succ m ih =>
    cases L with
    | nil => simp
    | cons x T =>
      rw [List.flatMap_cons, List.take_append, List.take_of_length_le (by simp [lkCells]; omega), List.take_succ_cons, List.flatMap_cons, ← ih T]
      simp [lkCells, show (m + 1) * 6 - 6 = m * 6 by omega]
theorem flat_set : ∀ (L : List LockV) (i : Nat) (x : LockV), i < L.length → ((((((L.flatMap lkCells).set (i * 6) (.int .i64 x.owner)).set (i * 6 + 1) (.int .i64 x.table)).set (i * 6 + 2) (.string x.lo)).set (i * 6 + 3) (.string x.hi)).set (i * 6 + 4) (.bool x.top)).set (i * 6 + 5) (.int .i64 x.mode) = (L.set i x).flatMap lkCells
  | [], i, _, h => absurd h (by simp)
  | y :: T, 0, x, _ => by simp [List.flatMap_cons, lkCells]
  | y :: T, i + 1, x, h => by
    have ih := flat_set T i x (by simpa using h)
    rw [List.set_cons_succ, List.flatMap_cons, List.flatMap_cons, ← ih]
    have hs : ∀ (Z : List Value) (q : Nat) (u : Value), (lkCells y ++ Z).set (6 + q) u = lkCells y ++ Z.set q u := fun Z q u => by
      rw [List.set_append_right _ _ (by simp [lkCells])]
      simp [lkCells]
    rw [show (i + 1) * 6 = 6 + i * 6 by omega, hs, show 6 + i * 6 + 1 = 6 + (i * 6 + 1) by omega, hs, show 6 + i * 6 + 2 = 6 + (i * 6 + 2) by omega, hs, show 6 + i * 6 + 3 = 6 + (i * 6 + 3) by omega, hs, show 6 + i * 6 + 4 = 6 + (i * 6 + 4) by omega, hs, show 6 + i * 6 + 5 = 6 + (i * 6 + 5) by omega, hs]
/-- A lock stored into an own row. -/
theorem own_store {w b : World} {g n cap i : Nat} {M : List LockV} (x : LockV) (h : OwnL w b (.slice (some ⟨g, 0, none⟩) n cap) M) (hn : n = M.length) (hi : i < M.length) :
    OwnL ((((((w.setCell ⟨g, i * 6, none⟩ (.int .i64 x.owner)).setCell ⟨g, i * 6 + 1, none⟩ (.int .i64 x.table)).setCell ⟨g, i * 6 + 2, none⟩ (.string x.lo)).setCell ⟨g, i * 6 + 3, none⟩ (.string x.hi)).setCell ⟨g, i * 6 + 4, none⟩ (.bool x.top)).setCell ⟨g, i * 6 + 5, none⟩ (.int .i64 x.mode)) b (.slice (some ⟨g, 0, none⟩) n cap) (M.set i x) := by
  subst hn
  unfold OwnL at h ⊢
  rw [List.length_set, ← flat_set M i x hi]
  exact ((((((h.stored _ _).1).stored _ _).1.stored _ _).1.stored _ _).1.stored _ _).1.stored _ _ |>.1
theorem own_at {w b : World} {g n cap : Nat} {M : List LockV} (h : OwnL w b (.slice (some ⟨g, 0, none⟩) n cap) M) (hn : n = M.length) {i : Nat} (hi : i < M.length) : LkAt w g (i * 6) M[i] := by
  subst hn
  refine lk_at fun r hr => ?_
  have := World.ownsRow.cellAt h (i * 6 + r) (by omega)
  rw [flat_get M i hi r hr] at this
  exact this
theorem own_fz {w b : World} {g n cap : Nat} {M : List LockV} (h : OwnL w b (.slice (some ⟨g, 0, none⟩) n cap) M) (hn : n = M.length) : ∀ o, w.frozen? ⟨g, o, none⟩ = false := by
  subst hn
  exact fun o => World.ownsRow.frozenAt h o
theorem own_some {w b : World} {g n cap : Nat} {M : List LockV} (h : OwnL w b (.slice (some ⟨g, 0, none⟩) n cap) M) (hn : n = M.length) {j : Nat} (hj : j < n * 6) : (w.cell? ⟨g, j, none⟩).isSome = true := by
  subst hn
  rw [World.ownsRow.cellAt h j hj, List.getElem?_eq_getElem (by rw [flat_len]; exact hj)]
  rfl
def zs6 (n : Nat) : List Value := (Builtin.zeroCells #[.int .i64 0, .int .i64 0, .string ⟨#[]⟩, .string ⟨#[]⟩, .bool false, .int .i64 0] n).toList
theorem run_clear6 (W : World) (ty : TypeId) (b o n c : Nat) (hn : 0 < n) (hc : ∀ j, j < n * 6 → (W.cell? ⟨b, o + j, none⟩).isSome = true) (hf : ∀ j, j < n * 6 → W.frozen? ⟨b, o + j, none⟩ = false) :
    (Builtin.clear_ #[22] ty #[.slice (some ⟨b, o, none⟩) n c]).run Try.prog W = .ok (.tuple #[]) (W.setCells b o (zs6 n)) := by
  unfold zs6
  have hlen : (Builtin.zeroCells #[.int .i64 0, .int .i64 0, .string ⟨#[]⟩, .string ⟨#[]⟩, .bool false, .int .i64 0] n).toList.length = n * 6 := by simp [Builtin.zeroCells]
  have hst := run_storeCells_cells (P := Try.prog) b o (Builtin.zeroCells #[.int .i64 0, .int .i64 0, .string ⟨#[]⟩, .string ⟨#[]⟩, .bool false, .int .i64 0] n).toList 0 W (by rw [hlen]; simpa using hc) (by rw [hlen]; simpa using hf) (by
    intro v hv
    simp only [Builtin.zeroCells, Array.toList_map, List.mem_map, Array.mem_toList_iff] at hv
    obtain ⟨q, _, rfl⟩ := hv
    have hq : q % 6 < 6 := Nat.mod_lt _ (by decide)
    rcases (show q % 6 = 0 ∨ q % 6 = 1 ∨ q % 6 = 2 ∨ q % 6 = 3 ∨ q % 6 = 4 ∨ q % 6 = 5 by omega) with e | e | e | e | e | e <;> simp [e] <;> rfl)
  simp only [Nat.add_zero] at hst
  obtain ⟨m, rfl⟩ : ∃ m, n = m + 1 := ⟨n - 1, by omega⟩
  have hv := Try.zeroValue31
  simp [Builtin.clear_, run_underlying Try.underlying22, hv, Value.cells, hst]
end Go.Proofs.Ytabbceinagakfaa.K
