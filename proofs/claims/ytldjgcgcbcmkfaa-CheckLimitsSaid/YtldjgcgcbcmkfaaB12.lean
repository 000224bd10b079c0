/- Contracts of packages key and plan: what each comes to. -/
import Derived.Test.YtldjgcgcbcmkfaaProg
import Derived.Below
import Derived.WalkKit
import Derived.KernelRfl
import Derived.RowKit
import Derived.RowKit3
import Derived.Tactics
import Derived.Deep.QuietTactic
import Derived.BigQuiet
import Derived.OwnWalk
import Derived.Outline
import Derived.Handy
import Derived.StillTailTactics
import Derived.Deep.RegionHeld3
import Derived.Deep.DeepCutAuto
import Derived.Deep.CutBlock
import Derived.Shelf.Abstract
import Derived.Lib.Strings
import Derived.Test.YtldjgcgcbcmkfaaB10
namespace Go.Proofs.Ytldjgcgcbcmkfaa.K
open Go.RowKit Go.Proofs.YtldjgcgcbcmkfaaS
set_option linter.unusedSimpArgs false
set_option linter.unusedVariables false
attribute [local go_sem] s_leq s_gtr s_geq s_maxr s_minr

attribute [local go_sem] bc_alloc2 bc_alloc3 s_alloc_drewN s_setCell_drewN bc_alloc bc_drewN bc_drew

def opK (k : Int) : OpV := ⟨k, 0, ⟨#[]⟩, ⟨#[]⟩, ⟨#[]⟩, ⟨#[]⟩, false, 0, false⟩
def pr0 : PrV := ⟨false, none, 0, 0, fun _ => opK 0⟩
theorem inf40 : ∃ i : TypeInfo, Try.prog.info? 40 = some i ∧ i.bytes = 32 ∧ i.zero = some (.agg #[.bool false, .slice none 0 0]) ∧ i.size = 2 := ⟨_, rfl, rfl, rfl, rfl⟩
theorem inf44 : ∃ i : TypeInfo, Try.prog.info? 44 = some i ∧ i.bytes = 104 ∧ i.zero = some (.agg #[.int .i64 0, .int .i64 0, .string ⟨#[]⟩, .string ⟨#[]⟩, .string ⟨#[]⟩, .string ⟨#[]⟩, .bool false, .int .i64 0, .bool false]) ∧ i.size = 9 := ⟨_, rfl, rfl, rfl, rfl⟩
theorem mk6 (W : World) : Sem.run Try.prog (Instr.makeSlice 28 (.int .i64 6) (.int .i64 6)) W = .ok (.slice (some ⟨W.heap.size, 0, none⟩) 6 6) (W.alloc (.cells #[.bool false, .slice none 0 0, .bool false, .slice none 0 0, .bool false, .slice none 0 0, .bool false, .slice none 0 0, .bool false, .slice none 0 0, .bool false, .slice none 0 0] 40)) := by
  obtain ⟨i, hi, hb, hz, hs⟩ := inf40
  have h := run_make (P := Try.prog) W 28 40 i _ Try.underlying28 hi hz .i64 .i64 6 6 (by decide) (by decide) (by rw [hb]; decide) (by decide)
  rw [hs, show madeCells (Value.cells (.agg #[.bool false, .slice none 0 0])) ((6 : Int).toNat * 2) = #[.bool false, .slice none 0 0, .bool false, .slice none 0 0, .bool false, .slice none 0 0, .bool false, .slice none 0 0, .bool false, .slice none 0 0, .bool false, .slice none 0 0] by kernel_rfl] at h
  exact h
theorem mk12 (W : World) : Sem.run Try.prog (Instr.makeSlice 38 (.int .i64 12) (.int .i64 12)) W = .ok (.slice (some ⟨W.heap.size, 0, none⟩) 12 12) (W.alloc (.cells #[.int .i64 0, .int .i64 0, .string ⟨#[]⟩, .string ⟨#[]⟩, .string ⟨#[]⟩, .string ⟨#[]⟩, .bool false, .int .i64 0, .bool false, .int .i64 0, .int .i64 0, .string ⟨#[]⟩, .string ⟨#[]⟩, .string ⟨#[]⟩, .string ⟨#[]⟩, .bool false, .int .i64 0, .bool false, .int .i64 0, .int .i64 0, .string ⟨#[]⟩, .string ⟨#[]⟩, .string ⟨#[]⟩, .string ⟨#[]⟩, .bool false, .int .i64 0, .bool false, .int .i64 0, .int .i64 0, .string ⟨#[]⟩, .string ⟨#[]⟩, .string ⟨#[]⟩, .string ⟨#[]⟩, .bool false, .int .i64 0, .bool false, .int .i64 0, .int .i64 0, .string ⟨#[]⟩, .string ⟨#[]⟩, .string ⟨#[]⟩, .string ⟨#[]⟩, .bool false, .int .i64 0, .bool false, .int .i64 0, .int .i64 0, .string ⟨#[]⟩, .string ⟨#[]⟩, .string ⟨#[]⟩, .string ⟨#[]⟩, .bool false, .int .i64 0, .bool false, .int .i64 0, .int .i64 0, .string ⟨#[]⟩, .string ⟨#[]⟩, .string ⟨#[]⟩, .string ⟨#[]⟩, .bool false, .int .i64 0, .bool false, .int .i64 0, .int .i64 0, .string ⟨#[]⟩, .string ⟨#[]⟩, .string ⟨#[]⟩, .string ⟨#[]⟩, .bool false, .int .i64 0, .bool false, .int .i64 0, .int .i64 0, .string ⟨#[]⟩, .string ⟨#[]⟩, .string ⟨#[]⟩, .string ⟨#[]⟩, .bool false, .int .i64 0, .bool false, .int .i64 0, .int .i64 0, .string ⟨#[]⟩, .string ⟨#[]⟩, .string ⟨#[]⟩, .string ⟨#[]⟩, .bool false, .int .i64 0, .bool false, .int .i64 0, .int .i64 0, .string ⟨#[]⟩, .string ⟨#[]⟩, .string ⟨#[]⟩, .string ⟨#[]⟩, .bool false, .int .i64 0, .bool false, .int .i64 0, .int .i64 0, .string ⟨#[]⟩, .string ⟨#[]⟩, .string ⟨#[]⟩, .string ⟨#[]⟩, .bool false, .int .i64 0, .bool false] 44)) := by
  obtain ⟨i, hi, hb, hz, hs⟩ := inf44
  have h := run_make (P := Try.prog) W 38 44 i _ Try.underlying38 hi hz .i64 .i64 12 12 (by decide) (by decide) (by rw [hb]; decide) (by decide)
  rw [hs, show madeCells (Value.cells (.agg #[.int .i64 0, .int .i64 0, .string ⟨#[]⟩, .string ⟨#[]⟩, .string ⟨#[]⟩, .string ⟨#[]⟩, .bool false, .int .i64 0, .bool false])) ((12 : Int).toNat * 9) = #[.int .i64 0, .int .i64 0, .string ⟨#[]⟩, .string ⟨#[]⟩, .string ⟨#[]⟩, .string ⟨#[]⟩, .bool false, .int .i64 0, .bool false, .int .i64 0, .int .i64 0, .string ⟨#[]⟩, .string ⟨#[]⟩, .string ⟨#[]⟩, .string ⟨#[]⟩, .bool false, .int .i64 0, .bool false, .int .i64 0, .int .i64 0, .string ⟨#[]⟩, .string ⟨#[]⟩, .string ⟨#[]⟩, .string ⟨#[]⟩, .bool false, .int .i64 0, .bool false, .int .i64 0, .int .i64 0, .string ⟨#[]⟩, .string ⟨#[]⟩, .string ⟨#[]⟩, .string ⟨#[]⟩, .bool false, .int .i64 0, .bool false, .int .i64 0, .int .i64 0, .string ⟨#[]⟩, .string ⟨#[]⟩, .string ⟨#[]⟩, .string ⟨#[]⟩, .bool false, .int .i64 0, .bool false, .int .i64 0, .int .i64 0, .string ⟨#[]⟩, .string ⟨#[]⟩, .string ⟨#[]⟩, .string ⟨#[]⟩, .bool false, .int .i64 0, .bool false, .int .i64 0, .int .i64 0, .string ⟨#[]⟩, .string ⟨#[]⟩, .string ⟨#[]⟩, .string ⟨#[]⟩, .bool false, .int .i64 0, .bool false, .int .i64 0, .int .i64 0, .string ⟨#[]⟩, .string ⟨#[]⟩, .string ⟨#[]⟩, .string ⟨#[]⟩, .bool false, .int .i64 0, .bool false, .int .i64 0, .int .i64 0, .string ⟨#[]⟩, .string ⟨#[]⟩, .string ⟨#[]⟩, .string ⟨#[]⟩, .bool false, .int .i64 0, .bool false, .int .i64 0, .int .i64 0, .string ⟨#[]⟩, .string ⟨#[]⟩, .string ⟨#[]⟩, .string ⟨#[]⟩, .bool false, .int .i64 0, .bool false, .int .i64 0, .int .i64 0, .string ⟨#[]⟩, .string ⟨#[]⟩, .string ⟨#[]⟩, .string ⟨#[]⟩, .bool false, .int .i64 0, .bool false, .int .i64 0, .int .i64 0, .string ⟨#[]⟩, .string ⟨#[]⟩, .string ⟨#[]⟩, .string ⟨#[]⟩, .bool false, .int .i64 0, .bool false] by kernel_rfl] at h
  exact h
structure Box5 (w : World) (g : Nat) (t l v k p : Int) : Prop where
  lt : g < w.heap.size
  c0 : w.cell? ⟨g, 0, none⟩ = some (.int .i64 t)
  c1 : w.cell? ⟨g, 1, none⟩ = some (.int .i64 l)
  c2 : w.cell? ⟨g, 2, none⟩ = some (.int .i64 v)
  c3 : w.cell? ⟨g, 3, none⟩ = some (.int .i64 k)
  c4 : w.cell? ⟨g, 4, none⟩ = some (.int .i64 p)
theorem Box5.below {w w' : World} {g : Nat} {t l v k p : Int} (h : Box5 w g t l v k p) (hb : BelowC w w') : Box5 w' g t l v k p :=
  ⟨bc_lt hb h.lt, bc_cell h.c0 h.lt w' hb, bc_cell h.c1 h.lt w' hb, bc_cell h.c2 h.lt w' hb, bc_cell h.c3 h.lt w' hb, bc_cell h.c4 h.lt w' hb⟩
theorem cell_ne {w : World} {g i j : Nat} {v u : Value} (h : w.cell? ⟨g, j, none⟩ = some u) (hij : i ≠ j) : (w.setCell ⟨g, i, none⟩ v).cell? ⟨g, j, none⟩ = some u :=
  (World.cell?_setCell_other _ _ _ _ (fun e => hij (by cases e; rfl))).trans h
theorem cell_same {w : World} {g i : Nat} {v u : Value} (h : w.cell? ⟨g, i, none⟩ = some u) : (w.setCell ⟨g, i, none⟩ v).cell? ⟨g, i, none⟩ = some v := World.cell?_setCell_same _ _ _ h
theorem opAt_ne {w : World} {b i j : Nat} {x : OpV} {v : Value} (h : OpAt w b (j * 9) x) (hij : i ≠ j) : OpAt (w.setCell ⟨b, i * 9, none⟩ v) b (j * 9) x :=
  ⟨cell_ne h.c0 (by omega), cell_ne h.c1 (by omega), cell_ne h.c2 (by omega), cell_ne h.c3 (by omega), cell_ne h.c4 (by omega), cell_ne h.c5 (by omega), cell_ne h.c6 (by omega), cell_ne h.c7 (by omega), cell_ne h.c8 (by omega)⟩
theorem opAt_eq {w : World} {b i : Nat} {k k' : Int} (h : OpAt w b (i * 9) (opK k)) : OpAt (w.setCell ⟨b, i * 9, none⟩ (.int .i64 k')) b (i * 9) (opK k') :=
  ⟨cell_same h.c0, cell_ne h.c1 (by omega), cell_ne h.c2 (by omega), cell_ne h.c3 (by omega), cell_ne h.c4 (by omega), cell_ne h.c5 (by omega), cell_ne h.c6 (by omega), cell_ne h.c7 (by omega), cell_ne h.c8 (by omega)⟩
theorem many_progs (W : World) : Progs (W.alloc (.cells #[.bool false, .slice none 0 0, .bool false, .slice none 0 0, .bool false, .slice none 0 0, .bool false, .slice none 0 0, .bool false, .slice none 0 0, .bool false, .slice none 0 0] 40)) (some ⟨W.heap.size, 0, none⟩) 6 (fun _ => pr0) := by
  refine ⟨by decide, fun _ => ⟨_, 0, rfl, by simp, fun i hi => ?_⟩⟩
  rcases (show i = 0 ∨ i = 1 ∨ i = 2 ∨ i = 3 ∨ i = 4 ∨ i = 5 by omega) with e | e | e | e | e | e
  all_goals
    subst e
    exact ⟨by simp [pr0], by simp [pr0], ⟨by simp [pr0], fun h => absurd h (by simp [pr0])⟩⟩
theorem long_ops (W : World) (j : Nat) (hj : j < 12) : OpAt (W.alloc (.cells #[.int .i64 0, .int .i64 0, .string ⟨#[]⟩, .string ⟨#[]⟩, .string ⟨#[]⟩, .string ⟨#[]⟩, .bool false, .int .i64 0, .bool false, .int .i64 0, .int .i64 0, .string ⟨#[]⟩, .string ⟨#[]⟩, .string ⟨#[]⟩, .string ⟨#[]⟩, .bool false, .int .i64 0, .bool false, .int .i64 0, .int .i64 0, .string ⟨#[]⟩, .string ⟨#[]⟩, .string ⟨#[]⟩, .string ⟨#[]⟩, .bool false, .int .i64 0, .bool false, .int .i64 0, .int .i64 0, .string ⟨#[]⟩, .string ⟨#[]⟩, .string ⟨#[]⟩, .string ⟨#[]⟩, .bool false, .int .i64 0, .bool false, .int .i64 0, .int .i64 0, .string ⟨#[]⟩, .string ⟨#[]⟩, .string ⟨#[]⟩, .string ⟨#[]⟩, .bool false, .int .i64 0, .bool false, .int .i64 0, .int .i64 0, .string ⟨#[]⟩, .string ⟨#[]⟩, .string ⟨#[]⟩, .string ⟨#[]⟩, .bool false, .int .i64 0, .bool false, .int .i64 0, .int .i64 0, .string ⟨#[]⟩, .string ⟨#[]⟩, .string ⟨#[]⟩, .string ⟨#[]⟩, .bool false, .int .i64 0, .bool false, .int .i64 0, .int .i64 0, .string ⟨#[]⟩, .string ⟨#[]⟩, .string ⟨#[]⟩, .string ⟨#[]⟩, .bool false, .int .i64 0, .bool false, .int .i64 0, .int .i64 0, .string ⟨#[]⟩, .string ⟨#[]⟩, .string ⟨#[]⟩, .string ⟨#[]⟩, .bool false, .int .i64 0, .bool false, .int .i64 0, .int .i64 0, .string ⟨#[]⟩, .string ⟨#[]⟩, .string ⟨#[]⟩, .string ⟨#[]⟩, .bool false, .int .i64 0, .bool false, .int .i64 0, .int .i64 0, .string ⟨#[]⟩, .string ⟨#[]⟩, .string ⟨#[]⟩, .string ⟨#[]⟩, .bool false, .int .i64 0, .bool false, .int .i64 0, .int .i64 0, .string ⟨#[]⟩, .string ⟨#[]⟩, .string ⟨#[]⟩, .string ⟨#[]⟩, .bool false, .int .i64 0, .bool false] 44)) W.heap.size (j * 9) (opK 0) := by
  rcases (show j = 0 ∨ j = 1 ∨ j = 2 ∨ j = 3 ∨ j = 4 ∨ j = 5 ∨ j = 6 ∨ j = 7 ∨ j = 8 ∨ j = 9 ∨ j = 10 ∨ j = 11 by omega) with e | e | e | e | e | e | e | e | e | e | e | e
  all_goals
    subst e
    exact ⟨by simp [opK], by simp [opK], by simp [opK], by simp [opK], by simp [opK], by simp [opK], by simp [opK], by simp [opK], by simp [opK]⟩
set_option maxHeartbeats 2000000 in
theorem ProgramsMany (t l v g p : Int) (A : Option Addr) (n c : Nat) (w : World) (hcfg : cfgB t l v g p = true) (h6 : 6 < n) (hn : n ≤ 9223372036854775807) :
    Calls Try.prog 7 #[.agg #[.int .i64 t, .int .i64 l, .int .i64 v, .int .i64 g, .int .i64 p], .slice A n c] w (Ret (.int .i64 2) w) := by
  have h0 : BelowC w w := bc_refl w
  have hA : BelowC w (w.alloc (.cells #[.int .i64 t, .int .i64 l, .int .i64 v, .int .i64 g, .int .i64 p] 34)) := bc_alloc h0 _
  have c0 := bc_cell (b := w.alloc (.cells #[.int .i64 t, .int .i64 l, .int .i64 v, .int .i64 g, .int .i64 p] 34)) (k := w.heap.size) (o := 0) (v := .int .i64 t) (by go_simp) (by simp)
  have c1 := bc_cell (b := w.alloc (.cells #[.int .i64 t, .int .i64 l, .int .i64 v, .int .i64 g, .int .i64 p] 34)) (k := w.heap.size) (o := 1) (v := .int .i64 l) (by go_simp) (by simp)
  have c2 := bc_cell (b := w.alloc (.cells #[.int .i64 t, .int .i64 l, .int .i64 v, .int .i64 g, .int .i64 p] 34)) (k := w.heap.size) (o := 2) (v := .int .i64 v) (by go_simp) (by simp)
  have c3 := bc_cell (b := w.alloc (.cells #[.int .i64 t, .int .i64 l, .int .i64 v, .int .i64 g, .int .i64 p] 34)) (k := w.heap.size) (o := 3) (v := .int .i64 g) (by go_simp) (by simp)
  have c4 := bc_cell (b := w.alloc (.cells #[.int .i64 t, .int .i64 l, .int .i64 v, .int .i64 g, .int .i64 p] 34)) (k := w.heap.size) (o := 4) (v := .int .i64 p) (by go_simp) (by simp)
  have hAA := bc_refl (w.alloc (.cells #[.int .i64 t, .int .i64 l, .int .i64 v, .int .i64 g, .int .i64 p] 34))
  have h6' : ¬ (n : Int) ≤ 6 := by omega
  go_enter Try.func7, Try.ntmps7
  go_wp2_with (go_at_call 6; (with_reducible refine (CConfig _ _ _ _ _ _).mono ?_); rintro e v1 ⟨rfl, hb⟩; have HX : BelowC (w.alloc (.cells #[.int .i64 t, .int .i64 l, .int .i64 v, .int .i64 g, .int .i64 p] 34)) v1 := bc_step (by repeat (with_reducible first | assumption | exact bc_refl _ | apply bc_alloc | apply bc_drewN | apply bc_drew)) hb; have HX0 : BelowC w v1 := bc_trans hA HX; clear hb)
  go_returns
  exact ⟨rfl, by assumption⟩
set_option maxHeartbeats 2000000 in
theorem AProgramMany (only : Bool) (A : Option Addr) (n c : Nat) (tables : Int) (w : World) (h12 : 12 < n) (hn : n ≤ 9223372036854775807) :
    Calls Try.prog 15 #[.agg #[.bool only, .slice A n c], .int .i64 tables] w (Ret (.bool false) w) := by
  have h0 : BelowC w w := bc_refl w
  have h12' : ¬ (n : Int) ≤ 12 := by omega
  go_enter Try.func15, Try.ntmps15
  go_wp2_with fail
  all_goals
    go_returns
    exact ⟨rfl, bc_alloc2 h0 _ _⟩
set_option maxHeartbeats 2000000 in
theorem CProgramMany (only : Bool) (A : Option Addr) (n c : Nat) (w : World) (h12 : 12 < n) (hn : n ≤ 9223372036854775807) :
    Calls Try.prog 8 #[.agg #[.bool only, .slice A n c], .int .i64 1] w (Ret (.int .i64 1) w) := by
  have h0 : BelowC w w := bc_refl w
  have hw : withinB 1 3 = true := by decide
  have hA : BelowC w (w.alloc (.cells #[.bool only, .slice A n c] 40)) := bc_alloc h0 _
  have c0 := bc_cell (b := w.alloc (.cells #[.bool only, .slice A n c] 40)) (k := w.heap.size) (o := 0) (v := .bool only) (by go_simp) (by simp)
  have c1 := bc_cell (b := w.alloc (.cells #[.bool only, .slice A n c] 40)) (k := w.heap.size) (o := 1) (v := .slice A n c) (by go_simp) (by simp)
  have hAA := bc_refl (w.alloc (.cells #[.bool only, .slice A n c] 40))
  go_enter Try.func8, Try.ntmps8
  go_wp2_with (first | (go_at_call 14; (with_reducible refine (within _ _ _).mono ?_); rintro e v1 ⟨rfl, hb⟩; have HX : BelowC (w.alloc (.cells #[.bool only, .slice A n c] 40)) v1 := bc_step (by repeat (with_reducible first | assumption | exact bc_refl _ | apply bc_alloc | apply bc_drewN | apply bc_drew)) hb; have HX0 : BelowC w v1 := bc_trans hA HX; clear hb) | (go_at_call 15; (with_reducible refine (AProgramMany _ _ _ _ _ _ h12 hn).mono ?_); rintro e v1 ⟨rfl, hb⟩; have HX : BelowC (w.alloc (.cells #[.bool only, .slice A n c] 40)) v1 := bc_step (by repeat (with_reducible first | assumption | exact bc_refl _ | apply bc_alloc | apply bc_drewN | apply bc_drew)) hb; have HX0 : BelowC w v1 := bc_trans hA HX; clear hb))
  all_goals
    go_returns
    exact ⟨rfl, by first | assumption | exact bc_alloc h0 _⟩
end Go.Proofs.Ytldjgcgcbcmkfaa.K
