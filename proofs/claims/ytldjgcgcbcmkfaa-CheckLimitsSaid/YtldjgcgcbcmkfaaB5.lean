/- Contracts of packages key and plan: what each comes to. -/
import Derived.Test.YtldjgcgcbcmkfaaProg
import Derived.Below
import Derived.WalkKit
import Derived.KernelRfl
import Derived.RowKit
import Derived.RowKit3
import Derived.Tactics
import Derived.Deep.QuietTactic
import Derived.BigQuiet
import Derived.OwnWalk
import Derived.Outline
import Derived.Handy
import Derived.StillTailTactics
import Derived.Deep.RegionHeld3
import Derived.Deep.DeepCutAuto
import Derived.Deep.CutBlock
import Derived.Shelf.Abstract
import Derived.Lib.Strings
import Derived.Test.YtldjgcgcbcmkfaaB4
namespace Go.Proofs.Ytldjgcgcbcmkfaa.K
open Go.RowKit Go.Proofs.YtldjgcgcbcmkfaaS
set_option linter.unusedSimpArgs false
set_option linter.unusedVariables false
attribute [local go_sem] s_leq s_gtr s_geq s_maxr s_minr

attribute [local go_sem] bc_alloc2 bc_alloc3 s_alloc_drewN s_setCell_drewN bc_alloc bc_drewN bc_drew

/-- A program. -/
structure PrV where (only : Bool) (A : Option Addr) (n c : Nat) (f : Nat → OpV)
abbrev PrV.val (g : PrV) : Value := .agg #[.bool g.only, .slice g.A g.n g.c]
def progB (n : Nat) (f : Nat → OpV) (tables : Int) : Bool := decide ((n : Int) ≤ 12) && !(anyB (fun i => !ckB (f i) tables) n)
set_option maxHeartbeats 2000000 in
theorem AProgram (only : Bool) (A : Option Addr) (n c : Nat) (f : Nat → OpV) (tables : Int) (w : World) (h : Ops w A n f) :
    Calls Try.prog 15 #[.agg #[.bool only, .slice A n c], .int .i64 tables] w (Ret (.bool (progB n f tables)) w) := by
  have hn := h.1
  have H := hid h
  clear h
  have h0 : BelowC w w := bc_refl w
  by_cases h12 : (n : Int) ≤ 12
  · cases hq : anyB (fun i => !ckB (f i) tables) n
    all_goals
      go_enter Try.func15, Try.ntmps15
      go_wp2_with (go_at_call 19; refine (ContainsFunc (fun x => !ckB x tables) 20 #[.pointer (some ⟨w.heap.size + 1, 0, none⟩)] (enters_of Try.func20 (by kernel_rfl) rfl) A n c f _ (H.out.below (by repeat (with_reducible first | assumption | exact bc_refl _ | apply bc_alloc | apply bc_drewN | apply bc_drew))) (fun x W hW => Lit20 x _ tables W (bc_lt hW (by simp)) (bc_cell (by go_simp) (by simp) W hW))).mono ?_; rintro e v1 ⟨rfl, hb⟩; have HX : BelowC w v1 := bc_step (by repeat (with_reducible first | assumption | exact bc_refl _ | apply bc_alloc | apply bc_drewN | apply bc_drew)) hb; clear hb)
      all_goals
        go_returns
        exact ⟨by simp [progB, *], by assumption⟩
  · go_enter Try.func15, Try.ntmps15
    go_wp2_with fail
    all_goals
      go_returns
      exact ⟨by simp [progB]; intro; omega, bc_alloc2 h0 _ _⟩
set_option maxHeartbeats 2000000 in
theorem CProgram (only : Bool) (A : Option Addr) (n c : Nat) (f : Nat → OpV) (tables : Int) (w : World) (h : Ops w A n f) :
    Calls Try.prog 8 #[.agg #[.bool only, .slice A n c], .int .i64 tables] w (Ret (.int .i64 (errI (withinB tables 3 && progB n f tables))) w) := by
  have hn := h.1
  have H := hid h
  clear h
  have h0 : BelowC w w := bc_refl w
  have hA : BelowC w (w.alloc (.cells #[.bool only, .slice A n c] 40)) := bc_alloc h0 _
  have c0 := bc_cell (b := w.alloc (.cells #[.bool only, .slice A n c] 40)) (k := w.heap.size) (o := 0) (v := .bool only) (by go_simp) (by simp)
  have c1 := bc_cell (b := w.alloc (.cells #[.bool only, .slice A n c] 40)) (k := w.heap.size) (o := 1) (v := .slice A n c) (by go_simp) (by simp)
  have hAA := bc_refl (w.alloc (.cells #[.bool only, .slice A n c] 40))
  cases hw : withinB tables 3
  all_goals
    cases hq : progB n f tables
    all_goals
      go_enter Try.func8, Try.ntmps8
      go_wp2_with (first | (go_at_call 14; (with_reducible refine (within _ _ _).mono ?_); rintro e v1 ⟨rfl, hb⟩; have HX : BelowC (w.alloc (.cells #[.bool only, .slice A n c] 40)) v1 := bc_step (by repeat (with_reducible first | assumption | exact bc_refl _ | apply bc_alloc | apply bc_drewN | apply bc_drew)) hb; have HX0 : BelowC w v1 := bc_trans hA HX; clear hb) | (go_at_call 15; (with_reducible refine (AProgram _ _ _ _ f _ _ (H.out.below (by first | assumption | exact bc_alloc h0 _))).mono ?_); rintro e v1 ⟨rfl, hb⟩; have HX : BelowC (w.alloc (.cells #[.bool only, .slice A n c] 40)) v1 := bc_step (by repeat (with_reducible first | assumption | exact bc_refl _ | apply bc_alloc | apply bc_drewN | apply bc_drew)) hb; have HX0 : BelowC w v1 := bc_trans hA HX; clear hb))
      all_goals
        go_returns
        exact ⟨by simp [errI, *], by first | assumption | repeat (with_reducible first | assumption | exact bc_refl _ | apply bc_alloc | apply bc_drewN | apply bc_drew)⟩
def cfgB (t l v g p : Int) : Bool := withinB t 3 && (withinB l 200 && (withinB v 64 && (withinB g 4 && withinB p 2)))
set_option maxHeartbeats 2000000 in
theorem CConfig (t l v g p : Int) (w : World) :
    Calls Try.prog 6 #[.agg #[.int .i64 t, .int .i64 l, .int .i64 v, .int .i64 g, .int .i64 p]] w (Ret (.int .i64 (bif cfgB t l v g p then 0 else 11)) w) := by
  have h0 : BelowC w w := bc_refl w
  have hA : BelowC w (w.alloc (.cells #[.int .i64 t, .int .i64 l, .int .i64 v, .int .i64 g, .int .i64 p] 34)) := bc_alloc h0 _
  have c0 := bc_cell (b := w.alloc (.cells #[.int .i64 t, .int .i64 l, .int .i64 v, .int .i64 g, .int .i64 p] 34)) (k := w.heap.size) (o := 0) (v := .int .i64 t) (by go_simp) (by simp)
  have c1 := bc_cell (b := w.alloc (.cells #[.int .i64 t, .int .i64 l, .int .i64 v, .int .i64 g, .int .i64 p] 34)) (k := w.heap.size) (o := 1) (v := .int .i64 l) (by go_simp) (by simp)
  have c2 := bc_cell (b := w.alloc (.cells #[.int .i64 t, .int .i64 l, .int .i64 v, .int .i64 g, .int .i64 p] 34)) (k := w.heap.size) (o := 2) (v := .int .i64 v) (by go_simp) (by simp)
  have c3 := bc_cell (b := w.alloc (.cells #[.int .i64 t, .int .i64 l, .int .i64 v, .int .i64 g, .int .i64 p] 34)) (k := w.heap.size) (o := 3) (v := .int .i64 g) (by go_simp) (by simp)
  have c4 := bc_cell (b := w.alloc (.cells #[.int .i64 t, .int .i64 l, .int .i64 v, .int .i64 g, .int .i64 p] 34)) (k := w.heap.size) (o := 4) (v := .int .i64 p) (by go_simp) (by simp)
  have hAA := bc_refl (w.alloc (.cells #[.int .i64 t, .int .i64 l, .int .i64 v, .int .i64 g, .int .i64 p] 34))
  cases h1 : withinB t 3
  · go_enter Try.func6, Try.ntmps6
    go_wp2_with (go_at_call 14; (with_reducible refine (within _ _ _).mono ?_); rintro e v1 ⟨rfl, hb⟩; have HX : BelowC (w.alloc (.cells #[.int .i64 t, .int .i64 l, .int .i64 v, .int .i64 g, .int .i64 p] 34)) v1 := bc_step (by repeat (with_reducible first | assumption | exact bc_refl _ | apply bc_alloc | apply bc_drewN | apply bc_drew)) hb; have HX0 : BelowC w v1 := bc_trans hA HX; clear hb)
    all_goals
      go_returns
      exact ⟨by simp [cfgB, *], by first | assumption | repeat (with_reducible first | assumption | exact bc_refl _ | apply bc_alloc | apply bc_drewN | apply bc_drew)⟩
  cases h2 : withinB l 200
  · go_enter Try.func6, Try.ntmps6
    go_wp2_with (go_at_call 14; (with_reducible refine (within _ _ _).mono ?_); rintro e v1 ⟨rfl, hb⟩; have HX : BelowC (w.alloc (.cells #[.int .i64 t, .int .i64 l, .int .i64 v, .int .i64 g, .int .i64 p] 34)) v1 := bc_step (by repeat (with_reducible first | assumption | exact bc_refl _ | apply bc_alloc | apply bc_drewN | apply bc_drew)) hb; have HX0 : BelowC w v1 := bc_trans hA HX; clear hb)
    all_goals
      go_returns
      exact ⟨by simp [cfgB, *], by first | assumption | repeat (with_reducible first | assumption | exact bc_refl _ | apply bc_alloc | apply bc_drewN | apply bc_drew)⟩
  cases h3 : withinB v 64
  · go_enter Try.func6, Try.ntmps6
    go_wp2_with (go_at_call 14; (with_reducible refine (within _ _ _).mono ?_); rintro e v1 ⟨rfl, hb⟩; have HX : BelowC (w.alloc (.cells #[.int .i64 t, .int .i64 l, .int .i64 v, .int .i64 g, .int .i64 p] 34)) v1 := bc_step (by repeat (with_reducible first | assumption | exact bc_refl _ | apply bc_alloc | apply bc_drewN | apply bc_drew)) hb; have HX0 : BelowC w v1 := bc_trans hA HX; clear hb)
    all_goals
      go_returns
      exact ⟨by simp [cfgB, *], by first | assumption | repeat (with_reducible first | assumption | exact bc_refl _ | apply bc_alloc | apply bc_drewN | apply bc_drew)⟩
  cases h4 : withinB g 4
  · go_enter Try.func6, Try.ntmps6
    go_wp2_with (go_at_call 14; (with_reducible refine (within _ _ _).mono ?_); rintro e v1 ⟨rfl, hb⟩; have HX : BelowC (w.alloc (.cells #[.int .i64 t, .int .i64 l, .int .i64 v, .int .i64 g, .int .i64 p] 34)) v1 := bc_step (by repeat (with_reducible first | assumption | exact bc_refl _ | apply bc_alloc | apply bc_drewN | apply bc_drew)) hb; have HX0 : BelowC w v1 := bc_trans hA HX; clear hb)
    all_goals
      go_returns
      exact ⟨by simp [cfgB, *], by first | assumption | repeat (with_reducible first | assumption | exact bc_refl _ | apply bc_alloc | apply bc_drewN | apply bc_drew)⟩
  cases h5 : withinB p 2
  · go_enter Try.func6, Try.ntmps6
    go_wp2_with (go_at_call 14; (with_reducible refine (within _ _ _).mono ?_); rintro e v1 ⟨rfl, hb⟩; have HX : BelowC (w.alloc (.cells #[.int .i64 t, .int .i64 l, .int .i64 v, .int .i64 g, .int .i64 p] 34)) v1 := bc_step (by repeat (with_reducible first | assumption | exact bc_refl _ | apply bc_alloc | apply bc_drewN | apply bc_drew)) hb; have HX0 : BelowC w v1 := bc_trans hA HX; clear hb)
    all_goals
      go_returns
      exact ⟨by simp [cfgB, *], by first | assumption | repeat (with_reducible first | assumption | exact bc_refl _ | apply bc_alloc | apply bc_drewN | apply bc_drew)⟩
  · go_enter Try.func6, Try.ntmps6
    go_wp2_with (go_at_call 14; (with_reducible refine (within _ _ _).mono ?_); rintro e v1 ⟨rfl, hb⟩; have HX : BelowC (w.alloc (.cells #[.int .i64 t, .int .i64 l, .int .i64 v, .int .i64 g, .int .i64 p] 34)) v1 := bc_step (by repeat (with_reducible first | assumption | exact bc_refl _ | apply bc_alloc | apply bc_drewN | apply bc_drew)) hb; have HX0 : BelowC w v1 := bc_trans hA HX; clear hb)
    all_goals
      go_returns
      exact ⟨by simp [cfgB, *], by first | assumption | repeat (with_reducible first | assumption | exact bc_refl _ | apply bc_alloc | apply bc_drewN | apply bc_drew)⟩
end Go.Proofs.Ytldjgcgcbcmkfaa.K
