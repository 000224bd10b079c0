/- Contracts of packages key and plan: what each comes to. -/
import Derived.Test.YtldjgcgcbcmkfaaProg
import Derived.Below
import Derived.WalkKit
import Derived.KernelRfl
import Derived.RowKit
import Derived.RowKit3
import Derived.Tactics
import Derived.Deep.QuietTactic
import Derived.BigQuiet
import Derived.OwnWalk
import Derived.Outline
import Derived.Handy
import Derived.StillTailTactics
import Derived.Deep.RegionHeld3
import Derived.Deep.DeepCutAuto
import Derived.Deep.CutBlock
import Derived.Lib.Strings
import Derived.Test.YtldjgcgcbcmkfaaB2
namespace Go.Proofs.Ytldjgcgcbcmkfaa.K
open Go.RowKit Go.Proofs.YtldjgcgcbcmkfaaS
set_option linter.unusedSimpArgs false
set_option linter.unusedVariables false
attribute [local go_sem] s_leq s_gtr s_geq s_maxr s_minr

attribute [local go_sem] bc_alloc2 bc_alloc3 s_alloc_drewN s_setCell_drewN bc_alloc bc_drewN bc_drew

/-- OK, or ErrForm. -/
def errI (b : Bool) : Int := bif b then 0 else 1
def withinB (n most : Int) : Bool := decide (1 ≤ n) && decide (n ≤ most)
def ckB (o : OpV) (tables : Int) : Bool := withinB tables 3 && opB o.kind o.table o.key o.value o.lo o.hi o.top o.n o.back tables
theorem fn_enters (n : Nat) {F : Func} (h : Try.prog.funcs[n]? = some F) (hb : F.body.isSome = true) (args : Array Value) (w : World) : True := trivial
set_option maxHeartbeats 1000000 in
theorem within (n most : Int) (w : World) :
    Calls Try.prog 14 #[.int .i64 n, .int .i64 most] w (Ret (.bool (withinB n most)) w) := by
  have HB := hid (Below.refl w.heap.size w)
  go_enter Try.func14, Try.ntmps14
  go_wp2
  all_goals
    go_returns
    refine ⟨?_, ?_⟩
    · simp [withinB, *]
      try omega
    · repeat (first | exact HB.out | exact Below.refl _ _ | apply below_alloc | apply below_drewN | apply below_drew | refine below_set ?_ (by omega))

set_option maxHeartbeats 1000000 in
theorem Check (kind table : Int) (key value lo hi : ByteArray) (top : Bool) (n : Int) (back : Bool) (tables : Int) (w : World) :
    Calls Try.prog 21 #[opv kind table key value lo hi top n back, .int .i64 tables] w (Ret (.int .i64 (errI (withinB tables 3 && opB kind table key value lo hi top n back tables))) w) := by
  have h0 : BelowC w w := bc_refl w
  cases ho : opB kind table key value lo hi top n back tables
  all_goals
   go_enter Try.func21, Try.ntmps21
   go_wp2_with (go_at_call 27; (with_reducible refine (IsOp _ _ _ _ _ _ _ _ _ _ _).mono ?_); rintro e v1 ⟨rfl, hb⟩; have HX : BelowC w v1 := bc_step (by repeat (with_reducible first | assumption | exact bc_refl _ | apply bc_alloc | apply bc_drewN | apply bc_drew)) hb; clear hb)
   all_goals
    go_returns
    refine ⟨?_, ?_⟩
    · by_cases g1 : 1 ≤ tables <;> by_cases g2 : tables ≤ 3
      all_goals
        simp [errI, withinB, g1, g2]
        try simp_all
        try omega
    · first | assumption | exact below_alloc h0 _
set_option maxHeartbeats 1000000 in
theorem Lit20 (o : OpV) (B : Nat) (tables : Int) (w : World) (hB : B < w.heap.size) (hc : w.cell? ⟨B, 0, none⟩ = some (.int .i64 tables)) :
    Calls Try.prog 20 #[o.val, .pointer (some ⟨B, 0, none⟩)] w (Ret (.bool (!ckB o tables)) w) := by
  have h0 : BelowC w w := bc_refl w
  have r0 := bc_cell hc hB
  have r1 := hc
  cases h : withinB tables 3 && opB o.kind o.table o.key o.value o.lo o.hi o.top o.n o.back tables
  all_goals
    go_enter Try.func20, Try.ntmps20
    go_wp2_with (go_at_call 21; (with_reducible refine (Check _ _ _ _ _ _ _ _ _ _ _).mono ?_); rintro e v1 ⟨rfl, hb⟩; have HX : BelowC w v1 := bc_step (by repeat (with_reducible first | assumption | exact bc_refl _ | apply bc_alloc | apply bc_drewN | apply bc_drew)) hb; clear hb)
    all_goals
      go_returns
      refine ⟨?_, ?_⟩
      · simp [ckB, errI, h]
      · assumption
end Go.Proofs.Ytldjgcgcbcmkfaa.K
