/- Contracts of package key's functions: what each comes to. -/
import Derived.Test.YtjlaphnpajeoeaaProg
import Derived.Below
import Derived.WalkKit
import Derived.KernelRfl
import Derived.RowKit
import Derived.RowKit3
import Derived.Tactics
import Derived.Deep.QuietTactic
import Derived.BigQuiet
import Derived.OwnWalk
import Derived.Outline
import Derived.Handy
import Derived.Lib.Strings
import Derived.Test.YtjlaphnpajeoeaaK1
namespace Go.Proofs.Ytjlaphnpajeoeaa.K
open Go.RowKit Go.Proofs.YtjlaphnpajeoeaaS
set_option linter.unusedSimpArgs false
set_option linter.unusedVariables false
attribute [local go_sem] s_leq s_gtr s_geq s_maxr s_minr

theorem isA : isB ⟨#[97]⟩ = true := by decide +kernel
theorem f33_2 (x y : Value) (w : World) : (Instr.field 33 (.agg #[x, y, .bool true]) 2).run Try.prog w = .ok (.bool true) w := by kernel_rfl
theorem wakes (w : World) : Calls Try.prog 27 #[] w (Ret (.bool true) w) := by
  have HB := hid (Below.refl w.heap.size w)
  have hfl := f33_2 (.string ⟨#[]⟩) (.string ⟨#[]⟩)
  go_enter Try.func27, Try.ntmps27
  go_wp2_with (fail)
  refine (One_yes _ isA _).mono ?_
  rintro e w1 ⟨rfl, hb⟩
  have HB1 : Hid (Below w.heap.size w w1) := hid (below_step HB.out hb)
  clear hb HB
  go_wp2_with fail
  refine (Has_a _).mono ?_
  rintro e w2 ⟨rfl, hb⟩
  have HB2 : Hid (Below w.heap.size w w2) := hid (below_step (by repeat (first | exact HB1.out | apply below_alloc | refine below_set ?_ (by omega))) hb)
  clear hb HB1
  go_wp2_with (first | (go_at_call 15; refine (num _ _).mono ?_; rintro e w1 ⟨rfl, hb⟩; have n_ : Hid (Below w.heap.size w w1) := hid (below_step HB2.out hb); clear HB2; have HB2 := n_; clear n_ hb) | (go_at_call 25; refine (All _).mono ?_; rintro e w1 ⟨rfl, hb⟩; have n_ : Hid (Below w.heap.size w w1) := hid (below_step HB2.out hb); clear HB2; have HB2 := n_; clear n_ hb))
  go_returns
  exact ⟨rfl, HB2.out⟩
end Go.Proofs.Ytjlaphnpajeoeaa.K
