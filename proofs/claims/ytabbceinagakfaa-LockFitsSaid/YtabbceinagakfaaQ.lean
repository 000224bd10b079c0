/- Worlds that only grow. -/
import Derived.Test.YtabbceinagakfaaProg
import Derived.Below
import Derived.WalkKit
import Derived.KernelRfl
import Derived.RowKit
import Derived.RowKit3
import Derived.Tactics
import Derived.Deep.QuietTactic
import Derived.BigQuiet
import Derived.OwnWalk
import Derived.Outline
import Derived.Handy
import Derived.StillTailTactics
import Derived.Deep.RegionHeld3
import Derived.Deep.DeepCutAuto
import Derived.Deep.CutBlock
import Derived.Lib.Strings
import Derived.Test.YtabbceinagakfaaK1
namespace Go.Proofs.Ytabbceinagakfaa.K
open Go.RowKit Go.Proofs.YtabbceinagakfaaS
set_option linter.unusedSimpArgs false
set_option linter.unusedVariables false
attribute [local go_sem] s_leq s_gtr s_geq s_maxr s_minr

/-- The second world is the first one, with more memory: what was there is as it was. -/
def BelowC (b w : World) : Prop := Below b.heap.size b w
theorem bc_refl (b : World) : BelowC b b := Below.refl _ _
theorem bc_step {b W w1 : World} (h : BelowC b W) (hb : Below W.heap.size W w1) : BelowC b w1 := below_step h hb
theorem bc_alloc {b W : World} (h : BelowC b W) (o : Obj) : BelowC b (W.alloc o) := below_alloc h o
theorem bc_drewN {b W : World} (h : BelowC b W) (n : Nat) : BelowC b (W.drewN n) := below_drewN h n
theorem bc_drew {b W : World} (h : BelowC b W) : BelowC b W.drew := below_drew h
theorem bc_trans {a b c : World} (h : BelowC a b) (k : BelowC b c) : BelowC a c := below_step h k
theorem bc_size {b W : World} (h : BelowC b W) : b.heap.size ≤ W.heap.size := Below.size h
theorem bc_lt {b W : World} (h : BelowC b W) {k : Nat} (hk : k < b.heap.size) : k < W.heap.size := Nat.lt_of_lt_of_le hk (bc_size h)
theorem bc_cell {b : World} {k o : Nat} {v : Value} (h : b.cell? ⟨k, o, none⟩ = some v) (hk : k < b.heap.size) : ∀ w', BelowC b w' → w'.cell? ⟨k, o, none⟩ = some v := fun w' hw => (Below.cell hw (p := ⟨k, o, none⟩) hk).trans h
theorem s_alloc_drewN (w : World) (n : Nat) (o : Obj) : (w.drewN n).alloc o = (w.alloc o).drewN n := rfl
theorem s_setCell_drewN (w : World) (n : Nat) (p : Addr) (v : Value) : (w.drewN n).setCell p v = (w.setCell p v).drewN n := rfl
theorem bc_alloc2 {b W : World} (h : BelowC b W) (o o' : Obj) : BelowC b ((W.alloc o).alloc o') := bc_alloc (bc_alloc h o) o'
theorem bc_alloc3 {b W : World} (h : BelowC b W) (o o' o'' : Obj) : BelowC b (((W.alloc o).alloc o').alloc o'') := bc_alloc (bc_alloc2 h o o') o''
theorem bc_set {b W : World} {g j : Nat} {v : Value} (h : BelowC b W) (hg : b.heap.size ≤ g) : BelowC b (W.setCell ⟨g, j, none⟩ v) := below_set h hg
theorem bc_frozen {b : World} {k : Nat} (h : ∀ o, b.frozen? ⟨k, o, none⟩ = false) (hk : k < b.heap.size) : ∀ w', BelowC b w' → ∀ o, w'.frozen? ⟨k, o, none⟩ = false := fun w' hw o => (Below.frozen hw (p := ⟨k, o, none⟩) hk).trans (h o)
end Go.Proofs.Ytabbceinagakfaa.K
