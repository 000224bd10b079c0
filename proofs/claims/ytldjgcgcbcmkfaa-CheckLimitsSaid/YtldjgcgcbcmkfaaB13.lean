/- Contracts of packages key and plan: what each comes to. -/
import Derived.Test.YtldjgcgcbcmkfaaProg
import Derived.Below
import Derived.WalkKit
import Derived.KernelRfl
import Derived.RowKit
import Derived.RowKit3
import Derived.Tactics
import Derived.Deep.QuietTactic
import Derived.BigQuiet
import Derived.OwnWalk
import Derived.Outline
import Derived.Handy
import Derived.StillTailTactics
import Derived.Deep.RegionHeld3
import Derived.Deep.DeepCutAuto
import Derived.Deep.CutBlock
import Derived.Shelf.Abstract
import Derived.Lib.SmallJoins
import Derived.SliceStrings
import Derived.Deep.Slices
import Derived.ChangeSame
import Derived.Lib.Strings
import Derived.Test.YtldjgcgcbcmkfaaB12
namespace Go.Proofs.Ytldjgcgcbcmkfaa.K
open Go.RowKit Go.Proofs.YtldjgcgcbcmkfaaS
set_option linter.unusedSimpArgs false
set_option linter.unusedVariables false
attribute [local go_sem] s_leq s_gtr s_geq s_maxr s_minr

attribute [local go_sem] bc_alloc2 bc_alloc3 s_alloc_drewN s_setCell_drewN bc_alloc bc_drewN bc_drew

theorem bc_grown {b w w' : World} {row : Option Nat} (h : BelowC b w) (hg : w.grownBy w' row) (hrow : ∀ k, row = some k → b.heap.size ≤ k) : BelowC b w' :=
  ⟨hg.os.trans h.os, hg.tape.trans h.tape, hg.output.trans h.output, Nat.le_trans h.size hg.size, fun k hk => (hg.block k (Nat.lt_of_lt_of_le hk h.size) (fun e => by have := hrow k e.symm; omega)).trans (h.block k hk)⟩
def opCell (x : OpV) : Nat → Value
  | 0 => .int .i64 x.kind | 1 => .int .i64 x.table | 2 => .string x.key | 3 => .string x.value | 4 => .string x.lo | 5 => .string x.hi | 6 => .bool x.top | 7 => .int .i64 x.n | _ => .bool x.back
theorem opAt_cell {w : World} {b o : Nat} {x : OpV} (h : OpAt w b o x) (r : Nat) (hr : r < 9) : w.cell? ⟨b, o + r, none⟩ = some (opCell x r) := by
  rcases (show r = 0 ∨ r = 1 ∨ r = 2 ∨ r = 3 ∨ r = 4 ∨ r = 5 ∨ r = 6 ∨ r = 7 ∨ r = 8 by omega) with e | e | e | e | e | e | e | e | e <;> subst e
  all_goals first | exact h.c0 | exact h.c1 | exact h.c2 | exact h.c3 | exact h.c4 | exact h.c5 | exact h.c6 | exact h.c7 | exact h.c8
theorem opCell_one (x : OpV) (r : Nat) : (opCell x r).oneCell' = true := by
  rcases r with _ | _ | _ | _ | _ | _ | _ | _ | r <;> rfl
theorem ops_news {w : World} {A : Addr} {m : Nat} {f : Nat → OpV} (h : Ops w (some A) m f) : ∃ news : List Value, news.length = m * 9 ∧ (∀ j u, news[j]? = some u → w.cell? (A.add j) = some u) ∧ ∀ u ∈ news, u.oneCell' = true := by
  refine ⟨(List.range (m * 9)).map fun q => opCell (f (q / 9)) (q % 9), by simp, fun j u hj => ?_, fun u hu => ?_⟩
  · have hjl : j < m * 9 := by
      have := (List.getElem?_eq_some_iff.1 hj).1
      simpa using this
    obtain ⟨b, o, e, hlt, hi⟩ := h.2 (by omega)
    cases e
    have hx := opAt_cell (hi (j / 9) (by omega)) (j % 9) (by omega)
    simp [hjl] at hj
    rw [Go.WideShapes.add_plain, ← hj, show o + j = o + j / 9 * 9 + j % 9 by omega]
    exact hx
  · obtain ⟨q, _, rfl⟩ := List.mem_map.1 hu
    exact opCell_one _ _
/-- append of ops to a slice of the call's own: how many there are then. -/
theorem app38 {ops : Array Oper} {rest : List Oper} {o : Oper} {a : Act} {w b : World} {Q : Exit → Act → World → Prop} (hgd : o.guard = none) (s x : Operand)
    (ho : o.op = .call { callee := .builtin .append, args := #[s, x], argTypes := #[38, 38] }) (v : Value) (n : Nat) (hs : a.eval s = v) (hown : ∃ xs, w.ownsRow b.heap.size 44 9 v n xs)
    (A : Addr) (m c : Nat) (f : Nat → OpV) (hx : a.eval x = .slice (some A) m c) (hO : Ops w (some A) m f) (hn : n + m ≤ 100) (hn0 : 0 < n + m) (hB : BelowC b w)
    (h : ∀ g cap w', (∃ xs, w'.ownsRow b.heap.size 44 9 (.slice (some ⟨g, 0, none⟩) (n + m) cap) (n + m) xs) → BelowC b w' → wpList Try.prog ops Q rest (a.put o.dst (.slice (some ⟨g, 0, none⟩) (n + m) cap)) w') : wpList Try.prog ops Q (o :: rest) a w := by
  obtain ⟨i, hi, hb, hz, hsz⟩ := inf44
  obtain ⟨xs, hown⟩ := hown
  obtain ⟨news, hl, hne, hone⟩ := ops_news hO
  have hml : maxLen = 9223372036854775807 := rfl
  refine wpList_append_own w hgd s x 38 ho b.heap.size 44 i _ 9 104 Try.underlying38 hi hz hsz hb rfl (by decide) v n xs hs hown A m c news hx hl hne hone (by omega) (by omega) (bc_size hB) fun v' w' h1 h2 h3 => ?_
  obtain ⟨g, cap, rfl⟩ := Go.Joins.ownsRow_form h1 hn0
  exact h g cap w' ⟨_, h1⟩ (bc_grown hB h2 fun k hk => (hown.lt k hk).1)
end Go.Proofs.Ytldjgcgcbcmkfaa.K
