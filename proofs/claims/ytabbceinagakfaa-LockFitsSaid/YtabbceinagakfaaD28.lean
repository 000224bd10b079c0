/- Acts in memory of one's own. -/
import Derived.Test.YtabbceinagakfaaProg
import Derived.Below
import Derived.WalkKit
import Derived.KernelRfl
import Derived.RowKit
import Derived.RowKit3
import Derived.Tactics
import Derived.Deep.QuietTactic
import Derived.BigQuiet
import Derived.OwnWalk
import Derived.Outline
import Derived.Handy
import Derived.StillTailTactics
import Derived.Deep.RegionHeld3
import Derived.Deep.DeepCutAuto
import Derived.Deep.CutBlock
import Derived.Shelf.Abstract
import Derived.Shelf.SlSortCmp.QuietGrown
import Derived.Lib.SliceRun
import Derived.Sort.OwnSortedInts
import Derived.Lib.SlicesCompact
import Derived.Lib.SmallJoins
import Derived.SliceStrings
import Derived.ArgAppend
import Derived.Deep.Slices
import Derived.ChangeSame
import Derived.Lib.Strings
import Derived.Test.YtabbceinagakfaaD27
namespace Go.Proofs.Ytabbceinagakfaa.K
open Go.RowKit Go.Proofs.YtabbceinagakfaaS
set_option linter.unusedSimpArgs false
set_option linter.unusedVariables false
attribute [local go_sem] s_leq s_gtr s_geq s_maxr s_minr
attribute [local go_sem] bc_alloc2 bc_alloc3 s_alloc_drewN s_setCell_drewN bc_alloc bc_drewN bc_drew

def actCells (a : ActV) : List Value := [.int .i64 a.d, .int .i64 a.o, .int .i64 a.x.owner, .int .i64 a.x.table, .string a.x.lo, .string a.x.hi, .bool a.x.top, .int .i64 a.x.mode]
theorem aflat_len (L : List ActV) : (L.flatMap actCells).length = L.length * 8 := by
  induction L with
  | nil => rfl
  | cons x T ih => simp [List.flatMap_cons, ih, actCells]; omega
theorem aflat_get : ∀ (L : List ActV) (i : Nat) (hi : i < L.length) (r : Nat) (hr : r < 8), (L.flatMap actCells)[i * 8 + r]? = (actCells L[i])[r]?
  | [], i, hi, _, _ => absurd hi (by simp)
  | x :: T, 0, _, r, hr => by
    rw [List.flatMap_cons, List.getElem?_append_left (by simp [actCells]; omega)]
    simp
  | x :: T, i + 1, hi, r, hr => by
    rw [List.flatMap_cons, List.getElem?_append_right (by simp [actCells]; omega)]
    have := aflat_get T i (by simpa using hi) r hr
    rw [show (i + 1) * 8 + r - (actCells x).length = i * 8 + r by simp [actCells]; omega, this]
    simp
theorem act_at {w : World} {b o : Nat} {x : ActV} (h : ∀ r, r < 8 → w.cell? ⟨b, o + r, none⟩ = (actCells x)[r]?) : ActAt w b o x :=
  ⟨h 0 (by decide), h 1 (by decide), h 2 (by decide), h 3 (by decide), h 4 (by decide), h 5 (by decide), h 6 (by decide), h 7 (by decide)⟩
/-- Acts in memory behind B. -/
def OwnA (w : World) (B : Nat) (v : Value) (L : List ActV) : Prop := w.ownsRow B 33 8 v L.length (L.flatMap actCells)
instance instActD : Inhabited ActV := ⟨⟨0, 0, default⟩⟩
theorem owna_form {w : World} {B : Nat} {v : Value} {L : List ActV} (h : OwnA w B v L) : ∃ A n c, v = .slice A n c ∧ n = L.length ∧ Acts w A n (fun i => L[i]!) := by
  have hml : maxLen = 9223372036854775807 := rfl
  have h' := h
  rcases h.2 with ⟨rfl, hn⟩ | ⟨g, cap, cur, rfl, hbg, hg, hnc, hcm, hcs, _⟩
  · exact ⟨none, 0, 0, rfl, hn.symm, by simp, fun h => absurd h (by simp)⟩
  · have hlt := (h'.lt g rfl).2
    refine ⟨_, _, cap, rfl, rfl, by omega, fun h0 => ⟨g, 0, rfl, hlt, fun i hi => ?_⟩⟩
    show ActAt w g (0 + i * 8) (L[i]!)
    rw [getElem!_pos L i hi]
    refine act_at fun r hr => ?_
    have := h'.cellAt (i * 8 + r) (by omega)
    rw [aflat_get L i hi r hr] at this
    rw [Nat.zero_add]
    exact this
theorem inf33 : ∃ i : TypeInfo, Try.prog.info? 33 = some i ∧ i.bytes = 80 ∧ i.zero = some (.agg #[.int .i64 0, .int .i64 0, .int .i64 0, .int .i64 0, .string ⟨#[]⟩, .string ⟨#[]⟩, .bool false, .int .i64 0]) ∧ i.size = 8 := ⟨_, rfl, rfl, rfl, rfl⟩
theorem below_grown {w w' : World} {B : Nat} {row : Option Nat} (hB : B ≤ w.heap.size) (hg : w.grownBy w' row) (hrow : ∀ k, row = some k → B ≤ k) : Below B w w' :=
  ⟨hg.os, hg.tape, hg.output, hg.size, fun k hk => hg.block k (Nat.lt_of_lt_of_le hk hB) (fun e => by have := hrow k e.symm; omega)⟩
/-- append of one act. -/
theorem app23 {ops : Array Oper} {rest : List Oper} {o : Oper} {a : Go.Act} {w : World} {B : Nat} {Q : Exit → Go.Act → World → Prop} (hgd : o.guard = none) (s x : Operand)
    (ho : o.op = .call { callee := .builtin .append, args := #[s, x], argTypes := #[23, 23] }) (v : Value) (L : List ActV) (hs : a.eval s = v) (hown : OwnA w B v L)
    (g : Nat) (z : ActV) (hx : a.eval x = .slice (some ⟨g, 0, none⟩) 1 1) (hO : ActAt w g 0 z) (hn : L.length + 1 ≤ 1759218604441) (hB : B ≤ w.heap.size)
    (h : ∀ v' w', OwnA w' B v' (L ++ [z]) → Below B w w' → wpList Try.prog ops Q rest (a.put o.dst v') w') : wpList Try.prog ops Q (o :: rest) a w := by
  obtain ⟨i, hi, hb, hz, hsz⟩ := inf33
  have hml : maxLen = 9223372036854775807 := rfl
  refine wpList_append_own w hgd s x 23 ho B 33 i _ 8 80 Try.underlying23 hi hz hsz hb rfl (by decide) v L.length (L.flatMap actCells) hs hown ⟨g, 0, none⟩ 1 1 (actCells z) hx rfl (fun j u hj => by
    have hjl : j < 8 := (List.getElem?_eq_some_iff.1 hj).1
    rw [Go.WideShapes.add_plain]
    match j, hjl with
    | 0, _ => cases hj; exact hO.c0
    | 1, _ => cases hj; exact hO.c1
    | 2, _ => cases hj; exact hO.c2
    | 3, _ => cases hj; exact hO.c3
    | 4, _ => cases hj; exact hO.c4
    | 5, _ => cases hj; exact hO.c5
    | 6, _ => cases hj; exact hO.c6
    | 7, _ => cases hj; exact hO.c7) (fun u hu => by
    simp only [actCells, List.mem_cons, List.mem_nil_iff, or_false] at hu
    rcases hu with rfl | rfl | rfl | rfl | rfl | rfl | rfl | rfl <;> rfl) (by omega) (by omega) hB fun v' w' h1 h2 h3 => ?_
  refine h v' w' ?_ (below_grown hB h2 fun k hk => (hown.lt k hk).1)
  unfold OwnA
  rw [List.flatMap_append, List.length_append]
  simpa using h1
theorem owna_set {w : World} {B g j : Nat} {v u : Value} {L : List ActV} (h : OwnA w B v L) (hg : g < B) : OwnA (w.setCell ⟨g, j, none⟩ u) B v L := by
  refine World.ownsRow.kept h (row := some g) ⟨rfl, rfl, rfl, by simp, fun k _ hk => heap_setCell_other w ⟨g, j, none⟩ k u (fun e => hk (by rw [e]))⟩ ?_
  rcases h.2 with ⟨rfl, _⟩ | ⟨g', cap', cur, rfl, hb, _⟩
  · exact .inl rfl
  · refine .inr ?_
    simp [Value.ownBlock]
    omega
theorem tmod_nat (i n : Nat) : Int.tmod (i : Int) (n : Int) = ((i % n : Nat) : Int) := by
  rw [Int.tmod_eq_emod_of_nonneg (Int.natCast_nonneg i)]
  simp
end Go.Proofs.Ytabbceinagakfaa.K
