/- Numbers in order, each once: the plain law. -/
import Derived.Test.YtabbceinagakfaaProg
import Derived.Below
import Derived.WalkKit
import Derived.KernelRfl
import Derived.RowKit
import Derived.RowKit3
import Derived.Tactics
import Derived.Deep.QuietTactic
import Derived.BigQuiet
import Derived.OwnWalk
import Derived.Outline
import Derived.Handy
import Derived.StillTailTactics
import Derived.Deep.RegionHeld3
import Derived.Deep.DeepCutAuto
import Derived.Deep.CutBlock
import Derived.Shelf.Abstract
import Derived.Shelf.SlSortCmp.QuietGrown
import Derived.Lib.SliceRun
import Derived.Sort.OwnSortedInts
import Derived.Lib.SlicesCompact
import Derived.Lib.SmallJoins
import Derived.SliceStrings
import Derived.ArgAppend
import Derived.Deep.Slices
import Derived.ChangeSame
import Derived.Lib.Strings
import Derived.Test.YtabbceinagakfaaD16
namespace Go.Proofs.Ytabbceinagakfaa.K
open Go.RowKit Go.Proofs.YtabbceinagakfaaS
set_option linter.unusedSimpArgs false
set_option linter.unusedVariables false
attribute [local go_sem] s_leq s_gtr s_geq s_maxr s_minr
attribute [local go_sem] bc_alloc2 bc_alloc3 s_alloc_drewN s_setCell_drewN bc_alloc bc_drewN bc_drew

/-- A slice of numbers. -/
def Ns (w : World) (A : Option Addr) (n : Nat) (l : List Int) : Prop :=
  n = l.length ∧ n ≤ 9223372036854775807 ∧ (0 < n → ∃ b o, A = some ⟨b, o, none⟩ ∧ b < w.heap.size ∧ ∀ i (h : i < l.length), w.cell? ⟨b, o + i, none⟩ = some (.int .i64 l[i]))
theorem Ns.below {w w' : World} {A : Option Addr} {n : Nat} {l : List Int} (h : Ns w A n l) (hb : BelowC w w') : Ns w' A n l := by
  refine ⟨h.1, h.2.1, fun h0 => ?_⟩
  obtain ⟨b, o, e, hlt, hc⟩ := h.2.2 h0
  exact ⟨b, o, e, bc_lt hb hlt, fun i hi => bc_cell (hc i hi) hlt w' hb⟩
theorem ownI_at {w b : World} {g n cap : Nat} {xs : List Int} (h : OwnI w b (.slice (some ⟨g, 0, none⟩) n cap) xs) (hn : n = xs.length) {j : Nat} (hj : j < xs.length) : w.cell? ⟨g, j, none⟩ = some (.int .i64 xs[j]) := by
  subst hn
  rw [World.ownsRow.cellAt h j (by omega)]
  simp [hj]
theorem ownI_fz {w b : World} {g n cap : Nat} {xs : List Int} (h : OwnI w b (.slice (some ⟨g, 0, none⟩) n cap) xs) (hn : n = xs.length) : ∀ o, w.frozen? ⟨g, o, none⟩ = false := by
  subst hn
  exact fun o => World.ownsRow.frozenAt h o
theorem ownI_set {w b : World} {g n cap : Nat} {xs : List Int} (h : OwnI w b (.slice (some ⟨g, 0, none⟩) n cap) xs) (hn : n = xs.length) (j : Nat) (z : Int) : OwnI (w.setCell ⟨g, j, none⟩ (.int .i64 z)) b (.slice (some ⟨g, 0, none⟩) n cap) (xs.set j z) := by
  subst hn
  unfold OwnI at h ⊢
  rw [List.length_set, List.map_set]
  exact (World.ownsRow.stored h j _).1
theorem ownI_form {w b : World} {v : Value} {xs : List Int} (h : OwnI w b v xs) : ∃ A n c, v = .slice A n c ∧ n = xs.length ∧ n ≤ c ∧ Ns w A n xs ∧ (∀ a, A = some a → ∃ g, a = ⟨g, 0, none⟩ ∧ b.heap.size ≤ g ∧ g < w.heap.size) := by
  have hml : maxLen = 9223372036854775807 := rfl
  have h' := h
  rcases h.2 with ⟨rfl, hn⟩ | ⟨g, cap, cur, rfl, hbg, hg, hnc, hcm, hcs, _⟩
  · exact ⟨none, 0, 0, rfl, hn.symm, Nat.le_refl _, ⟨hn.symm, by simp, fun h => absurd h (by simp)⟩, fun a e => by cases e⟩
  · have hlt := (h'.lt g rfl).2
    refine ⟨_, _, cap, rfl, rfl, hnc, ⟨rfl, by omega, fun h0 => ⟨g, 0, rfl, hlt, fun i hi => ?_⟩⟩, fun a e => by cases e; exact ⟨g, rfl, hbg, hlt⟩⟩
    rw [Nat.zero_add]
    exact ownI_at h' rfl hi
def Strict (xs : List Int) : Prop := xs.Pairwise (· < ·)
/-- One put in its place. -/
def insAt (xs : List Int) (k : Nat) (z : Int) : List Int := xs.take k ++ z :: xs.drop k
theorem insAt_strict {xs : List Int} {k : Nat} {z : Int} (h : Strict xs) (hk : k ≤ xs.length) (h1 : ∀ j (hj : j < xs.length), j < k → xs[j] < z) (h2 : ∀ (hk : k < xs.length), z < xs[k]) : Strict (insAt xs k z) := by
  unfold Strict insAt at *
  rw [List.pairwise_append]
  have hd : ∀ y ∈ xs.drop k, z < y := by
    intro y hy
    obtain ⟨j, hj, rfl⟩ := List.mem_iff_getElem.1 hy
    rw [List.length_drop] at hj
    rw [List.getElem_drop]
    have hkl : k < xs.length := by omega
    rcases Nat.eq_zero_or_pos j with e | e
    · subst e; exact h2 hkl
    · exact Int.lt_trans (h2 hkl) (List.pairwise_iff_getElem.1 h k (k + j) hkl (by omega) (by omega))
  have ht : ∀ y ∈ xs.take k, y < z := by
    intro y hy
    obtain ⟨j, hj, rfl⟩ := List.mem_iff_getElem.1 hy
    rw [List.length_take] at hj
    rw [List.getElem_take]
    exact h1 j (by omega) (by omega)
  refine ⟨h.sublist (List.take_sublist _ _), ?_, ?_⟩
  · rw [List.pairwise_cons]
    exact ⟨hd, h.sublist (List.drop_sublist _ _)⟩
  · intro a ha c hc
    rcases List.mem_cons.1 hc with e | e
    · subst e; exact ht a ha
    · exact Int.lt_trans (ht a ha) (hd c e)
theorem insAt_mem {xs : List Int} {k : Nat} {z y : Int} : y ∈ insAt xs k z ↔ y = z ∨ y ∈ xs := by
  unfold insAt
  rw [List.mem_append, List.mem_cons]
  conv => rhs; rw [← List.take_append_drop k xs, List.mem_append]
  constructor <;> rintro (h | h | h) <;> simp [h]
/-- What a strictly rising list is, is told by its members. -/
theorem strict_unique : ∀ {xs ys : List Int}, Strict xs → Strict ys → (∀ z, z ∈ xs ↔ z ∈ ys) → xs = ys
  | [], [], _, _, _ => rfl
  | [], y :: ys, _, _, h => absurd ((h y).2 (by simp)) (by simp)
  | x :: xs, [], _, _, h => absurd ((h x).1 (by simp)) (by simp)
  | x :: xs, y :: ys, hx, hy, h => by
    unfold Strict at hx hy
    rw [List.pairwise_cons] at hx hy
    have e : x = y := by
      rcases List.mem_cons.1 ((h x).1 (by simp)) with e | e
      · exact e
      · rcases List.mem_cons.1 ((h y).2 (by simp)) with e' | e'
        · exact e'.symm
        · have := hx.1 y e'; have := hy.1 x e; omega
    subst e
    congr 1
    refine strict_unique hx.2 hy.2 fun z => ?_
    constructor
    · intro hz
      rcases List.mem_cons.1 ((h z).1 (by simp [hz])) with e | e
      · have := hx.1 z hz; omega
      · exact e
    · intro hz
      rcases List.mem_cons.1 ((h z).2 (by simp [hz])) with e | e
      · have := hy.1 z hz; omega
      · exact e
/-- Of a list in order each once: strictly rising, the same members. -/
theorem compact_strict {xs : List Int} (h : xs.Pairwise (· ≤ ·)) : Strict (Lib.compact xs) ∧ ∀ z, z ∈ Lib.compact xs ↔ z ∈ xs := by
  have key : ∀ m, m ≤ xs.length → Strict (Lib.compactUpTo xs.toArray m) ∧ (∀ z, z ∈ Lib.compactUpTo xs.toArray m ↔ z ∈ xs.take m) := by
    intro m
    induction m with
    | zero => intro _; simp [Lib.compactUpTo, Strict]
    | succ m ih =>
      intro hm
      obtain ⟨i1, i2⟩ := ih (by omega)
      have hml : m < xs.length := by omega
      have hg : xs.toArray[m]! = xs[m] := by simp [hml]
      rw [Lib.compactUpTo_succ]
      have htk : ∀ z, z ∈ xs.take (m + 1) ↔ z ∈ xs.take m ∨ z = xs[m] := by
        intro z
        rw [List.take_add_one, List.getElem?_eq_getElem hml, Option.toList_some, List.mem_append, List.mem_singleton]
      cases hk : Lib.keeps xs.toArray m with
      | true =>
        rw [if_pos rfl, hg]
        refine ⟨?_, fun z => ?_⟩
        · unfold Strict at *
          rw [List.pairwise_append]
          refine ⟨i1, by simp, fun a ha c hc => ?_⟩
          rw [List.mem_singleton] at hc
          subst hc
          obtain ⟨j, hj, rfl⟩ := List.mem_iff_getElem.1 ((i2 a).1 ha)
          rw [List.length_take] at hj
          rw [List.getElem_take]
          have hm0 : 0 < m := by omega
          have hne : xs[m] ≠ xs[m - 1] := by
            have := hk
            simp only [Lib.keeps, decide_eq_true_eq] at this
            rcases this with e | e
            · omega
            · rw [hg] at e
              have hg1 : xs.toArray[m - 1]! = xs[m - 1] := by simp [show m - 1 < xs.length by omega]
              rw [hg1] at e
              exact e
          have hle : xs[m - 1] ≤ xs[m] := List.pairwise_iff_getElem.1 h (m - 1) m (by omega) hml (by omega)
          have hlj : xs[j] ≤ xs[m - 1] := by
            rcases Nat.lt_or_ge j (m - 1) with e | e
            · exact List.pairwise_iff_getElem.1 h j (m - 1) (by omega) (by omega) e
            · have : j = m - 1 := by omega
              subst this
              exact Int.le_refl _
          omega
        · rw [List.mem_append, List.mem_singleton, i2, htk]
      | false =>
        rw [if_neg (by simp), List.append_nil]
        refine ⟨i1, fun z => ?_⟩
        rw [i2, htk]
        refine ⟨Or.inl, fun hz => ?_⟩
        rcases hz with hz | rfl
        · exact hz
        · simp only [Lib.keeps, decide_eq_false_iff_not, not_or, Decidable.not_not] at hk
          have hg1 : xs.toArray[m - 1]! = xs[m - 1] := by simp [show m - 1 < xs.length by omega]
          rw [hg, hg1] at hk
          rw [hk.2]
          exact List.mem_take_iff_getElem.2 ⟨m - 1, by omega, rfl⟩
  have := key xs.length (Nat.le_refl _)
  rw [List.take_of_length_le (Nat.le_refl _)] at this
  exact this
theorem sorted_le (xs : List Int) : (xs.mergeSort fun x y => decide (x ≤ y)).Pairwise (· ≤ ·) := by
  have := List.pairwise_mergeSort (le := fun x y : Int => decide (x ≤ y)) (fun a b c h1 h2 => by simp at *; omega) (fun a b => by simp; omega) xs
  exact this.imp (fun h => by simpa using h)
/-- A strictly rising list of the owners in the way is what lock.Others tells. -/
theorem others_eq {L : List LockV} {x : LockV} {xs : List Int} (h : Strict xs) (hm : ∀ z, z ∈ xs ↔ z ∈ (L.filter (clashL x)).map (·.owner)) : xs = othersL L x := by
  obtain ⟨h1, h2⟩ := compact_strict (sorted_le ((L.filter (clashL x)).map (·.owner)))
  show xs = Lib.compact _
  refine strict_unique h h1 fun z => ?_
  rw [h2, hm]
  exact List.mem_mergeSort.symm
end Go.Proofs.Ytabbceinagakfaa.K
