/- What fits: plain laws. -/
import Derived.Test.YtabbceinagakfaaProg
import Derived.Below
import Derived.WalkKit
import Derived.KernelRfl
import Derived.RowKit
import Derived.RowKit3
import Derived.Tactics
import Derived.Deep.QuietTactic
import Derived.BigQuiet
import Derived.OwnWalk
import Derived.Outline
import Derived.Handy
import Derived.StillTailTactics
import Derived.Deep.RegionHeld3
import Derived.Deep.DeepCutAuto
import Derived.Deep.CutBlock
import Derived.Shelf.Abstract
import Derived.Shelf.SlSortCmp.QuietGrown
import Derived.Lib.SliceRun
import Derived.Sort.OwnSortedInts
import Derived.Lib.SlicesCompact
import Derived.Lib.SmallJoins
import Derived.SliceStrings
import Derived.ArgAppend
import Derived.Deep.Slices
import Derived.ChangeSame
import Derived.Lib.Strings
import Derived.Test.YtabbceinagakfaaD29
namespace Go.Proofs.Ytabbceinagakfaa.K
open Go.RowKit Go.Proofs.YtabbceinagakfaaS
set_option linter.unusedSimpArgs false
set_option linter.unusedVariables false
attribute [local go_sem] s_leq s_gtr s_geq s_maxr s_minr
attribute [local go_sem] bc_alloc2 bc_alloc3 s_alloc_drewN s_setCell_drewN bc_alloc bc_drewN bc_drew

theorem bytes_inj {a b : ByteArray} (h : a.toList = b.toList) : a = b :=
  ByteArray.ext (Array.toList_inj.mp (by rw [← ByteArray.toList_eq, ← ByteArray.toList_eq]; exact h))
theorem same_is {x y : LockV} (h : sameL x y = true) : y = { x with mode := y.mode } := by
  simp [sameL, eqR] at h
  obtain ⟨h1, h2, h3, h4, h5⟩ := h
  have e3 := bytes_inj h3
  have e4 := bytes_inj h4
  cases x
  cases y
  simp_all
theorem tog_sym (a b : Int) : togB a b = togB b a := by
  unfold togB
  cases (a == 3) <;> cases (b == 3) <;> cases (a == 1) <;> cases (b == 1) <;> rfl
theorem clash_sym (x y : LockV) : clashL x y = clashL y x := by
  unfold clashL
  rw [share_over, share_over, over_sym, tog_sym, beq_sym x.owner, beq_sym x.table]
theorem same_sym (x y : LockV) : sameL x y = sameL y x := by
  unfold sameL
  rw [eqR_sym, beq_sym x.owner, beq_sym x.table]
theorem may_iff {L : List LockV} : mayL L = true ↔ (L.length : Int) ≤ 200 ∧ (∀ y ∈ L, isL y = true) ∧ L.Pairwise (fun y z => badL z y = false) := by
  rw [List.pairwise_iff_getElem]
  simp only [mayL, Bool.and_eq_true, decide_eq_true_eq]
  refine and_congr Iff.rfl (and_congr (by simp) ?_)
  simp only [pairsL, List.all_eq_true, List.mem_range, Bool.not_eq_true', List.any_eq_false]
  constructor
  · intro h i j hi hj hij
    have := h j hj L[i] (List.mem_take_iff_getElem.2 ⟨i, by omega, rfl⟩)
    rw [getI hj] at this
    simpa using this
  · intro h j hj y hy
    obtain ⟨i, hi, rfl⟩ := List.mem_take_iff_getElem.1 hy
    rw [getI hj, h i j (by omega) hj (by omega)]
    simp
theorem may_filter {L : List LockV} (p : LockV → Bool) (h : mayL L = true) : mayL (L.filter p) = true := by
  rw [may_iff] at h ⊢
  refine ⟨?_, fun y hy => h.2.1 y (List.mem_filter.1 hy).1, h.2.2.filter _⟩
  have := List.length_filter_le p L
  have := h.1
  omega
theorem mem_others {L : List LockV} {x : LockV} {z : Int} : z ∈ othersL L x ↔ ∃ y ∈ L, clashL x y = true ∧ y.owner = z := by
  unfold othersL
  rw [(compact_strict (sorted_le _)).2, List.mem_mergeSort, List.mem_map]
  constructor
  · rintro ⟨y, hy, rfl⟩
    rw [List.mem_filter] at hy
    exact ⟨y, hy.1, hy.2, rfl⟩
  · rintro ⟨y, hy, hc, rfl⟩
    exact ⟨y, List.mem_filter.2 ⟨hy, hc⟩, rfl⟩
theorem others_none {L : List LockV} {x : LockV} (h : ¬ 0 < (othersL L x).length) : ∀ y ∈ L, clashL x y = false := by
  intro y hy
  cases hc : clashL x y
  · rfl
  · have : y.owner ∈ othersL L x := mem_others.2 ⟨y, hy, hc, rfl⟩
    have := List.length_pos_of_mem this
    omega
theorem raise_two {x y : LockV} (h : sameL x y = true) : (raise y x = y ∨ raise y x = x) ∧ heldL x (raise y x) = true := by
  have e := same_is h
  have hw : withinB x.lo x.hi x.top x.lo x.hi x.top = true := by
    simp only [withinB, lt_irr]
    cases x.top <;> rfl
  obtain ⟨o, t, lo, hi, top, m⟩ := x
  obtain ⟨o', t', lo', hi', top', m'⟩ := y
  simp only [LockV.mk.injEq, and_true] at e
  obtain ⟨rfl, rfl, rfl, rfl, rfl⟩ := e
  simp only at hw
  constructor
  · by_cases hm : m ≤ m'
    · left
      simp [raise, maxI]
      omega
    · right
      simp [raise, maxI]
      omega
  · simp [raise, maxI, heldL, hw]
    exact decide_eq_true (by omega)
theorem held_self (x : LockV) : heldL x x = true := by
  have hw : withinB x.lo x.hi x.top x.lo x.hi x.top = true := by
    simp only [withinB, lt_irr]
    cases x.top <;> rfl
  simp [heldL, hw]
/-- What is put among locks that may be, where nothing is in the way: they may be, and it is covered. -/
theorem put_may {L : List LockV} {x : LockV} (h : mayL L = true) (hx : isL x = true) (hc : ∀ y ∈ L, clashL x y = false) (hr : 0 ≤ idxL (sameL x) L ∨ (L.length : Int) < 200) : mayL (putL L x) = true ∧ (putL L x).any (heldL x) = true := by
  have h' := may_iff.1 h
  rcases idx_cases (sameL x) L with ⟨hi, hall⟩ | ⟨k, hk, hi, hpk, hlow⟩
  · have e : putL L x = L ++ [x] := by rw [putL, hi]; rfl
    rw [e]
    refine ⟨may_iff.2 ⟨?_, ?_, ?_⟩, by simp [held_self]⟩
    · have : (L.length : Int) < 200 := by rcases hr with h1 | h1; · omega
                                          · exact h1
      simp
      omega
    · intro y hy
      rcases List.mem_append.1 hy with h1 | h1
      · exact h'.2.1 y h1
      · rw [List.mem_singleton.1 h1]
        exact hx
    · rw [List.pairwise_append]
      refine ⟨h'.2.2, List.pairwise_singleton _ _, fun a ha b hb => ?_⟩
      rw [List.mem_singleton.1 hb, badL, hall a ha, hc a ha]
      rfl
  · have e : putL L x = L.set k (raise L[k] x) := by rw [putL, hi, if_pos (by omega), show ((k : Int)).toNat = k by omega, getI hk]
    obtain ⟨hr2, hh⟩ := raise_two hpk
    rw [e]
    refine ⟨?_, List.any_eq_true.2 ⟨_, List.mem_set hk _, hh⟩⟩
    rcases hr2 with e2 | e2
    · rw [e2, List.set_getElem_self hk]
      exact h
    · rw [e2]
      have hs := same_is hpk
      have hp := List.pairwise_iff_getElem.1 h'.2.2
      refine may_iff.2 ⟨by rw [List.length_set]; exact h'.1, ?_, ?_⟩
      · intro y hy
        rcases List.mem_or_eq_of_mem_set hy with h1 | h1
        · exact h'.2.1 y h1
        · rw [h1]; exact hx
      · rw [List.pairwise_iff_getElem]
        intro i j hi' hj' hij
        rw [List.length_set] at hi' hj'
        have hb := hp i j hi' hj' hij
        simp only [badL, Bool.or_eq_false_iff] at hb ⊢
        rw [List.getElem_set, List.getElem_set]
        by_cases h1 : k = j
        · subst h1
          rw [if_pos rfl, if_neg (by omega)]
          refine ⟨?_, hc _ (List.getElem_mem _)⟩
          rw [hs] at hb
          exact hb.1
        · rw [if_neg h1]
          by_cases h2 : k = i
          · subst h2
            rw [if_pos rfl]
            refine ⟨?_, by rw [clash_sym]; exact hc _ (List.getElem_mem _)⟩
            have h3 := hb.1
            rw [same_sym] at h3 ⊢
            rw [hs] at h3
            exact h3
          · rw [if_neg h2]
            exact hb
theorem take_eight (L : List LockV) (x : LockV) : ((takeP L x).2 == 8) = decide (0 < (othersL L x).length) := by
  unfold takeP
  split
  · rename_i h
    rw [decide_eq_true h]
    rfl
  · rename_i h
    rw [decide_eq_false h]
    split <;> rfl
theorem take_zero {L : List LockV} {x : LockV} (h : mayL L = true) (hx : isL x = true) (h0 : (takeP L x).2 = 0) : mayL (takeP L x).1 = true ∧ (takeP L x).1.any (heldL x) = true := by
  unfold takeP at h0 ⊢
  by_cases h1 : 0 < (othersL L x).length
  · rw [if_pos h1] at h0
    cases h0
  · rw [if_neg h1] at h0 ⊢
    by_cases h2 : idxL (sameL x) L < 0 ∧ (200 : Int) ≤ (L.length : Int)
    · rw [if_pos h2] at h0
      cases h0
    · rw [if_neg h2]
      exact put_may h hx (others_none h1) (by omega)
theorem take_free {L : List LockV} {x : LockV} (h : ∀ y ∈ L, clashL x y = false) : (takeP L x).2 = 0 ∨ (takeP L x).2 = 5 := by
  have h1 : ¬ 0 < (othersL L x).length := by
    intro hp
    have hm := List.getElem_mem hp
    obtain ⟨y, hy, hc, _⟩ := mem_others.1 hm
    rw [h y hy] at hc
    cases hc
  unfold takeP
  rw [if_neg h1]
  split
  · exact .inr rfl
  · exact .inl rfl
theorem own_ge {L : List LockV} {x : LockV} (h : mayL L = true) {j : Nat} (hj : j < (othersL L x).length) : 0 ≤ (othersL L x)[j] := by
  obtain ⟨y, hy, _, e⟩ := mem_others.1 (List.getElem_mem hj)
  have := (may_iff.1 h).2.1 y hy
  simp [isL, numB] at this
  rw [← e]
  exact this.1.1
end Go.Proofs.Ytabbceinagakfaa.K
