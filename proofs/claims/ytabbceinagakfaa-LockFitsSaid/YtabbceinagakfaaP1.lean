/- Plain laws of the bytes' order. -/
import Derived.Test.YtabbceinagakfaaProg
import Derived.Below
import Derived.WalkKit
import Derived.KernelRfl
import Derived.RowKit
import Derived.RowKit3
import Derived.Tactics
import Derived.Deep.QuietTactic
import Derived.BigQuiet
import Derived.OwnWalk
import Derived.Outline
import Derived.Handy
import Derived.Lib.Strings
import Derived.Test.YtabbceinagakfaaK1
namespace Go.Proofs.Ytabbceinagakfaa.K
open Go.RowKit Go.Proofs.YtabbceinagakfaaS
set_option linter.unusedSimpArgs false
set_option linter.unusedVariables false
attribute [local go_sem] s_leq s_gtr s_geq s_maxr s_minr

theorem lt_eq (a b : ByteArray) : lt a b = decide (a.toList < b.toList) := bl_eq _ _
theorem lt_irr (a : ByteArray) : lt a a = false := by rw [lt_eq]; exact decide_eq_false (List.lt_irrefl _)
theorem lt_tr {a b c : ByteArray} (h1 : lt a b = true) (h2 : lt b c = true) : lt a c = true := by
  rw [lt_eq, decide_eq_true_eq] at *; exact List.lt_trans h1 h2
theorem lt_asym {a b : ByteArray} (h1 : lt a b = true) : lt b a = false := by
  cases h : lt b a
  · rfl
  · exact absurd (lt_tr h1 h) (by rw [lt_irr]; simp)
/-- Neither below the other: the same bytes. -/
theorem lt_tri {a b : ByteArray} (h1 : lt a b = false) (h2 : lt b a = false) : a.toList = b.toList := by
  have h := less_or a.toList b.toList
  simp only [lt] at h1 h2
  rw [h1, h2] at h
  simpa using h
theorem lt_congr {a b c : ByteArray} (h : a.toList = b.toList) : lt a c = lt b c ∧ lt c a = lt c b := by simp [lt, h]
/-- s < a ≤ b. -/
theorem lt_le {s a b : ByteArray} (h1 : lt s a = true) (h2 : lt b a = false) : lt s b = true := by
  cases h3 : lt a b
  · have e := lt_tri h3 h2
    rw [← (lt_congr e).2]; exact h1
  · exact lt_tr h1 h3
/-- a ≤ b < s. -/
theorem le_lt {s a b : ByteArray} (h1 : lt b a = false) (h2 : lt b s = true) : lt a s = true := by
  cases h3 : lt a b
  · have e := lt_tri h3 h1
    rw [(lt_congr e).1]; exact h2
  · exact lt_tr h3 h2
theorem smx_smn (x y : ByteArray) : lt (smx x y) (smn x y) = false := by
  unfold smx smn
  cases h1 : Op.bytesLess x.toList y.toList
  · cases h2 : Op.bytesLess y.toList x.toList
    · simp; exact lt_irr x
    · simp; exact h1
  · have h2 : Op.bytesLess y.toList x.toList = false := lt_asym (a := x) (b := y) h1
    rw [h2]; simp; exact h2
/-- What max tells: one of the two, and neither is above it. -/
theorem smx_cases (x y : ByteArray) : (smx x y = y ∧ lt x y = true) ∨ (smx x y = x ∧ lt x y = false) := by
  unfold smx
  cases h1 : Op.bytesLess x.toList y.toList
  · exact .inr ⟨by simp, h1⟩
  · exact .inl ⟨by simp, h1⟩
theorem smn_cases (x y : ByteArray) : (smn x y = y ∧ lt y x = true) ∨ (smn x y = x ∧ lt y x = false) := by
  unfold smn
  cases h1 : Op.bytesLess y.toList x.toList
  · exact .inr ⟨by simp, h1⟩
  · exact .inl ⟨by simp, h1⟩
theorem smx_lt (x y s : ByteArray) : lt s (smx x y) = (lt s x || lt s y) := by
  rcases smx_cases x y with ⟨e, h⟩ | ⟨e, h⟩
  · rw [e]; cases hx : lt s x
    · simp
    · rw [lt_tr hx h]; simp
  · rw [e]; cases hy : lt s y
    · simp
    · rw [lt_le hy h]; simp
theorem smx_gt (x y s : ByteArray) : lt (smx x y) s = (lt x s && lt y s) := by
  rcases smx_cases x y with ⟨e, h⟩ | ⟨e, h⟩
  · rw [e]; cases hx : lt y s
    · simp
    · rw [lt_tr h hx]; simp
  · rw [e]; cases hy : lt x s
    · simp
    · rw [le_lt h hy]; simp
theorem smn_lt (x y s : ByteArray) : lt s (smn x y) = (lt s x && lt s y) := by
  rcases smn_cases x y with ⟨e, h⟩ | ⟨e, h⟩
  · rw [e]; cases hx : lt s y
    · simp
    · rw [lt_tr hx h]; simp
  · rw [e]; cases hy : lt s x
    · simp
    · rw [lt_le hy h]; simp
theorem smn_gt (x y s : ByteArray) : lt (smn x y) s = (lt x s || lt y s) := by
  rcases smn_cases x y with ⟨e, h⟩ | ⟨e, h⟩
  · rw [e]; cases hx : lt x s
    · simp
    · rw [lt_tr h hx]; simp
  · rw [e]; cases hy : lt y s
    · simp
    · rw [le_lt h hy]; simp
theorem share_no {a b : ByteArray} (h : lt b a = false) : sharesB a b false b ⟨#[]⟩ true = false := by
  simp [sharesB, emptyB, meetHi, smx_gt, smx_lt, lt_irr, h]
end Go.Proofs.Ytabbceinagakfaa.K
