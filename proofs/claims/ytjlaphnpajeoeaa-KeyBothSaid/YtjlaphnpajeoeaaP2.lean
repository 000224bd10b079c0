/- Plain laws of ranges. -/
import Derived.Test.YtjlaphnpajeoeaaProg
import Derived.Below
import Derived.WalkKit
import Derived.KernelRfl
import Derived.RowKit
import Derived.RowKit3
import Derived.Tactics
import Derived.Deep.QuietTactic
import Derived.BigQuiet
import Derived.OwnWalk
import Derived.Outline
import Derived.Handy
import Derived.StillTailTactics
import Derived.Deep.RegionHeld3
import Derived.Deep.DeepCutAuto
import Derived.Deep.CutBlock
import Derived.Lib.Strings
import Derived.Test.YtjlaphnpajeoeaaP1
namespace Go.Proofs.Ytjlaphnpajeoeaa.K
open Go.RowKit Go.Proofs.YtjlaphnpajeoeaaS
set_option linter.unusedSimpArgs false
set_option linter.unusedVariables false
attribute [local go_sem] s_leq s_gtr s_geq s_maxr s_minr

theorem share_over (lo hi : ByteArray) (top : Bool) (lo' hi' : ByteArray) (top' : Bool) : sharesB lo hi top lo' hi' top' = overB lo hi top lo' hi' top' := by
  cases top <;> cases top' <;> simp [sharesB, emptyB, overB, meetHi, smx_gt, smx_lt, smn_lt, lt_irr]
theorem bl_succ : ∀ (s : List UInt8), Op.bytesLess s (s ++ [0]) = true
  | [] => rfl
  | a :: s => by simp [Op.bytesLess, bl_succ s]
theorem bl_next : ∀ (s t : List UInt8), Op.bytesLess s t = true → Op.bytesLess t (s ++ [0]) = false
  | s, [], h => by cases s <;> simp [Op.bytesLess] at h
  | [], b :: t, _ => by cases t <;> simp [Op.bytesLess]
  | a :: s, b :: t, h => by
    simp only [Op.bytesLess, Bool.or_eq_true, Bool.and_eq_true, decide_eq_true_eq, beq_iff_eq] at h
    simp only [List.cons_append, Op.bytesLess, Bool.or_eq_false_iff, decide_eq_false_iff_not, Bool.and_eq_false_iff, beq_eq_false_iff_ne]
    rcases h with h | ⟨rfl, h⟩
    · refine ⟨fun h2 => UInt8.lt_irrefl a (UInt8.lt_trans h h2), .inl fun e => ?_⟩
      rw [e] at h
      exact UInt8.lt_irrefl a h
    · exact ⟨UInt8.lt_irrefl _, .inr (bl_next s t h)⟩
theorem one_list (s : ByteArray) : (s ++ (⟨#[0]⟩ : ByteArray)).toList = s.toList ++ [0] := by
  rw [Lib.toList_data, Lib.toList_data]
  simp
theorem lt_succ (s : ByteArray) : lt s (s ++ ⟨#[0]⟩) = true := by unfold lt; rw [one_list]; exact bl_succ _
theorem lt_next {s t : ByteArray} (h : lt s t = true) : lt t (s ++ ⟨#[0]⟩) = false := by unfold lt at *; rw [one_list]; exact bl_next _ _ h
theorem may_parts {lo hi : ByteArray} {top : Bool} (h : mayB lo hi top = true) : lo.size ≤ 13 ∧ hi.size ≤ 13 := by
  unfold mayB at h
  split at h
  · cases h
  · omega
theorem may_both {lo hi : ByteArray} {top : Bool} {lo' hi' : ByteArray} {top' : Bool} (h : mayB lo hi top = true) (h' : mayB lo' hi' top' = true) : mayB (smx lo lo') (meetHi lo hi top lo' hi' top') (top && top') = true := by
  obtain ⟨a1, a2⟩ := may_parts h
  obtain ⟨b1, b2⟩ := may_parts h'
  have sx : ∀ x y : ByteArray, x.size ≤ 13 → y.size ≤ 13 → (smx x y).size ≤ 13 := fun x y hx hy => by unfold smx; split <;> assumption
  have sn : ∀ x y : ByteArray, x.size ≤ 13 → y.size ≤ 13 → (smn x y).size ≤ 13 := fun x y hx hy => by unfold smn; split <;> assumption
  have hm : (meetHi lo hi top lo' hi' top').size ≤ 13 := by
    unfold meetHi
    split
    · show (0 : Nat) ≤ 13; omega
    · refine sx _ _ ?_ (sx _ _ a1 b1)
      split
      · exact b2
      · split
        · exact a2
        · exact sn _ _ a2 b2
  unfold mayB
  rw [if_neg (by have := sx _ _ a1 b1; omega)]
  cases ht : (top && top')
  · simp [meetHi, ht, smx_gt, smx_lt, lt_irr]
  · simp [meetHi, ht, Lib.toList_data]
theorem holds_both (lo hi : ByteArray) (top : Bool) (lo' hi' : ByteArray) (top' : Bool) (s : ByteArray) : holdsB (smx lo lo') (meetHi lo hi top lo' hi' top') (top && top') s = (holdsB lo hi top s && holdsB lo' hi' top' s) := by
  unfold holdsB
  cases h1 : lt s lo <;> cases h2 : lt s lo' <;> cases top <;> cases top' <;> simp [meetHi, smx_lt, smn_lt, h1, h2]
theorem within_holds {lo hi : ByteArray} {top : Bool} {lo' hi' : ByteArray} {top' : Bool} {s : ByteArray} (h : withinB lo hi top lo' hi' top' = true) (hx : holdsB lo hi top s = true) : holdsB lo' hi' top' s = true := by
  simp only [withinB, holdsB, Bool.and_eq_true, Bool.or_eq_true, Bool.not_eq_true'] at *
  obtain ⟨h1, h2⟩ := h
  obtain ⟨h3, h4⟩ := hx
  refine ⟨?_, ?_⟩
  · cases h5 : lt s lo'
    · rfl
    · rw [lt_le h5 h1] at h3; cases h3
  · rcases h2 with h2 | ⟨h2, h6⟩
    · exact .inl h2
    · rcases h4 with h4 | h4
      · rw [h4] at h2; cases h2
      · exact .inr (lt_le h4 h6)
theorem holds_over {lo hi : ByteArray} {top : Bool} {lo' hi' : ByteArray} {top' : Bool} {s : ByteArray} (hx : holdsB lo hi top s = true) (hy : holdsB lo' hi' top' s = true) : sharesB lo hi top lo' hi' top' = true := by
  rw [share_over]
  simp only [overB, holdsB, Bool.and_eq_true, Bool.or_eq_true, Bool.not_eq_true'] at *
  obtain ⟨h1, h2⟩ := hx
  obtain ⟨h3, h4⟩ := hy
  have hL : lt s (smx lo lo') = false := by rw [smx_lt, h1, h3]; rfl
  exact ⟨h2.imp id fun h => le_lt hL h, h4.imp id fun h => le_lt hL h⟩
theorem may_one {s : ByteArray} (h : isB s = true) : mayB s (s ++ ⟨#[0]⟩) false = true := by
  have h1 := size_of h
  have h2 : (s ++ (⟨#[0]⟩ : ByteArray)).size = s.size + 1 := by simp; rfl
  unfold mayB
  rw [if_neg (by omega)]
  simp [lt_asym (lt_succ s)]
theorem one_over (s lo hi : ByteArray) (top : Bool) : sharesB s (s ++ ⟨#[0]⟩) false lo hi top = holdsB lo hi top s := by
  rw [share_over]
  unfold overB holdsB
  rcases smx_cases s lo with ⟨e, h⟩ | ⟨e, h⟩
  · rw [e, h, lt_next h]; simp
  · rw [e, h, lt_succ]; simp
theorem one_in {s lo hi : ByteArray} {top : Bool} (h : withinB s (s ++ ⟨#[0]⟩) false lo hi top = true) : holdsB lo hi top s = true :=
  within_holds h (by simp [holdsB, lt_irr, lt_succ])
end Go.Proofs.Ytjlaphnpajeoeaa.K
