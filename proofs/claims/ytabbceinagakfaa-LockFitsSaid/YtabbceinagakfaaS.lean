/- This session's own words beside the print's: Go's <=, >, >=, min and max of strings as the printed functions spell them. -/
import Derived.WalkKit
import Derived.Tactics
namespace Go.Proofs.YtabbceinagakfaaS

/-- Go's max(x, y) at strings. -/
def smx (x y : ByteArray) : ByteArray := if Op.bytesLess x.toList y.toList = true then y else x
/-- Go's min(x, y) at strings. -/
def smn (x y : ByteArray) : ByteArray := if Op.bytesLess y.toList x.toList = true then y else x

/-- The model's '<' on strings is the lexical order of the bytes' lists. -/
theorem bl_eq : ∀ (x y : List UInt8), Op.bytesLess x y = decide (x < y)
  | [], [] => by simp [Op.bytesLess]
  | _ :: _, [] => by simp [Op.bytesLess]
  | [], _ :: _ => by simp [Op.bytesLess]
  | a :: x, b :: y => by
    rw [Op.bytesLess, bl_eq x y]
    simp only [List.cons_lt_cons_iff]
    by_cases h1 : a < b <;> by_cases h2 : a = b <;> by_cases h3 : x < y <;> simp [h1, h2, h3]
theorem less_or (a b : List UInt8) : (Op.bytesLess a b || a == b) = !(Op.bytesLess b a) := by
  rw [bl_eq, bl_eq]
  by_cases h : a < b
  · have h' : ¬ b < a := fun h2 => List.lt_irrefl a (List.lt_trans h h2)
    simp [h, h']
  · by_cases h2 : b < a
    · have h3 : a ≠ b := fun e => List.lt_irrefl a (e ▸ h2)
      simp [h, h2, h3]
    · have h3 : a = b := List.le_antisymm (List.not_lt.mp h2) (List.not_lt.mp h)
      simp [h3]

theorem s_geq (t : TypeId) (a b : ByteArray) : binOp .geq t (.string a) (.string b) = pure (.bool !(Op.bytesLess a.toList b.toList)) := by simp [binOp, Op.stringOp]
theorem s_leq (t : TypeId) (a b : ByteArray) : binOp .leq t (.string a) (.string b) = pure (.bool !(Op.bytesLess b.toList a.toList)) := by
  rw [← less_or]; simp [binOp, Op.stringOp]
theorem s_gtr (t : TypeId) (a b : ByteArray) : binOp .gtr t (.string a) (.string b) = pure (.bool (Op.bytesLess b.toList a.toList)) := by
  have h := less_or a.toList b.toList
  have h' : (Op.bytesLess b.toList a.toList) = !(Op.bytesLess a.toList b.toList || a.toList == b.toList) := by rw [h]; simp
  rw [h']; simp [binOp, Op.stringOp]

theorem s_max (x y : ByteArray) : Builtin.max2 (.string x) (.string y) = pure (.string (smx x y)) := by
  cases h : Op.bytesLess x.toList y.toList <;> simp [Builtin.max2, Op.stringOp, asBool, smx, h]

theorem s_min (x y : ByteArray) : Builtin.min2 (.string x) (.string y) = pure (.string (smn x y)) := by
  have h' := less_or x.toList y.toList
  cases h : Op.bytesLess y.toList x.toList <;> rw [h] at h' <;> simp [Builtin.min2, Op.stringOp, asBool, smn, h, h']

theorem s_maxr {P : Program} (w : World) (ts : Array TypeId) (t : TypeId) (x y : ByteArray) : (Builtin.max_ ts t #[.string x, .string y]).run P w = .ok (.string (smx x y)) w := by
  simp [Builtin.max_, s_max]
theorem s_minr {P : Program} (w : World) (ts : Array TypeId) (t : TypeId) (x y : ByteArray) : (Builtin.min_ ts t #[.string x, .string y]).run P w = .ok (.string (smn x y)) w := by
  simp [Builtin.min_, s_min]

end Go.Proofs.YtabbceinagakfaaS
