/-
  No cell of these rows narrows 'for every input' (looked for: loops, veiled, ifaces, maps, wideKeys, modest, calm, conditions, laid).
  DERIVED. THE GIVEN ROWS OF THIS SEAT. 3 by the template 'for every input the law returns true; each argument reads behind the call as it read before'; 0 by the template 'total and deterministic' (their statements: YtmokjaelgfikeaaTotals.lean).
  GIVEN WITH THE SEED: the statements are not yours to turn. If you find one false, say at which input.
  Laid BY PROGRAM, IN A SANDBOX (cutbox-rows.mjs): the forced cells as the released guide's own fill.sh prints them over the translation b608146ca88d10a0… (all of the seat's roots in one cut). By AI agents, Wed Nov 11 2026. No macro, syntax, notation, axiom, sorry.
-/
import Derived.Test.YtmokjaelgfikeaaChecked
import GoSem.Claim
import GoSem.ClaimJoined
import GoSem.ClaimMapViews
import Derived.JoinedTies
import Derived.KernelRfl
namespace Go.Proofs.Ytmokjaelgfikeaa
/- THE CELL 'sum', in the pinned program and in every row, IS THE sha256 OF THE DUMP (.gsa) THAT YtmokjaelgfikeaaProg.lean LOADS. Nothing in Lean hashes anything: it is a label: what it is worth is what the hold of that sum in a sandbox is worth. -/
noncomputable def Try.pinned : Pinned := { name := "ytmokjaelgfikeaa", sum := "b608146ca88d10a07e3881caf577822796910abc50431f604207f57e3e9e3723", checked := Try.checked }
namespace Rows
def none {H : Type} : Left H := { results := [], args := [] }

/-- 'quorumlaw4.WaitEnds': WHATEVER THE INPUT: true; the input reads as it did. -/
def waitEndsSpec : ChangeSpec := { name := "waitEnds", fn := fun _ => fun
  | [d] => { results := [.lit (.bool true)], args := [d] }
  | _ => none }
def waitEndsRow : OpenClaim := { program := "ytmokjaelgfikeaa", sum := "b608146ca88d10a07e3881caf577822796910abc50431f604207f57e3e9e3723", func := "quorum/quorumlaw4.WaitEnds", spec := "waitEnds", unfollowed := true, recurses := true, apart := false }
def WaitEndsSaid : Prop := waitEndsRow.holds Try.pinned (OpenSpec.ofChange waitEndsSpec)

/-- ITS FALSE NEIGHBOUR: 'it returns false'. Refute it at one input. -/
def waitEndsWrong : ChangeSpec := { name := "waitEnds", fn := fun _ => fun
  | [d] => { results := [.lit (.bool false)], args := [d] }
  | _ => none }
def WaitEndsWrongFalsely : Prop := waitEndsRow.holds Try.pinned (OpenSpec.ofChange waitEndsWrong)

/-- 'quorumlaw4.WaitRings': WHATEVER THE INPUT: true; the input reads as it did. -/
def waitRingsSpec : ChangeSpec := { name := "waitRings", fn := fun _ => fun
  | [d] => { results := [.lit (.bool true)], args := [d] }
  | _ => none }
def waitRingsRow : OpenClaim := { program := "ytmokjaelgfikeaa", sum := "b608146ca88d10a07e3881caf577822796910abc50431f604207f57e3e9e3723", func := "quorum/quorumlaw4.WaitRings", spec := "waitRings", unfollowed := true, recurses := true, apart := false }
def WaitRingsSaid : Prop := waitRingsRow.holds Try.pinned (OpenSpec.ofChange waitRingsSpec)

/-- ITS FALSE NEIGHBOUR: 'it returns false'. Refute it at one input. -/
def waitRingsWrong : ChangeSpec := { name := "waitRings", fn := fun _ => fun
  | [d] => { results := [.lit (.bool false)], args := [d] }
  | _ => none }
def WaitRingsWrongFalsely : Prop := waitRingsRow.holds Try.pinned (OpenSpec.ofChange waitRingsWrong)

/-- 'quorumlaw4.WaitRows': WHATEVER THE INPUT: true; the input reads as it did. -/
def waitRowsSpec : ChangeSpec := { name := "waitRows", fn := fun _ => fun
  | [d] => { results := [.lit (.bool true)], args := [d] }
  | _ => none }
def waitRowsRow : OpenClaim := { program := "ytmokjaelgfikeaa", sum := "b608146ca88d10a07e3881caf577822796910abc50431f604207f57e3e9e3723", func := "quorum/quorumlaw4.WaitRows", spec := "waitRows", unfollowed := true, recurses := true, apart := false }
def WaitRowsSaid : Prop := waitRowsRow.holds Try.pinned (OpenSpec.ofChange waitRowsSpec)

/-- ITS FALSE NEIGHBOUR: 'it returns false'. Refute it at one input. -/
def waitRowsWrong : ChangeSpec := { name := "waitRows", fn := fun _ => fun
  | [d] => { results := [.lit (.bool false)], args := [d] }
  | _ => none }
def WaitRowsWrongFalsely : Prop := waitRowsRow.holds Try.pinned (OpenSpec.ofChange waitRowsWrong)

/- THE SECOND FORM. 'bulk': how many values and letters a reading holds, each counted each time it is reached (what is shared counts as often as it is met; a slice's spare places count too). A statement '..UptoSaid' is the law's where the arguments, and the package variables that the reading takes, are together of bulk at most 1048576: NARROWER than '..Said'. Prove '..Said' where nothing that the law and all that it calls make is longer than what came in: it says more and counts as full. Else prove '..UptoSaid'. A law counts once. -/
mutual
def uptoBulk {H : Type} : DataW H → Nat
  | .lit (.string bytes) => bytes.length + 1
  | .lit _ => 1
  | .nil => 1
  | .ptr d => uptoBulk d + 1
  | .slice elems spare => uptoBulkAll elems + uptoBulkAll spare + 1
  | .agg parts => uptoBulkAll parts + 1
  | .iface _ d => uptoBulk d + 1
  | .map entries => uptoBulkEntries entries + 1
  | .held _ => 1
def uptoBulkAll {H : Type} : List (DataW H) → Nat
  | [] => 0
  | d :: r => uptoBulk d + uptoBulkAll r
def uptoBulkEntries {H : Type} : List (Lit × DataW H) → Nat
  | [] => 0
  | x :: r => uptoBulkEntry x + uptoBulkEntries r
def uptoBulkEntry {H : Type} : Lit × DataW H → Nat
  | (.string bytes, d) => bytes.length + uptoBulk d + 1
  | (_, d) => uptoBulk d + 1
 end
def uptoSmall : (H : Type) → List (DataW H) → Bool := fun _ ds => decide (uptoBulkAll ds ≤ 1048576)
def OpenSpec.upto (s : _root_.Go.ChangeSpec) : _root_.Go.OpenSpec := { _root_.Go.OpenSpec.ofChange s with cond := some uptoSmall }

/-- 'quorumlaw4.WaitEnds', WHERE WHAT IT READS IS OF BULK AT MOST 1048576: true; the input reads as it did. -/
def waitEndsUptoRow : OpenClaim := { program := "ytmokjaelgfikeaa", sum := "b608146ca88d10a07e3881caf577822796910abc50431f604207f57e3e9e3723", func := "quorum/quorumlaw4.WaitEnds", spec := "waitEnds", unfollowed := true, recurses := true, apart := false, narrowed := true }
def WaitEndsUptoSaid : Prop := waitEndsUptoRow.holds Try.pinned (OpenSpec.upto waitEndsSpec)

/-- 'quorumlaw4.WaitRings', WHERE WHAT IT READS IS OF BULK AT MOST 1048576: true; the input reads as it did. -/
def waitRingsUptoRow : OpenClaim := { program := "ytmokjaelgfikeaa", sum := "b608146ca88d10a07e3881caf577822796910abc50431f604207f57e3e9e3723", func := "quorum/quorumlaw4.WaitRings", spec := "waitRings", unfollowed := true, recurses := true, apart := false, narrowed := true }
def WaitRingsUptoSaid : Prop := waitRingsUptoRow.holds Try.pinned (OpenSpec.upto waitRingsSpec)

/-- 'quorumlaw4.WaitRows', WHERE WHAT IT READS IS OF BULK AT MOST 1048576: true; the input reads as it did. -/
def waitRowsUptoRow : OpenClaim := { program := "ytmokjaelgfikeaa", sum := "b608146ca88d10a07e3881caf577822796910abc50431f604207f57e3e9e3723", func := "quorum/quorumlaw4.WaitRows", spec := "waitRows", unfollowed := true, recurses := true, apart := false, narrowed := true }
def WaitRowsUptoSaid : Prop := waitRowsUptoRow.holds Try.pinned (OpenSpec.upto waitRowsSpec)

end Rows
end Go.Proofs.Ytmokjaelgfikeaa
