/-
  No cell of these rows narrows 'for every input' (looked for: loops, veiled, ifaces, maps, wideKeys, modest, calm, conditions, laid).
  DERIVED. THE GIVEN ROWS OF THIS SEAT. 5 by the template 'for every input the law returns true; each argument reads behind the call as it read before'; 0 by the template 'total and deterministic' (their statements: YtjlaphnpajeoeaaTotals.lean).
  GIVEN WITH THE SEED: the statements are not yours to turn. If you find one false, say at which input.
  Laid BY PROGRAM, IN A SANDBOX (cutbox-rows.mjs): the forced cells as the released guide's own fill.sh prints them over the translation 753e0bbbe10fd7b7… (all of the seat's roots in one cut). By AI agents, Wed Nov 11 2026. No macro, syntax, notation, axiom, sorry.
-/
import Derived.Test.YtjlaphnpajeoeaaChecked
import GoSem.Claim
import GoSem.ClaimJoined
import GoSem.ClaimMapViews
import Derived.JoinedTies
import Derived.KernelRfl
namespace Go.Proofs.Ytjlaphnpajeoeaa
/- THE CELL 'sum', in the pinned program and in every row, IS THE sha256 OF THE DUMP (.gsa) THAT YtjlaphnpajeoeaaProg.lean LOADS. Nothing in Lean hashes anything: it is a label: what it is worth is what the hold of that sum in a sandbox is worth. -/
noncomputable def Try.pinned : Pinned := { name := "ytjlaphnpajeoeaa", sum := "753e0bbbe10fd7b724eecaa936be857be7a9887a483594f995bd0c5b5596f162", checked := Try.checked }
namespace Rows
def none {H : Type} : Left H := { results := [], args := [] }

/-- 'quorumlaw2.ModeLess': WHATEVER THE INPUT: true; the input reads as it did. -/
def modeLessSpec : ChangeSpec := { name := "modeLess", fn := fun _ => fun
  | [d] => { results := [.lit (.bool true)], args := [d] }
  | _ => none }
def modeLessRow : OpenClaim := { program := "ytjlaphnpajeoeaa", sum := "753e0bbbe10fd7b724eecaa936be857be7a9887a483594f995bd0c5b5596f162", func := "quorum/quorumlaw2.ModeLess", spec := "modeLess", apart := false }
def ModeLessSaid : Prop := modeLessRow.holds Try.pinned (OpenSpec.ofChange modeLessSpec)

/-- ITS FALSE NEIGHBOUR: 'it returns false'. Refute it at one input. -/
def modeLessWrong : ChangeSpec := { name := "modeLess", fn := fun _ => fun
  | [d] => { results := [.lit (.bool false)], args := [d] }
  | _ => none }
def ModeLessWrongFalsely : Prop := modeLessRow.holds Try.pinned (OpenSpec.ofChange modeLessWrong)

/-- 'quorumlaw1.KeyTells': WHATEVER THE INPUT: true; the input reads as it did. -/
def keyTellsSpec : ChangeSpec := { name := "keyTells", fn := fun _ => fun
  | [d] => { results := [.lit (.bool true)], args := [d] }
  | _ => none }
def keyTellsRow : OpenClaim := { program := "ytjlaphnpajeoeaa", sum := "753e0bbbe10fd7b724eecaa936be857be7a9887a483594f995bd0c5b5596f162", func := "quorum/quorumlaw1.KeyTells", spec := "keyTells", apart := false }
def KeyTellsSaid : Prop := keyTellsRow.holds Try.pinned (OpenSpec.ofChange keyTellsSpec)

/-- ITS FALSE NEIGHBOUR: 'it returns false'. Refute it at one input. -/
def keyTellsWrong : ChangeSpec := { name := "keyTells", fn := fun _ => fun
  | [d] => { results := [.lit (.bool false)], args := [d] }
  | _ => none }
def KeyTellsWrongFalsely : Prop := keyTellsRow.holds Try.pinned (OpenSpec.ofChange keyTellsWrong)

/-- 'quorumlaw1.KeyTops': WHATEVER THE INPUT: true; the input reads as it did. -/
def keyTopsSpec : ChangeSpec := { name := "keyTops", fn := fun _ => fun
  | [d] => { results := [.lit (.bool true)], args := [d] }
  | _ => none }
def keyTopsRow : OpenClaim := { program := "ytjlaphnpajeoeaa", sum := "753e0bbbe10fd7b724eecaa936be857be7a9887a483594f995bd0c5b5596f162", func := "quorum/quorumlaw1.KeyTops", spec := "keyTops", apart := false }
def KeyTopsSaid : Prop := keyTopsRow.holds Try.pinned (OpenSpec.ofChange keyTopsSpec)

/-- ITS FALSE NEIGHBOUR: 'it returns false'. Refute it at one input. -/
def keyTopsWrong : ChangeSpec := { name := "keyTops", fn := fun _ => fun
  | [d] => { results := [.lit (.bool false)], args := [d] }
  | _ => none }
def KeyTopsWrongFalsely : Prop := keyTopsRow.holds Try.pinned (OpenSpec.ofChange keyTopsWrong)

/-- 'quorumlaw1.KeyRanges': WHATEVER THE INPUT: true; the input reads as it did. -/
def keyRangesSpec : ChangeSpec := { name := "keyRanges", fn := fun _ => fun
  | [d] => { results := [.lit (.bool true)], args := [d] }
  | _ => none }
def keyRangesRow : OpenClaim := { program := "ytjlaphnpajeoeaa", sum := "753e0bbbe10fd7b724eecaa936be857be7a9887a483594f995bd0c5b5596f162", func := "quorum/quorumlaw1.KeyRanges", spec := "keyRanges", apart := false }
def KeyRangesSaid : Prop := keyRangesRow.holds Try.pinned (OpenSpec.ofChange keyRangesSpec)

/-- ITS FALSE NEIGHBOUR: 'it returns false'. Refute it at one input. -/
def keyRangesWrong : ChangeSpec := { name := "keyRanges", fn := fun _ => fun
  | [d] => { results := [.lit (.bool false)], args := [d] }
  | _ => none }
def KeyRangesWrongFalsely : Prop := keyRangesRow.holds Try.pinned (OpenSpec.ofChange keyRangesWrong)

/-- 'quorumlaw1.KeyBoth': WHATEVER THE INPUT: true; the input reads as it did. -/
def keyBothSpec : ChangeSpec := { name := "keyBoth", fn := fun _ => fun
  | [d] => { results := [.lit (.bool true)], args := [d] }
  | _ => none }
def keyBothRow : OpenClaim := { program := "ytjlaphnpajeoeaa", sum := "753e0bbbe10fd7b724eecaa936be857be7a9887a483594f995bd0c5b5596f162", func := "quorum/quorumlaw1.KeyBoth", spec := "keyBoth", apart := false }
def KeyBothSaid : Prop := keyBothRow.holds Try.pinned (OpenSpec.ofChange keyBothSpec)

/-- ITS FALSE NEIGHBOUR: 'it returns false'. Refute it at one input. -/
def keyBothWrong : ChangeSpec := { name := "keyBoth", fn := fun _ => fun
  | [d] => { results := [.lit (.bool false)], args := [d] }
  | _ => none }
def KeyBothWrongFalsely : Prop := keyBothRow.holds Try.pinned (OpenSpec.ofChange keyBothWrong)

/- THE SECOND FORM. 'bulk': how many values and letters a reading holds, each counted each time it is reached (what is shared counts as often as it is met; a slice's spare places count too). A statement '..UptoSaid' is the law's where the arguments, and the package variables that the reading takes, are together of bulk at most 1048576: NARROWER than '..Said'. Prove '..Said' where nothing that the law and all that it calls make is longer than what came in: it says more and counts as full. Else prove '..UptoSaid'. A law counts once. -/
mutual
def uptoBulk {H : Type} : DataW H → Nat
  | .lit (.string bytes) => bytes.length + 1
  | .lit _ => 1
  | .nil => 1
  | .ptr d => uptoBulk d + 1
  | .slice elems spare => uptoBulkAll elems + uptoBulkAll spare + 1
  | .agg parts => uptoBulkAll parts + 1
  | .iface _ d => uptoBulk d + 1
  | .map entries => uptoBulkEntries entries + 1
  | .held _ => 1
def uptoBulkAll {H : Type} : List (DataW H) → Nat
  | [] => 0
  | d :: r => uptoBulk d + uptoBulkAll r
def uptoBulkEntries {H : Type} : List (Lit × DataW H) → Nat
  | [] => 0
  | x :: r => uptoBulkEntry x + uptoBulkEntries r
def uptoBulkEntry {H : Type} : Lit × DataW H → Nat
  | (.string bytes, d) => bytes.length + uptoBulk d + 1
  | (_, d) => uptoBulk d + 1
 end
def uptoSmall : (H : Type) → List (DataW H) → Bool := fun _ ds => decide (uptoBulkAll ds ≤ 1048576)
def OpenSpec.upto (s : _root_.Go.ChangeSpec) : _root_.Go.OpenSpec := { _root_.Go.OpenSpec.ofChange s with cond := some uptoSmall }

/-- 'quorumlaw2.ModeLess', WHERE WHAT IT READS IS OF BULK AT MOST 1048576: true; the input reads as it did. -/
def modeLessUptoRow : OpenClaim := { program := "ytjlaphnpajeoeaa", sum := "753e0bbbe10fd7b724eecaa936be857be7a9887a483594f995bd0c5b5596f162", func := "quorum/quorumlaw2.ModeLess", spec := "modeLess", apart := false, narrowed := true }
def ModeLessUptoSaid : Prop := modeLessUptoRow.holds Try.pinned (OpenSpec.upto modeLessSpec)

/-- 'quorumlaw1.KeyTells', WHERE WHAT IT READS IS OF BULK AT MOST 1048576: true; the input reads as it did. -/
def keyTellsUptoRow : OpenClaim := { program := "ytjlaphnpajeoeaa", sum := "753e0bbbe10fd7b724eecaa936be857be7a9887a483594f995bd0c5b5596f162", func := "quorum/quorumlaw1.KeyTells", spec := "keyTells", apart := false, narrowed := true }
def KeyTellsUptoSaid : Prop := keyTellsUptoRow.holds Try.pinned (OpenSpec.upto keyTellsSpec)

/-- 'quorumlaw1.KeyTops', WHERE WHAT IT READS IS OF BULK AT MOST 1048576: true; the input reads as it did. -/
def keyTopsUptoRow : OpenClaim := { program := "ytjlaphnpajeoeaa", sum := "753e0bbbe10fd7b724eecaa936be857be7a9887a483594f995bd0c5b5596f162", func := "quorum/quorumlaw1.KeyTops", spec := "keyTops", apart := false, narrowed := true }
def KeyTopsUptoSaid : Prop := keyTopsUptoRow.holds Try.pinned (OpenSpec.upto keyTopsSpec)

/-- 'quorumlaw1.KeyRanges', WHERE WHAT IT READS IS OF BULK AT MOST 1048576: true; the input reads as it did. -/
def keyRangesUptoRow : OpenClaim := { program := "ytjlaphnpajeoeaa", sum := "753e0bbbe10fd7b724eecaa936be857be7a9887a483594f995bd0c5b5596f162", func := "quorum/quorumlaw1.KeyRanges", spec := "keyRanges", apart := false, narrowed := true }
def KeyRangesUptoSaid : Prop := keyRangesUptoRow.holds Try.pinned (OpenSpec.upto keyRangesSpec)

/-- 'quorumlaw1.KeyBoth', WHERE WHAT IT READS IS OF BULK AT MOST 1048576: true; the input reads as it did. -/
def keyBothUptoRow : OpenClaim := { program := "ytjlaphnpajeoeaa", sum := "753e0bbbe10fd7b724eecaa936be857be7a9887a483594f995bd0c5b5596f162", func := "quorum/quorumlaw1.KeyBoth", spec := "keyBoth", apart := false, narrowed := true }
def KeyBothUptoSaid : Prop := keyBothUptoRow.holds Try.pinned (OpenSpec.upto keyBothSpec)

end Rows
end Go.Proofs.Ytjlaphnpajeoeaa
