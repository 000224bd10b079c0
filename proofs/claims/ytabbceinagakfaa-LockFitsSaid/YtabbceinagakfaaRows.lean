/-
  No cell of these rows narrows 'for every input' (looked for: loops, veiled, ifaces, maps, wideKeys, modest, calm, conditions, laid).
  DERIVED. THE GIVEN ROWS OF THIS SEAT. 5 by the template 'for every input the law returns true; each argument reads behind the call as it read before'; 0 by the template 'total and deterministic' (their statements: YtabbceinagakfaaTotals.lean).
  GIVEN WITH THE SEED: the statements are not yours to turn. If you find one false, say at which input.
  Laid BY PROGRAM, IN A SANDBOX (cutbox-rows.mjs): the forced cells as the released guide's own fill.sh prints them over the translation 74c44817a6cba6af… (all of the seat's roots in one cut). By AI agents, Wed Nov 11 2026. No macro, syntax, notation, axiom, sorry.
-/
import Derived.Test.YtabbceinagakfaaChecked
import GoSem.Claim
import GoSem.ClaimJoined
import GoSem.ClaimMapViews
import Derived.JoinedTies
import Derived.KernelRfl
namespace Go.Proofs.Ytabbceinagakfaa
/- THE CELL 'sum', in the pinned program and in every row, IS THE sha256 OF THE DUMP (.gsa) THAT YtabbceinagakfaaProg.lean LOADS. Nothing in Lean hashes anything: it is a label: what it is worth is what the hold of that sum in a sandbox is worth. -/
noncomputable def Try.pinned : Pinned := { name := "ytabbceinagakfaa", sum := "74c44817a6cba6af4d032eb8c704ef04f0410100b64d84d0c9905dde7182fbef", checked := Try.checked }
namespace Rows
def none {H : Type} : Left H := { results := [], args := [] }

/-- 'quorumlaw3.LockFits': WHATEVER THE INPUT: true; the input reads as it did. -/
def lockFitsSpec : ChangeSpec := { name := "lockFits", fn := fun _ => fun
  | [d] => { results := [.lit (.bool true)], args := [d] }
  | _ => none }
def lockFitsRow : OpenClaim := { program := "ytabbceinagakfaa", sum := "74c44817a6cba6af4d032eb8c704ef04f0410100b64d84d0c9905dde7182fbef", func := "quorum/quorumlaw3.LockFits", spec := "lockFits", unfollowed := true, recurses := true, apart := false }
def LockFitsSaid : Prop := lockFitsRow.holds Try.pinned (OpenSpec.ofChange lockFitsSpec)

/-- ITS FALSE NEIGHBOUR: 'it returns false'. Refute it at one input. -/
def lockFitsWrong : ChangeSpec := { name := "lockFits", fn := fun _ => fun
  | [d] => { results := [.lit (.bool false)], args := [d] }
  | _ => none }
def LockFitsWrongFalsely : Prop := lockFitsRow.holds Try.pinned (OpenSpec.ofChange lockFitsWrong)

/-- 'quorumlaw3.LockExact': WHATEVER THE INPUT: true; the input reads as it did. -/
def lockExactSpec : ChangeSpec := { name := "lockExact", fn := fun _ => fun
  | [d] => { results := [.lit (.bool true)], args := [d] }
  | _ => none }
def lockExactRow : OpenClaim := { program := "ytabbceinagakfaa", sum := "74c44817a6cba6af4d032eb8c704ef04f0410100b64d84d0c9905dde7182fbef", func := "quorum/quorumlaw3.LockExact", spec := "lockExact", unfollowed := true, recurses := true, apart := false }
def LockExactSaid : Prop := lockExactRow.holds Try.pinned (OpenSpec.ofChange lockExactSpec)

/-- ITS FALSE NEIGHBOUR: 'it returns false'. Refute it at one input. -/
def lockExactWrong : ChangeSpec := { name := "lockExact", fn := fun _ => fun
  | [d] => { results := [.lit (.bool false)], args := [d] }
  | _ => none }
def LockExactWrongFalsely : Prop := lockExactRow.holds Try.pinned (OpenSpec.ofChange lockExactWrong)

/-- 'quorumlaw3.LockFrees': WHATEVER THE INPUT: true; the input reads as it did. -/
def lockFreesSpec : ChangeSpec := { name := "lockFrees", fn := fun _ => fun
  | [d] => { results := [.lit (.bool true)], args := [d] }
  | _ => none }
def lockFreesRow : OpenClaim := { program := "ytabbceinagakfaa", sum := "74c44817a6cba6af4d032eb8c704ef04f0410100b64d84d0c9905dde7182fbef", func := "quorum/quorumlaw3.LockFrees", spec := "lockFrees", unfollowed := true, recurses := true, apart := false }
def LockFreesSaid : Prop := lockFreesRow.holds Try.pinned (OpenSpec.ofChange lockFreesSpec)

/-- ITS FALSE NEIGHBOUR: 'it returns false'. Refute it at one input. -/
def lockFreesWrong : ChangeSpec := { name := "lockFrees", fn := fun _ => fun
  | [d] => { results := [.lit (.bool false)], args := [d] }
  | _ => none }
def LockFreesWrongFalsely : Prop := lockFreesRow.holds Try.pinned (OpenSpec.ofChange lockFreesWrong)

/-- 'quorumlaw3.LockBlocks': WHATEVER THE INPUT: true; the input reads as it did. -/
def lockBlocksSpec : ChangeSpec := { name := "lockBlocks", fn := fun _ => fun
  | [d] => { results := [.lit (.bool true)], args := [d] }
  | _ => none }
def lockBlocksRow : OpenClaim := { program := "ytabbceinagakfaa", sum := "74c44817a6cba6af4d032eb8c704ef04f0410100b64d84d0c9905dde7182fbef", func := "quorum/quorumlaw3.LockBlocks", spec := "lockBlocks", unfollowed := true, recurses := true, apart := false }
def LockBlocksSaid : Prop := lockBlocksRow.holds Try.pinned (OpenSpec.ofChange lockBlocksSpec)

/-- ITS FALSE NEIGHBOUR: 'it returns false'. Refute it at one input. -/
def lockBlocksWrong : ChangeSpec := { name := "lockBlocks", fn := fun _ => fun
  | [d] => { results := [.lit (.bool false)], args := [d] }
  | _ => none }
def LockBlocksWrongFalsely : Prop := lockBlocksRow.holds Try.pinned (OpenSpec.ofChange lockBlocksWrong)

/-- 'quorumlaw3.LockCovers': WHATEVER THE INPUT: true; the input reads as it did. -/
def lockCoversSpec : ChangeSpec := { name := "lockCovers", fn := fun _ => fun
  | [d] => { results := [.lit (.bool true)], args := [d] }
  | _ => none }
def lockCoversRow : OpenClaim := { program := "ytabbceinagakfaa", sum := "74c44817a6cba6af4d032eb8c704ef04f0410100b64d84d0c9905dde7182fbef", func := "quorum/quorumlaw3.LockCovers", spec := "lockCovers", unfollowed := true, recurses := true, apart := false }
def LockCoversSaid : Prop := lockCoversRow.holds Try.pinned (OpenSpec.ofChange lockCoversSpec)

/-- ITS FALSE NEIGHBOUR: 'it returns false'. Refute it at one input. -/
def lockCoversWrong : ChangeSpec := { name := "lockCovers", fn := fun _ => fun
  | [d] => { results := [.lit (.bool false)], args := [d] }
  | _ => none }
def LockCoversWrongFalsely : Prop := lockCoversRow.holds Try.pinned (OpenSpec.ofChange lockCoversWrong)

/- THE SECOND FORM. 'bulk': how many values and letters a reading holds, each counted each time it is reached (what is shared counts as often as it is met; a slice's spare places count too). A statement '..UptoSaid' is the law's where the arguments, and the package variables that the reading takes, are together of bulk at most 1048576: NARROWER than '..Said'. Prove '..Said' where nothing that the law and all that it calls make is longer than what came in: it says more and counts as full. Else prove '..UptoSaid'. A law counts once. -/
mutual
def uptoBulk {H : Type} : DataW H → Nat
  | .lit (.string bytes) => bytes.length + 1
  | .lit _ => 1
  | .nil => 1
  | .ptr d => uptoBulk d + 1
  | .slice elems spare => uptoBulkAll elems + uptoBulkAll spare + 1
  | .agg parts => uptoBulkAll parts + 1
  | .iface _ d => uptoBulk d + 1
  | .map entries => uptoBulkEntries entries + 1
  | .held _ => 1
def uptoBulkAll {H : Type} : List (DataW H) → Nat
  | [] => 0
  | d :: r => uptoBulk d + uptoBulkAll r
def uptoBulkEntries {H : Type} : List (Lit × DataW H) → Nat
  | [] => 0
  | x :: r => uptoBulkEntry x + uptoBulkEntries r
def uptoBulkEntry {H : Type} : Lit × DataW H → Nat
  | (.string bytes, d) => bytes.length + uptoBulk d + 1
  | (_, d) => uptoBulk d + 1
 end
def uptoSmall : (H : Type) → List (DataW H) → Bool := fun _ ds => decide (uptoBulkAll ds ≤ 1048576)
def OpenSpec.upto (s : _root_.Go.ChangeSpec) : _root_.Go.OpenSpec := { _root_.Go.OpenSpec.ofChange s with cond := some uptoSmall }

/-- 'quorumlaw3.LockFits', WHERE WHAT IT READS IS OF BULK AT MOST 1048576: true; the input reads as it did. -/
def lockFitsUptoRow : OpenClaim := { program := "ytabbceinagakfaa", sum := "74c44817a6cba6af4d032eb8c704ef04f0410100b64d84d0c9905dde7182fbef", func := "quorum/quorumlaw3.LockFits", spec := "lockFits", unfollowed := true, recurses := true, apart := false, narrowed := true }
def LockFitsUptoSaid : Prop := lockFitsUptoRow.holds Try.pinned (OpenSpec.upto lockFitsSpec)

/-- 'quorumlaw3.LockExact', WHERE WHAT IT READS IS OF BULK AT MOST 1048576: true; the input reads as it did. -/
def lockExactUptoRow : OpenClaim := { program := "ytabbceinagakfaa", sum := "74c44817a6cba6af4d032eb8c704ef04f0410100b64d84d0c9905dde7182fbef", func := "quorum/quorumlaw3.LockExact", spec := "lockExact", unfollowed := true, recurses := true, apart := false, narrowed := true }
def LockExactUptoSaid : Prop := lockExactUptoRow.holds Try.pinned (OpenSpec.upto lockExactSpec)

/-- 'quorumlaw3.LockFrees', WHERE WHAT IT READS IS OF BULK AT MOST 1048576: true; the input reads as it did. -/
def lockFreesUptoRow : OpenClaim := { program := "ytabbceinagakfaa", sum := "74c44817a6cba6af4d032eb8c704ef04f0410100b64d84d0c9905dde7182fbef", func := "quorum/quorumlaw3.LockFrees", spec := "lockFrees", unfollowed := true, recurses := true, apart := false, narrowed := true }
def LockFreesUptoSaid : Prop := lockFreesUptoRow.holds Try.pinned (OpenSpec.upto lockFreesSpec)

/-- 'quorumlaw3.LockBlocks', WHERE WHAT IT READS IS OF BULK AT MOST 1048576: true; the input reads as it did. -/
def lockBlocksUptoRow : OpenClaim := { program := "ytabbceinagakfaa", sum := "74c44817a6cba6af4d032eb8c704ef04f0410100b64d84d0c9905dde7182fbef", func := "quorum/quorumlaw3.LockBlocks", spec := "lockBlocks", unfollowed := true, recurses := true, apart := false, narrowed := true }
def LockBlocksUptoSaid : Prop := lockBlocksUptoRow.holds Try.pinned (OpenSpec.upto lockBlocksSpec)

/-- 'quorumlaw3.LockCovers', WHERE WHAT IT READS IS OF BULK AT MOST 1048576: true; the input reads as it did. -/
def lockCoversUptoRow : OpenClaim := { program := "ytabbceinagakfaa", sum := "74c44817a6cba6af4d032eb8c704ef04f0410100b64d84d0c9905dde7182fbef", func := "quorum/quorumlaw3.LockCovers", spec := "lockCovers", unfollowed := true, recurses := true, apart := false, narrowed := true }
def LockCoversUptoSaid : Prop := lockCoversUptoRow.holds Try.pinned (OpenSpec.upto lockCoversSpec)

end Rows
end Go.Proofs.Ytabbceinagakfaa
