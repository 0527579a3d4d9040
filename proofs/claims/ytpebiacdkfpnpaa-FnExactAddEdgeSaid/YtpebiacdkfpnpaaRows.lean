/-
  No cell of these rows narrows 'for every input' (looked for: loops, veiled, ifaces, maps, wideKeys, modest, calm, conditions, laid).
  DERIVED. THE GIVEN ROWS OF THIS SEAT. 7 by the template 'for every input the law returns true; each argument reads behind the call as it read before'; 0 by the template 'total and deterministic' (their statements: YtpebiacdkfpnpaaTotals.lean).
  GIVEN WITH THE SEED: the statements are not yours to turn. If you find one false, say at which input.
  Laid BY PROGRAM, IN A SANDBOX (cutbox-rows.mjs): the forced cells as the released guide's own fill.sh prints them over the translation c7a6c5491e5f6b70… (all of the seat's roots in one cut). By AI agents, Wed Nov 11 2026. No macro, syntax, notation, axiom, sorry.
-/
import Derived.Test.YtpebiacdkfpnpaaChecked
import GoSem.Claim
import GoSem.ClaimJoined
import GoSem.ClaimMapViews
import Derived.JoinedTies
import Derived.KernelRfl
namespace Go.Proofs.Ytpebiacdkfpnpaa
/- THE CELL 'sum', in the pinned program and in every row, IS THE sha256 OF THE DUMP (.gsa) THAT YtpebiacdkfpnpaaProg.lean LOADS. Nothing in Lean hashes anything: it is a label: what it is worth is what the hold of that sum in a sandbox is worth. -/
noncomputable def Try.pinned : Pinned := { name := "ytpebiacdkfpnpaa", sum := "c7a6c5491e5f6b703663d80167129f889cf1573bace6d6be1e44627f14a1a2df", checked := Try.checked }
namespace Rows
def none {H : Type} : Left H := { results := [], args := [] }

/-- 'laws.FnExactNextVertex': WHATEVER THE INPUT: true; the input reads as it did. -/
def fnExactNextVertexSpec : ChangeSpec := { name := "fnExactNextVertex", fn := fun _ => fun
  | [d1, d2, d3] => { results := [.lit (.bool true)], args := [d1, d2, d3] }
  | _ => none }
def fnExactNextVertexRow : OpenClaim := { program := "ytpebiacdkfpnpaa", sum := "c7a6c5491e5f6b703663d80167129f889cf1573bace6d6be1e44627f14a1a2df", func := "loop.example/g02075/laws.FnExactNextVertex", spec := "fnExactNextVertex", recurses := true, apart := false }
def FnExactNextVertexSaid : Prop := fnExactNextVertexRow.holds Try.pinned (OpenSpec.ofChange fnExactNextVertexSpec)

/-- ITS FALSE NEIGHBOUR: 'it returns false'. Refute it at one input. -/
def fnExactNextVertexWrong : ChangeSpec := { name := "fnExactNextVertex", fn := fun _ => fun
  | [d1, d2, d3] => { results := [.lit (.bool false)], args := [d1, d2, d3] }
  | _ => none }
def FnExactNextVertexWrongFalsely : Prop := fnExactNextVertexRow.holds Try.pinned (OpenSpec.ofChange fnExactNextVertexWrong)

/-- 'laws.FnExactStepsFrom': WHATEVER THE INPUT: true; the input reads as it did. -/
def fnExactStepsFromSpec : ChangeSpec := { name := "fnExactStepsFrom", fn := fun _ => fun
  | [d1, d2, d3] => { results := [.lit (.bool true)], args := [d1, d2, d3] }
  | _ => none }
def fnExactStepsFromRow : OpenClaim := { program := "ytpebiacdkfpnpaa", sum := "c7a6c5491e5f6b703663d80167129f889cf1573bace6d6be1e44627f14a1a2df", func := "loop.example/g02075/laws.FnExactStepsFrom", spec := "fnExactStepsFrom", recurses := true, apart := false }
def FnExactStepsFromSaid : Prop := fnExactStepsFromRow.holds Try.pinned (OpenSpec.ofChange fnExactStepsFromSpec)

/-- ITS FALSE NEIGHBOUR: 'it returns false'. Refute it at one input. -/
def fnExactStepsFromWrong : ChangeSpec := { name := "fnExactStepsFrom", fn := fun _ => fun
  | [d1, d2, d3] => { results := [.lit (.bool false)], args := [d1, d2, d3] }
  | _ => none }
def FnExactStepsFromWrongFalsely : Prop := fnExactStepsFromRow.holds Try.pinned (OpenSpec.ofChange fnExactStepsFromWrong)

/-- 'laws.FnExactAddEdge': WHATEVER THE INPUT: true; the input reads as it did. -/
def fnExactAddEdgeSpec : ChangeSpec := { name := "fnExactAddEdge", fn := fun _ => fun
  | [d1, d2] => { results := [.lit (.bool true)], args := [d1, d2] }
  | _ => none }
def fnExactAddEdgeRow : OpenClaim := { program := "ytpebiacdkfpnpaa", sum := "c7a6c5491e5f6b703663d80167129f889cf1573bace6d6be1e44627f14a1a2df", func := "loop.example/g02075/laws.FnExactAddEdge", spec := "fnExactAddEdge", unfollowed := true, recurses := true, apart := false }
def FnExactAddEdgeSaid : Prop := fnExactAddEdgeRow.holds Try.pinned (OpenSpec.ofChange fnExactAddEdgeSpec)

/-- ITS FALSE NEIGHBOUR: 'it returns false'. Refute it at one input. -/
def fnExactAddEdgeWrong : ChangeSpec := { name := "fnExactAddEdge", fn := fun _ => fun
  | [d1, d2] => { results := [.lit (.bool false)], args := [d1, d2] }
  | _ => none }
def FnExactAddEdgeWrongFalsely : Prop := fnExactAddEdgeRow.holds Try.pinned (OpenSpec.ofChange fnExactAddEdgeWrong)

/-- 'laws.FnExactReadLength': WHATEVER THE INPUT: true; the input reads as it did. -/
def fnExactReadLengthSpec : ChangeSpec := { name := "fnExactReadLength", fn := fun _ => fun
  | [d1, d2, d3] => { results := [.lit (.bool true)], args := [d1, d2, d3] }
  | _ => none }
def fnExactReadLengthRow : OpenClaim := { program := "ytpebiacdkfpnpaa", sum := "c7a6c5491e5f6b703663d80167129f889cf1573bace6d6be1e44627f14a1a2df", func := "loop.example/g02075/laws.FnExactReadLength", spec := "fnExactReadLength", recurses := true, apart := false }
def FnExactReadLengthSaid : Prop := fnExactReadLengthRow.holds Try.pinned (OpenSpec.ofChange fnExactReadLengthSpec)

/-- ITS FALSE NEIGHBOUR: 'it returns false'. Refute it at one input. -/
def fnExactReadLengthWrong : ChangeSpec := { name := "fnExactReadLength", fn := fun _ => fun
  | [d1, d2, d3] => { results := [.lit (.bool false)], args := [d1, d2, d3] }
  | _ => none }
def FnExactReadLengthWrongFalsely : Prop := fnExactReadLengthRow.holds Try.pinned (OpenSpec.ofChange fnExactReadLengthWrong)

/-- 'laws.FnExactWalkWord': WHATEVER THE INPUT: true; the input reads as it did. -/
def fnExactWalkWordSpec : ChangeSpec := { name := "fnExactWalkWord", fn := fun _ => fun
  | [d1, d2, d3] => { results := [.lit (.bool true)], args := [d1, d2, d3] }
  | _ => none }
def fnExactWalkWordRow : OpenClaim := { program := "ytpebiacdkfpnpaa", sum := "c7a6c5491e5f6b703663d80167129f889cf1573bace6d6be1e44627f14a1a2df", func := "loop.example/g02075/laws.FnExactWalkWord", spec := "fnExactWalkWord", recurses := true, apart := false }
def FnExactWalkWordSaid : Prop := fnExactWalkWordRow.holds Try.pinned (OpenSpec.ofChange fnExactWalkWordSpec)

/-- ITS FALSE NEIGHBOUR: 'it returns false'. Refute it at one input. -/
def fnExactWalkWordWrong : ChangeSpec := { name := "fnExactWalkWord", fn := fun _ => fun
  | [d1, d2, d3] => { results := [.lit (.bool false)], args := [d1, d2, d3] }
  | _ => none }
def FnExactWalkWordWrongFalsely : Prop := fnExactWalkWordRow.holds Try.pinned (OpenSpec.ofChange fnExactWalkWordWrong)

/-- 'laws.FnExactPathWord': WHATEVER THE INPUT: true; the input reads as it did. -/
def fnExactPathWordSpec : ChangeSpec := { name := "fnExactPathWord", fn := fun _ => fun
  | [d1, d2, d3] => { results := [.lit (.bool true)], args := [d1, d2, d3] }
  | _ => none }
def fnExactPathWordRow : OpenClaim := { program := "ytpebiacdkfpnpaa", sum := "c7a6c5491e5f6b703663d80167129f889cf1573bace6d6be1e44627f14a1a2df", func := "loop.example/g02075/laws.FnExactPathWord", spec := "fnExactPathWord", recurses := true, apart := false }
def FnExactPathWordSaid : Prop := fnExactPathWordRow.holds Try.pinned (OpenSpec.ofChange fnExactPathWordSpec)

/-- ITS FALSE NEIGHBOUR: 'it returns false'. Refute it at one input. -/
def fnExactPathWordWrong : ChangeSpec := { name := "fnExactPathWord", fn := fun _ => fun
  | [d1, d2, d3] => { results := [.lit (.bool false)], args := [d1, d2, d3] }
  | _ => none }
def FnExactPathWordWrongFalsely : Prop := fnExactPathWordRow.holds Try.pinned (OpenSpec.ofChange fnExactPathWordWrong)

/-- 'laws.FnExactLoopWords': WHATEVER THE INPUT: true; the input reads as it did. -/
def fnExactLoopWordsSpec : ChangeSpec := { name := "fnExactLoopWords", fn := fun _ => fun
  | [d1, d2, d3] => { results := [.lit (.bool true)], args := [d1, d2, d3] }
  | _ => none }
def fnExactLoopWordsRow : OpenClaim := { program := "ytpebiacdkfpnpaa", sum := "c7a6c5491e5f6b703663d80167129f889cf1573bace6d6be1e44627f14a1a2df", func := "loop.example/g02075/laws.FnExactLoopWords", spec := "fnExactLoopWords", recurses := true, apart := false }
def FnExactLoopWordsSaid : Prop := fnExactLoopWordsRow.holds Try.pinned (OpenSpec.ofChange fnExactLoopWordsSpec)

/-- ITS FALSE NEIGHBOUR: 'it returns false'. Refute it at one input. -/
def fnExactLoopWordsWrong : ChangeSpec := { name := "fnExactLoopWords", fn := fun _ => fun
  | [d1, d2, d3] => { results := [.lit (.bool false)], args := [d1, d2, d3] }
  | _ => none }
def FnExactLoopWordsWrongFalsely : Prop := fnExactLoopWordsRow.holds Try.pinned (OpenSpec.ofChange fnExactLoopWordsWrong)

/- THE SECOND FORM. 'bulk': how many values and letters a reading holds, each counted each time it is reached (what is shared counts as often as it is met; a slice's spare places count too). A statement '..UptoSaid' is the law's where the arguments, and the package variables that the reading takes, are together of bulk at most 1048576: NARROWER than '..Said'. Prove '..Said' where nothing that the law and all that it calls make is longer than what came in: it says more and counts as full. Else prove '..UptoSaid'. A law counts once. -/
mutual
def uptoBulk {H : Type} : DataW H → Nat
  | .lit (.string bytes) => bytes.length + 1
  | .lit _ => 1
  | .nil => 1
  | .ptr d => uptoBulk d + 1
  | .slice elems spare => uptoBulkAll elems + uptoBulkAll spare + 1
  | .agg parts => uptoBulkAll parts + 1
  | .iface _ d => uptoBulk d + 1
  | .map entries => uptoBulkEntries entries + 1
  | .held _ => 1
def uptoBulkAll {H : Type} : List (DataW H) → Nat
  | [] => 0
  | d :: r => uptoBulk d + uptoBulkAll r
def uptoBulkEntries {H : Type} : List (Lit × DataW H) → Nat
  | [] => 0
  | x :: r => uptoBulkEntry x + uptoBulkEntries r
def uptoBulkEntry {H : Type} : Lit × DataW H → Nat
  | (.string bytes, d) => bytes.length + uptoBulk d + 1
  | (_, d) => uptoBulk d + 1
 end
def uptoSmall : (H : Type) → List (DataW H) → Bool := fun _ ds => decide (uptoBulkAll ds ≤ 1048576)
def OpenSpec.upto (s : _root_.Go.ChangeSpec) : _root_.Go.OpenSpec := { _root_.Go.OpenSpec.ofChange s with cond := some uptoSmall }

/-- 'laws.FnExactNextVertex', WHERE WHAT IT READS IS OF BULK AT MOST 1048576: true; the input reads as it did. -/
def fnExactNextVertexUptoRow : OpenClaim := { program := "ytpebiacdkfpnpaa", sum := "c7a6c5491e5f6b703663d80167129f889cf1573bace6d6be1e44627f14a1a2df", func := "loop.example/g02075/laws.FnExactNextVertex", spec := "fnExactNextVertex", recurses := true, apart := false, narrowed := true }
def FnExactNextVertexUptoSaid : Prop := fnExactNextVertexUptoRow.holds Try.pinned (OpenSpec.upto fnExactNextVertexSpec)

/-- 'laws.FnExactStepsFrom', WHERE WHAT IT READS IS OF BULK AT MOST 1048576: true; the input reads as it did. -/
def fnExactStepsFromUptoRow : OpenClaim := { program := "ytpebiacdkfpnpaa", sum := "c7a6c5491e5f6b703663d80167129f889cf1573bace6d6be1e44627f14a1a2df", func := "loop.example/g02075/laws.FnExactStepsFrom", spec := "fnExactStepsFrom", recurses := true, apart := false, narrowed := true }
def FnExactStepsFromUptoSaid : Prop := fnExactStepsFromUptoRow.holds Try.pinned (OpenSpec.upto fnExactStepsFromSpec)

/-- 'laws.FnExactAddEdge', WHERE WHAT IT READS IS OF BULK AT MOST 1048576: true; the input reads as it did. -/
def fnExactAddEdgeUptoRow : OpenClaim := { program := "ytpebiacdkfpnpaa", sum := "c7a6c5491e5f6b703663d80167129f889cf1573bace6d6be1e44627f14a1a2df", func := "loop.example/g02075/laws.FnExactAddEdge", spec := "fnExactAddEdge", unfollowed := true, recurses := true, apart := false, narrowed := true }
def FnExactAddEdgeUptoSaid : Prop := fnExactAddEdgeUptoRow.holds Try.pinned (OpenSpec.upto fnExactAddEdgeSpec)

/-- 'laws.FnExactReadLength', WHERE WHAT IT READS IS OF BULK AT MOST 1048576: true; the input reads as it did. -/
def fnExactReadLengthUptoRow : OpenClaim := { program := "ytpebiacdkfpnpaa", sum := "c7a6c5491e5f6b703663d80167129f889cf1573bace6d6be1e44627f14a1a2df", func := "loop.example/g02075/laws.FnExactReadLength", spec := "fnExactReadLength", recurses := true, apart := false, narrowed := true }
def FnExactReadLengthUptoSaid : Prop := fnExactReadLengthUptoRow.holds Try.pinned (OpenSpec.upto fnExactReadLengthSpec)

/-- 'laws.FnExactWalkWord', WHERE WHAT IT READS IS OF BULK AT MOST 1048576: true; the input reads as it did. -/
def fnExactWalkWordUptoRow : OpenClaim := { program := "ytpebiacdkfpnpaa", sum := "c7a6c5491e5f6b703663d80167129f889cf1573bace6d6be1e44627f14a1a2df", func := "loop.example/g02075/laws.FnExactWalkWord", spec := "fnExactWalkWord", recurses := true, apart := false, narrowed := true }
def FnExactWalkWordUptoSaid : Prop := fnExactWalkWordUptoRow.holds Try.pinned (OpenSpec.upto fnExactWalkWordSpec)

/-- 'laws.FnExactPathWord', WHERE WHAT IT READS IS OF BULK AT MOST 1048576: true; the input reads as it did. -/
def fnExactPathWordUptoRow : OpenClaim := { program := "ytpebiacdkfpnpaa", sum := "c7a6c5491e5f6b703663d80167129f889cf1573bace6d6be1e44627f14a1a2df", func := "loop.example/g02075/laws.FnExactPathWord", spec := "fnExactPathWord", recurses := true, apart := false, narrowed := true }
def FnExactPathWordUptoSaid : Prop := fnExactPathWordUptoRow.holds Try.pinned (OpenSpec.upto fnExactPathWordSpec)

/-- 'laws.FnExactLoopWords', WHERE WHAT IT READS IS OF BULK AT MOST 1048576: true; the input reads as it did. -/
def fnExactLoopWordsUptoRow : OpenClaim := { program := "ytpebiacdkfpnpaa", sum := "c7a6c5491e5f6b703663d80167129f889cf1573bace6d6be1e44627f14a1a2df", func := "loop.example/g02075/laws.FnExactLoopWords", spec := "fnExactLoopWords", recurses := true, apart := false, narrowed := true }
def FnExactLoopWordsUptoSaid : Prop := fnExactLoopWordsUptoRow.holds Try.pinned (OpenSpec.upto fnExactLoopWordsSpec)

end Rows
end Go.Proofs.Ytpebiacdkfpnpaa
