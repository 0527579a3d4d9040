/-
  No cell of these rows narrows 'for every input' (looked for: loops, veiled, ifaces, maps, wideKeys, modest, calm, conditions, laid).
  DERIVED. THE GIVEN ROWS OF THIS SEAT. 9 by the template 'for every input the law returns true; each argument reads behind the call as it read before'; 0 by the template 'total and deterministic' (their statements: YtfckgmajjonckaaTotals.lean).
  GIVEN WITH THE SEED: the statements are not yours to turn. If you find one false, say at which input.
  Laid BY PROGRAM, IN A SANDBOX (cutbox-rows.mjs): the forced cells as the released guide's own fill.sh prints them over the translation 9a600567063aa29f… (all of the seat's roots in one cut). By AI agents, Wed Nov 11 2026. No macro, syntax, notation, axiom, sorry.
-/
import Derived.Test.YtfckgmajjonckaaChecked
import GoSem.Claim
import GoSem.ClaimJoined
import GoSem.ClaimMapViews
import Derived.JoinedTies
import Derived.KernelRfl
namespace Go.Proofs.Ytfckgmajjonckaa
/- THE CELL 'sum', in the pinned program and in every row, IS THE sha256 OF THE DUMP (.gsa) THAT YtfckgmajjonckaaProg.lean LOADS. Nothing in Lean hashes anything: it is a label: what it is worth is what the hold of that sum in a sandbox is worth. -/
noncomputable def Try.pinned : Pinned := { name := "ytfckgmajjonckaa", sum := "9a600567063aa29f3563b2d397d98c0b1c0b717e524302af7c13e33e8244df78", checked := Try.checked }
namespace Rows
def none {H : Type} : Left H := { results := [], args := [] }

/-- 'laws.FnExactDegreeOf': WHATEVER THE INPUT: true; the input reads as it did. -/
def fnExactDegreeOfSpec : ChangeSpec := { name := "fnExactDegreeOf", fn := fun _ => fun
  | [d1, d2] => { results := [.lit (.bool true)], args := [d1, d2] }
  | _ => none }
def fnExactDegreeOfRow : OpenClaim := { program := "ytfckgmajjonckaa", sum := "9a600567063aa29f3563b2d397d98c0b1c0b717e524302af7c13e33e8244df78", func := "loop.example/g02075/laws.FnExactDegreeOf", spec := "fnExactDegreeOf", apart := false }
def FnExactDegreeOfSaid : Prop := fnExactDegreeOfRow.holds Try.pinned (OpenSpec.ofChange fnExactDegreeOfSpec)

/-- ITS FALSE NEIGHBOUR: 'it returns false'. Refute it at one input. -/
def fnExactDegreeOfWrong : ChangeSpec := { name := "fnExactDegreeOf", fn := fun _ => fun
  | [d1, d2] => { results := [.lit (.bool false)], args := [d1, d2] }
  | _ => none }
def FnExactDegreeOfWrongFalsely : Prop := fnExactDegreeOfRow.holds Try.pinned (OpenSpec.ofChange fnExactDegreeOfWrong)

/-- 'laws.FnExactEqualGraphs': WHATEVER THE INPUT: true; the input reads as it did. -/
def fnExactEqualGraphsSpec : ChangeSpec := { name := "fnExactEqualGraphs", fn := fun _ => fun
  | [d1, d2] => { results := [.lit (.bool true)], args := [d1, d2] }
  | _ => none }
def fnExactEqualGraphsRow : OpenClaim := { program := "ytfckgmajjonckaa", sum := "9a600567063aa29f3563b2d397d98c0b1c0b717e524302af7c13e33e8244df78", func := "loop.example/g02075/laws.FnExactEqualGraphs", spec := "fnExactEqualGraphs", apart := false }
def FnExactEqualGraphsSaid : Prop := fnExactEqualGraphsRow.holds Try.pinned (OpenSpec.ofChange fnExactEqualGraphsSpec)

/-- ITS FALSE NEIGHBOUR: 'it returns false'. Refute it at one input. -/
def fnExactEqualGraphsWrong : ChangeSpec := { name := "fnExactEqualGraphs", fn := fun _ => fun
  | [d1, d2] => { results := [.lit (.bool false)], args := [d1, d2] }
  | _ => none }
def FnExactEqualGraphsWrongFalsely : Prop := fnExactEqualGraphsRow.holds Try.pinned (OpenSpec.ofChange fnExactEqualGraphsWrong)

/-- 'laws.FnExactIsGraph': WHATEVER THE INPUT: true; the input reads as it did. -/
def fnExactIsGraphSpec : ChangeSpec := { name := "fnExactIsGraph", fn := fun _ => fun
  | [d] => { results := [.lit (.bool true)], args := [d] }
  | _ => none }
def fnExactIsGraphRow : OpenClaim := { program := "ytfckgmajjonckaa", sum := "9a600567063aa29f3563b2d397d98c0b1c0b717e524302af7c13e33e8244df78", func := "loop.example/g02075/laws.FnExactIsGraph", spec := "fnExactIsGraph", apart := false }
def FnExactIsGraphSaid : Prop := fnExactIsGraphRow.holds Try.pinned (OpenSpec.ofChange fnExactIsGraphSpec)

/-- ITS FALSE NEIGHBOUR: 'it returns false'. Refute it at one input. -/
def fnExactIsGraphWrong : ChangeSpec := { name := "fnExactIsGraph", fn := fun _ => fun
  | [d] => { results := [.lit (.bool false)], args := [d] }
  | _ => none }
def FnExactIsGraphWrongFalsely : Prop := fnExactIsGraphRow.holds Try.pinned (OpenSpec.ofChange fnExactIsGraphWrong)

/-- 'laws.FnExactIsFolded': WHATEVER THE INPUT: true; the input reads as it did. -/
def fnExactIsFoldedSpec : ChangeSpec := { name := "fnExactIsFolded", fn := fun _ => fun
  | [d] => { results := [.lit (.bool true)], args := [d] }
  | _ => none }
def fnExactIsFoldedRow : OpenClaim := { program := "ytfckgmajjonckaa", sum := "9a600567063aa29f3563b2d397d98c0b1c0b717e524302af7c13e33e8244df78", func := "loop.example/g02075/laws.FnExactIsFolded", spec := "fnExactIsFolded", apart := false }
def FnExactIsFoldedSaid : Prop := fnExactIsFoldedRow.holds Try.pinned (OpenSpec.ofChange fnExactIsFoldedSpec)

/-- ITS FALSE NEIGHBOUR: 'it returns false'. Refute it at one input. -/
def fnExactIsFoldedWrong : ChangeSpec := { name := "fnExactIsFolded", fn := fun _ => fun
  | [d] => { results := [.lit (.bool false)], args := [d] }
  | _ => none }
def FnExactIsFoldedWrongFalsely : Prop := fnExactIsFoldedRow.holds Try.pinned (OpenSpec.ofChange fnExactIsFoldedWrong)

/-- 'laws.FnExactAddVertex': WHATEVER THE INPUT: true; the input reads as it did. -/
def fnExactAddVertexSpec : ChangeSpec := { name := "fnExactAddVertex", fn := fun _ => fun
  | [d] => { results := [.lit (.bool true)], args := [d] }
  | _ => none }
def fnExactAddVertexRow : OpenClaim := { program := "ytfckgmajjonckaa", sum := "9a600567063aa29f3563b2d397d98c0b1c0b717e524302af7c13e33e8244df78", func := "loop.example/g02075/laws.FnExactAddVertex", spec := "fnExactAddVertex", apart := false }
def FnExactAddVertexSaid : Prop := fnExactAddVertexRow.holds Try.pinned (OpenSpec.ofChange fnExactAddVertexSpec)

/-- ITS FALSE NEIGHBOUR: 'it returns false'. Refute it at one input. -/
def fnExactAddVertexWrong : ChangeSpec := { name := "fnExactAddVertex", fn := fun _ => fun
  | [d] => { results := [.lit (.bool false)], args := [d] }
  | _ => none }
def FnExactAddVertexWrongFalsely : Prop := fnExactAddVertexRow.holds Try.pinned (OpenSpec.ofChange fnExactAddVertexWrong)

/-- 'laws.FnExactIsConnected': WHATEVER THE INPUT: true; the input reads as it did. -/
def fnExactIsConnectedSpec : ChangeSpec := { name := "fnExactIsConnected", fn := fun _ => fun
  | [d] => { results := [.lit (.bool true)], args := [d] }
  | _ => none }
def fnExactIsConnectedRow : OpenClaim := { program := "ytfckgmajjonckaa", sum := "9a600567063aa29f3563b2d397d98c0b1c0b717e524302af7c13e33e8244df78", func := "loop.example/g02075/laws.FnExactIsConnected", spec := "fnExactIsConnected", apart := false }
def FnExactIsConnectedSaid : Prop := fnExactIsConnectedRow.holds Try.pinned (OpenSpec.ofChange fnExactIsConnectedSpec)

/-- ITS FALSE NEIGHBOUR: 'it returns false'. Refute it at one input. -/
def fnExactIsConnectedWrong : ChangeSpec := { name := "fnExactIsConnected", fn := fun _ => fun
  | [d] => { results := [.lit (.bool false)], args := [d] }
  | _ => none }
def FnExactIsConnectedWrongFalsely : Prop := fnExactIsConnectedRow.holds Try.pinned (OpenSpec.ofChange fnExactIsConnectedWrong)

/-- 'laws.FnExactFormatGraph': WHATEVER THE INPUT: true; the input reads as it did. -/
def fnExactFormatGraphSpec : ChangeSpec := { name := "fnExactFormatGraph", fn := fun _ => fun
  | [d] => { results := [.lit (.bool true)], args := [d] }
  | _ => none }
def fnExactFormatGraphRow : OpenClaim := { program := "ytfckgmajjonckaa", sum := "9a600567063aa29f3563b2d397d98c0b1c0b717e524302af7c13e33e8244df78", func := "loop.example/g02075/laws.FnExactFormatGraph", spec := "fnExactFormatGraph", apart := false }
def FnExactFormatGraphSaid : Prop := fnExactFormatGraphRow.holds Try.pinned (OpenSpec.ofChange fnExactFormatGraphSpec)

/-- ITS FALSE NEIGHBOUR: 'it returns false'. Refute it at one input. -/
def fnExactFormatGraphWrong : ChangeSpec := { name := "fnExactFormatGraph", fn := fun _ => fun
  | [d] => { results := [.lit (.bool false)], args := [d] }
  | _ => none }
def FnExactFormatGraphWrongFalsely : Prop := fnExactFormatGraphRow.holds Try.pinned (OpenSpec.ofChange fnExactFormatGraphWrong)

/-- 'laws.FnExactReachedFrom': WHATEVER THE INPUT: true; the input reads as it did. -/
def fnExactReachedFromSpec : ChangeSpec := { name := "fnExactReachedFrom", fn := fun _ => fun
  | [d1, d2] => { results := [.lit (.bool true)], args := [d1, d2] }
  | _ => none }
def fnExactReachedFromRow : OpenClaim := { program := "ytfckgmajjonckaa", sum := "9a600567063aa29f3563b2d397d98c0b1c0b717e524302af7c13e33e8244df78", func := "loop.example/g02075/laws.FnExactReachedFrom", spec := "fnExactReachedFrom", apart := false }
def FnExactReachedFromSaid : Prop := fnExactReachedFromRow.holds Try.pinned (OpenSpec.ofChange fnExactReachedFromSpec)

/-- ITS FALSE NEIGHBOUR: 'it returns false'. Refute it at one input. -/
def fnExactReachedFromWrong : ChangeSpec := { name := "fnExactReachedFrom", fn := fun _ => fun
  | [d1, d2] => { results := [.lit (.bool false)], args := [d1, d2] }
  | _ => none }
def FnExactReachedFromWrongFalsely : Prop := fnExactReachedFromRow.holds Try.pinned (OpenSpec.ofChange fnExactReachedFromWrong)

/-- 'laws.FnExactParseGraph': WHATEVER THE INPUT: true; the input reads as it did. -/
def fnExactParseGraphSpec : ChangeSpec := { name := "fnExactParseGraph", fn := fun _ => fun
  | [d] => { results := [.lit (.bool true)], args := [d] }
  | _ => none }
def fnExactParseGraphRow : OpenClaim := { program := "ytfckgmajjonckaa", sum := "9a600567063aa29f3563b2d397d98c0b1c0b717e524302af7c13e33e8244df78", func := "loop.example/g02075/laws.FnExactParseGraph", spec := "fnExactParseGraph", apart := false }
def FnExactParseGraphSaid : Prop := fnExactParseGraphRow.holds Try.pinned (OpenSpec.ofChange fnExactParseGraphSpec)

/-- ITS FALSE NEIGHBOUR: 'it returns false'. Refute it at one input. -/
def fnExactParseGraphWrong : ChangeSpec := { name := "fnExactParseGraph", fn := fun _ => fun
  | [d] => { results := [.lit (.bool false)], args := [d] }
  | _ => none }
def FnExactParseGraphWrongFalsely : Prop := fnExactParseGraphRow.holds Try.pinned (OpenSpec.ofChange fnExactParseGraphWrong)

/- THE SECOND FORM. 'bulk': how many values and letters a reading holds, each counted each time it is reached (what is shared counts as often as it is met; a slice's spare places count too). A statement '..UptoSaid' is the law's where the arguments, and the package variables that the reading takes, are together of bulk at most 1048576: NARROWER than '..Said'. Prove '..Said' where nothing that the law and all that it calls make is longer than what came in: it says more and counts as full. Else prove '..UptoSaid'. A law counts once. -/
mutual
def uptoBulk {H : Type} : DataW H → Nat
  | .lit (.string bytes) => bytes.length + 1
  | .lit _ => 1
  | .nil => 1
  | .ptr d => uptoBulk d + 1
  | .slice elems spare => uptoBulkAll elems + uptoBulkAll spare + 1
  | .agg parts => uptoBulkAll parts + 1
  | .iface _ d => uptoBulk d + 1
  | .map entries => uptoBulkEntries entries + 1
  | .held _ => 1
def uptoBulkAll {H : Type} : List (DataW H) → Nat
  | [] => 0
  | d :: r => uptoBulk d + uptoBulkAll r
def uptoBulkEntries {H : Type} : List (Lit × DataW H) → Nat
  | [] => 0
  | x :: r => uptoBulkEntry x + uptoBulkEntries r
def uptoBulkEntry {H : Type} : Lit × DataW H → Nat
  | (.string bytes, d) => bytes.length + uptoBulk d + 1
  | (_, d) => uptoBulk d + 1
 end
def uptoSmall : (H : Type) → List (DataW H) → Bool := fun _ ds => decide (uptoBulkAll ds ≤ 1048576)
def OpenSpec.upto (s : _root_.Go.ChangeSpec) : _root_.Go.OpenSpec := { _root_.Go.OpenSpec.ofChange s with cond := some uptoSmall }

/-- 'laws.FnExactDegreeOf', WHERE WHAT IT READS IS OF BULK AT MOST 1048576: true; the input reads as it did. -/
def fnExactDegreeOfUptoRow : OpenClaim := { program := "ytfckgmajjonckaa", sum := "9a600567063aa29f3563b2d397d98c0b1c0b717e524302af7c13e33e8244df78", func := "loop.example/g02075/laws.FnExactDegreeOf", spec := "fnExactDegreeOf", apart := false, narrowed := true }
def FnExactDegreeOfUptoSaid : Prop := fnExactDegreeOfUptoRow.holds Try.pinned (OpenSpec.upto fnExactDegreeOfSpec)

/-- 'laws.FnExactEqualGraphs', WHERE WHAT IT READS IS OF BULK AT MOST 1048576: true; the input reads as it did. -/
def fnExactEqualGraphsUptoRow : OpenClaim := { program := "ytfckgmajjonckaa", sum := "9a600567063aa29f3563b2d397d98c0b1c0b717e524302af7c13e33e8244df78", func := "loop.example/g02075/laws.FnExactEqualGraphs", spec := "fnExactEqualGraphs", apart := false, narrowed := true }
def FnExactEqualGraphsUptoSaid : Prop := fnExactEqualGraphsUptoRow.holds Try.pinned (OpenSpec.upto fnExactEqualGraphsSpec)

/-- 'laws.FnExactIsGraph', WHERE WHAT IT READS IS OF BULK AT MOST 1048576: true; the input reads as it did. -/
def fnExactIsGraphUptoRow : OpenClaim := { program := "ytfckgmajjonckaa", sum := "9a600567063aa29f3563b2d397d98c0b1c0b717e524302af7c13e33e8244df78", func := "loop.example/g02075/laws.FnExactIsGraph", spec := "fnExactIsGraph", apart := false, narrowed := true }
def FnExactIsGraphUptoSaid : Prop := fnExactIsGraphUptoRow.holds Try.pinned (OpenSpec.upto fnExactIsGraphSpec)

/-- 'laws.FnExactIsFolded', WHERE WHAT IT READS IS OF BULK AT MOST 1048576: true; the input reads as it did. -/
def fnExactIsFoldedUptoRow : OpenClaim := { program := "ytfckgmajjonckaa", sum := "9a600567063aa29f3563b2d397d98c0b1c0b717e524302af7c13e33e8244df78", func := "loop.example/g02075/laws.FnExactIsFolded", spec := "fnExactIsFolded", apart := false, narrowed := true }
def FnExactIsFoldedUptoSaid : Prop := fnExactIsFoldedUptoRow.holds Try.pinned (OpenSpec.upto fnExactIsFoldedSpec)

/-- 'laws.FnExactAddVertex', WHERE WHAT IT READS IS OF BULK AT MOST 1048576: true; the input reads as it did. -/
def fnExactAddVertexUptoRow : OpenClaim := { program := "ytfckgmajjonckaa", sum := "9a600567063aa29f3563b2d397d98c0b1c0b717e524302af7c13e33e8244df78", func := "loop.example/g02075/laws.FnExactAddVertex", spec := "fnExactAddVertex", apart := false, narrowed := true }
def FnExactAddVertexUptoSaid : Prop := fnExactAddVertexUptoRow.holds Try.pinned (OpenSpec.upto fnExactAddVertexSpec)

/-- 'laws.FnExactIsConnected', WHERE WHAT IT READS IS OF BULK AT MOST 1048576: true; the input reads as it did. -/
def fnExactIsConnectedUptoRow : OpenClaim := { program := "ytfckgmajjonckaa", sum := "9a600567063aa29f3563b2d397d98c0b1c0b717e524302af7c13e33e8244df78", func := "loop.example/g02075/laws.FnExactIsConnected", spec := "fnExactIsConnected", apart := false, narrowed := true }
def FnExactIsConnectedUptoSaid : Prop := fnExactIsConnectedUptoRow.holds Try.pinned (OpenSpec.upto fnExactIsConnectedSpec)

/-- 'laws.FnExactFormatGraph', WHERE WHAT IT READS IS OF BULK AT MOST 1048576: true; the input reads as it did. -/
def fnExactFormatGraphUptoRow : OpenClaim := { program := "ytfckgmajjonckaa", sum := "9a600567063aa29f3563b2d397d98c0b1c0b717e524302af7c13e33e8244df78", func := "loop.example/g02075/laws.FnExactFormatGraph", spec := "fnExactFormatGraph", apart := false, narrowed := true }
def FnExactFormatGraphUptoSaid : Prop := fnExactFormatGraphUptoRow.holds Try.pinned (OpenSpec.upto fnExactFormatGraphSpec)

/-- 'laws.FnExactReachedFrom', WHERE WHAT IT READS IS OF BULK AT MOST 1048576: true; the input reads as it did. -/
def fnExactReachedFromUptoRow : OpenClaim := { program := "ytfckgmajjonckaa", sum := "9a600567063aa29f3563b2d397d98c0b1c0b717e524302af7c13e33e8244df78", func := "loop.example/g02075/laws.FnExactReachedFrom", spec := "fnExactReachedFrom", apart := false, narrowed := true }
def FnExactReachedFromUptoSaid : Prop := fnExactReachedFromUptoRow.holds Try.pinned (OpenSpec.upto fnExactReachedFromSpec)

/-- 'laws.FnExactParseGraph', WHERE WHAT IT READS IS OF BULK AT MOST 1048576: true; the input reads as it did. -/
def fnExactParseGraphUptoRow : OpenClaim := { program := "ytfckgmajjonckaa", sum := "9a600567063aa29f3563b2d397d98c0b1c0b717e524302af7c13e33e8244df78", func := "loop.example/g02075/laws.FnExactParseGraph", spec := "fnExactParseGraph", apart := false, narrowed := true }
def FnExactParseGraphUptoSaid : Prop := fnExactParseGraphUptoRow.holds Try.pinned (OpenSpec.upto fnExactParseGraphSpec)

end Rows
end Go.Proofs.Ytfckgmajjonckaa
