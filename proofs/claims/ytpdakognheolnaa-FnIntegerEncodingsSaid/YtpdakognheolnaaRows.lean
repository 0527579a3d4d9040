/-
  No cell of these rows narrows 'for every input' (looked for: loops, veiled, ifaces, maps, wideKeys, modest, calm, conditions, laid).
  DERIVED. THE GIVEN ROWS OF THIS SEAT. 12 by the template 'for every input the law returns true; each argument reads behind the call as it read before'; 0 by the template 'total and deterministic' (their statements: YtpdakognheolnaaTotals.lean).
  GIVEN WITH THE SEED: the statements are not yours to turn. If you find one false, say at which input.
  Laid BY PROGRAM, IN A SANDBOX (cutbox-rows.mjs): the forced cells as the released guide's own fill.sh prints them over the translation c2c11ecc8b9e3a5f… (all of the seat's roots in one cut). By AI agents, Wed Nov 11 2026. No macro, syntax, notation, axiom, sorry.
-/
import Derived.Test.YtpdakognheolnaaChecked
import GoSem.Claim
import GoSem.ClaimJoined
import GoSem.ClaimMapViews
import Derived.JoinedTies
import Derived.KernelRfl
namespace Go.Proofs.Ytpdakognheolnaa
/- THE CELL 'sum', in the pinned program and in every row, IS THE sha256 OF THE DUMP (.gsa) THAT YtpdakognheolnaaProg.lean LOADS. Nothing in Lean hashes anything: it is a label: what it is worth is what the hold of that sum in a sandbox is worth. -/
noncomputable def Try.pinned : Pinned := { name := "ytpdakognheolnaa", sum := "c2c11ecc8b9e3a5f4f84d82ef96802b7a1cd8c0f38ab73e0c0c22380d173e4d2", checked := Try.checked }
namespace Rows
def none {H : Type} : Left H := { results := [], args := [] }

/-- 'laws.FnExactConstants': WHATEVER THE INPUT: true; the input reads as it did. -/
def fnExactConstantsSpec : ChangeSpec := { name := "fnExactConstants", fn := fun _ => fun
  | [] => { results := [.lit (.bool true)], args := [] }
  | _ => none }
def fnExactConstantsRow : OpenClaim := { program := "ytpdakognheolnaa", sum := "c2c11ecc8b9e3a5f4f84d82ef96802b7a1cd8c0f38ab73e0c0c22380d173e4d2", func := "loop.example/g02075/laws.FnExactConstants", spec := "fnExactConstants", apart := false }
def FnExactConstantsSaid : Prop := fnExactConstantsRow.holds Try.pinned (OpenSpec.ofChange fnExactConstantsSpec)

/-- ITS FALSE NEIGHBOUR: 'it returns false'. Refute it at one input. -/
def fnExactConstantsWrong : ChangeSpec := { name := "fnExactConstants", fn := fun _ => fun
  | [] => { results := [.lit (.bool false)], args := [] }
  | _ => none }
def FnExactConstantsWrongFalsely : Prop := fnExactConstantsRow.holds Try.pinned (OpenSpec.ofChange fnExactConstantsWrong)

/-- 'laws.FnExactEncodeHex': WHATEVER THE INPUT: true; the input reads as it did. -/
def fnExactEncodeHexSpec : ChangeSpec := { name := "fnExactEncodeHex", fn := fun _ => fun
  | [d] => { results := [.lit (.bool true)], args := [d] }
  | _ => none }
def fnExactEncodeHexRow : OpenClaim := { program := "ytpdakognheolnaa", sum := "c2c11ecc8b9e3a5f4f84d82ef96802b7a1cd8c0f38ab73e0c0c22380d173e4d2", func := "loop.example/g02075/laws.FnExactEncodeHex", spec := "fnExactEncodeHex", apart := false }
def FnExactEncodeHexSaid : Prop := fnExactEncodeHexRow.holds Try.pinned (OpenSpec.ofChange fnExactEncodeHexSpec)

/-- ITS FALSE NEIGHBOUR: 'it returns false'. Refute it at one input. -/
def fnExactEncodeHexWrong : ChangeSpec := { name := "fnExactEncodeHex", fn := fun _ => fun
  | [d] => { results := [.lit (.bool false)], args := [d] }
  | _ => none }
def FnExactEncodeHexWrongFalsely : Prop := fnExactEncodeHexRow.holds Try.pinned (OpenSpec.ofChange fnExactEncodeHexWrong)

/-- 'laws.FnExactDecodeFixed': WHATEVER THE INPUT: true; the input reads as it did. -/
def fnExactDecodeFixedSpec : ChangeSpec := { name := "fnExactDecodeFixed", fn := fun _ => fun
  | [d1, d2] => { results := [.lit (.bool true)], args := [d1, d2] }
  | _ => none }
def fnExactDecodeFixedRow : OpenClaim := { program := "ytpdakognheolnaa", sum := "c2c11ecc8b9e3a5f4f84d82ef96802b7a1cd8c0f38ab73e0c0c22380d173e4d2", func := "loop.example/g02075/laws.FnExactDecodeFixed", spec := "fnExactDecodeFixed", apart := false }
def FnExactDecodeFixedSaid : Prop := fnExactDecodeFixedRow.holds Try.pinned (OpenSpec.ofChange fnExactDecodeFixedSpec)

/-- ITS FALSE NEIGHBOUR: 'it returns false'. Refute it at one input. -/
def fnExactDecodeFixedWrong : ChangeSpec := { name := "fnExactDecodeFixed", fn := fun _ => fun
  | [d1, d2] => { results := [.lit (.bool false)], args := [d1, d2] }
  | _ => none }
def FnExactDecodeFixedWrongFalsely : Prop := fnExactDecodeFixedRow.holds Try.pinned (OpenSpec.ofChange fnExactDecodeFixedWrong)

/-- 'laws.FnExactEncodeVarint': WHATEVER THE INPUT: true; the input reads as it did. -/
def fnExactEncodeVarintSpec : ChangeSpec := { name := "fnExactEncodeVarint", fn := fun _ => fun
  | [d] => { results := [.lit (.bool true)], args := [d] }
  | _ => none }
def fnExactEncodeVarintRow : OpenClaim := { program := "ytpdakognheolnaa", sum := "c2c11ecc8b9e3a5f4f84d82ef96802b7a1cd8c0f38ab73e0c0c22380d173e4d2", func := "loop.example/g02075/laws.FnExactEncodeVarint", spec := "fnExactEncodeVarint", apart := false }
def FnExactEncodeVarintSaid : Prop := fnExactEncodeVarintRow.holds Try.pinned (OpenSpec.ofChange fnExactEncodeVarintSpec)

/-- ITS FALSE NEIGHBOUR: 'it returns false'. Refute it at one input. -/
def fnExactEncodeVarintWrong : ChangeSpec := { name := "fnExactEncodeVarint", fn := fun _ => fun
  | [d] => { results := [.lit (.bool false)], args := [d] }
  | _ => none }
def FnExactEncodeVarintWrongFalsely : Prop := fnExactEncodeVarintRow.holds Try.pinned (OpenSpec.ofChange fnExactEncodeVarintWrong)

/-- 'laws.FnExactEncodeFixed': WHATEVER THE INPUT: true; the input reads as it did. -/
def fnExactEncodeFixedSpec : ChangeSpec := { name := "fnExactEncodeFixed", fn := fun _ => fun
  | [d1, d2] => { results := [.lit (.bool true)], args := [d1, d2] }
  | _ => none }
def fnExactEncodeFixedRow : OpenClaim := { program := "ytpdakognheolnaa", sum := "c2c11ecc8b9e3a5f4f84d82ef96802b7a1cd8c0f38ab73e0c0c22380d173e4d2", func := "loop.example/g02075/laws.FnExactEncodeFixed", spec := "fnExactEncodeFixed", apart := false }
def FnExactEncodeFixedSaid : Prop := fnExactEncodeFixedRow.holds Try.pinned (OpenSpec.ofChange fnExactEncodeFixedSpec)

/-- ITS FALSE NEIGHBOUR: 'it returns false'. Refute it at one input. -/
def fnExactEncodeFixedWrong : ChangeSpec := { name := "fnExactEncodeFixed", fn := fun _ => fun
  | [d1, d2] => { results := [.lit (.bool false)], args := [d1, d2] }
  | _ => none }
def FnExactEncodeFixedWrongFalsely : Prop := fnExactEncodeFixedRow.holds Try.pinned (OpenSpec.ofChange fnExactEncodeFixedWrong)

/-- 'laws.FnExactCompareEdges': WHATEVER THE INPUT: true; the input reads as it did. -/
def fnExactCompareEdgesSpec : ChangeSpec := { name := "fnExactCompareEdges", fn := fun _ => fun
  | [d1, d2] => { results := [.lit (.bool true)], args := [d1, d2] }
  | _ => none }
def fnExactCompareEdgesRow : OpenClaim := { program := "ytpdakognheolnaa", sum := "c2c11ecc8b9e3a5f4f84d82ef96802b7a1cd8c0f38ab73e0c0c22380d173e4d2", func := "loop.example/g02075/laws.FnExactCompareEdges", spec := "fnExactCompareEdges", apart := false }
def FnExactCompareEdgesSaid : Prop := fnExactCompareEdgesRow.holds Try.pinned (OpenSpec.ofChange fnExactCompareEdgesSpec)

/-- ITS FALSE NEIGHBOUR: 'it returns false'. Refute it at one input. -/
def fnExactCompareEdgesWrong : ChangeSpec := { name := "fnExactCompareEdges", fn := fun _ => fun
  | [d1, d2] => { results := [.lit (.bool false)], args := [d1, d2] }
  | _ => none }
def FnExactCompareEdgesWrongFalsely : Prop := fnExactCompareEdgesRow.holds Try.pinned (OpenSpec.ofChange fnExactCompareEdgesWrong)

/-- 'laws.FnExactFormatInt': WHATEVER THE INPUT: true; the input reads as it did. -/
def fnExactFormatIntSpec : ChangeSpec := { name := "fnExactFormatInt", fn := fun _ => fun
  | [d] => { results := [.lit (.bool true)], args := [d] }
  | _ => none }
def fnExactFormatIntRow : OpenClaim := { program := "ytpdakognheolnaa", sum := "c2c11ecc8b9e3a5f4f84d82ef96802b7a1cd8c0f38ab73e0c0c22380d173e4d2", func := "loop.example/g02075/laws.FnExactFormatInt", spec := "fnExactFormatInt", apart := false }
def FnExactFormatIntSaid : Prop := fnExactFormatIntRow.holds Try.pinned (OpenSpec.ofChange fnExactFormatIntSpec)

/-- ITS FALSE NEIGHBOUR: 'it returns false'. Refute it at one input. -/
def fnExactFormatIntWrong : ChangeSpec := { name := "fnExactFormatInt", fn := fun _ => fun
  | [d] => { results := [.lit (.bool false)], args := [d] }
  | _ => none }
def FnExactFormatIntWrongFalsely : Prop := fnExactFormatIntRow.holds Try.pinned (OpenSpec.ofChange fnExactFormatIntWrong)

/-- 'laws.FnExactDecodeHex': WHATEVER THE INPUT: true; the input reads as it did. -/
def fnExactDecodeHexSpec : ChangeSpec := { name := "fnExactDecodeHex", fn := fun _ => fun
  | [d] => { results := [.lit (.bool true)], args := [d] }
  | _ => none }
def fnExactDecodeHexRow : OpenClaim := { program := "ytpdakognheolnaa", sum := "c2c11ecc8b9e3a5f4f84d82ef96802b7a1cd8c0f38ab73e0c0c22380d173e4d2", func := "loop.example/g02075/laws.FnExactDecodeHex", spec := "fnExactDecodeHex", apart := false }
def FnExactDecodeHexSaid : Prop := fnExactDecodeHexRow.holds Try.pinned (OpenSpec.ofChange fnExactDecodeHexSpec)

/-- ITS FALSE NEIGHBOUR: 'it returns false'. Refute it at one input. -/
def fnExactDecodeHexWrong : ChangeSpec := { name := "fnExactDecodeHex", fn := fun _ => fun
  | [d] => { results := [.lit (.bool false)], args := [d] }
  | _ => none }
def FnExactDecodeHexWrongFalsely : Prop := fnExactDecodeHexRow.holds Try.pinned (OpenSpec.ofChange fnExactDecodeHexWrong)

/-- 'laws.FnExactDecodeVarint': WHATEVER THE INPUT: true; the input reads as it did. -/
def fnExactDecodeVarintSpec : ChangeSpec := { name := "fnExactDecodeVarint", fn := fun _ => fun
  | [d] => { results := [.lit (.bool true)], args := [d] }
  | _ => none }
def fnExactDecodeVarintRow : OpenClaim := { program := "ytpdakognheolnaa", sum := "c2c11ecc8b9e3a5f4f84d82ef96802b7a1cd8c0f38ab73e0c0c22380d173e4d2", func := "loop.example/g02075/laws.FnExactDecodeVarint", spec := "fnExactDecodeVarint", apart := false }
def FnExactDecodeVarintSaid : Prop := fnExactDecodeVarintRow.holds Try.pinned (OpenSpec.ofChange fnExactDecodeVarintSpec)

/-- ITS FALSE NEIGHBOUR: 'it returns false'. Refute it at one input. -/
def fnExactDecodeVarintWrong : ChangeSpec := { name := "fnExactDecodeVarint", fn := fun _ => fun
  | [d] => { results := [.lit (.bool false)], args := [d] }
  | _ => none }
def FnExactDecodeVarintWrongFalsely : Prop := fnExactDecodeVarintRow.holds Try.pinned (OpenSpec.ofChange fnExactDecodeVarintWrong)

/-- 'laws.FnExactParseInt': WHATEVER THE INPUT: true; the input reads as it did. -/
def fnExactParseIntSpec : ChangeSpec := { name := "fnExactParseInt", fn := fun _ => fun
  | [d] => { results := [.lit (.bool true)], args := [d] }
  | _ => none }
def fnExactParseIntRow : OpenClaim := { program := "ytpdakognheolnaa", sum := "c2c11ecc8b9e3a5f4f84d82ef96802b7a1cd8c0f38ab73e0c0c22380d173e4d2", func := "loop.example/g02075/laws.FnExactParseInt", spec := "fnExactParseInt", apart := false }
def FnExactParseIntSaid : Prop := fnExactParseIntRow.holds Try.pinned (OpenSpec.ofChange fnExactParseIntSpec)

/-- ITS FALSE NEIGHBOUR: 'it returns false'. Refute it at one input. -/
def fnExactParseIntWrong : ChangeSpec := { name := "fnExactParseInt", fn := fun _ => fun
  | [d] => { results := [.lit (.bool false)], args := [d] }
  | _ => none }
def FnExactParseIntWrongFalsely : Prop := fnExactParseIntRow.holds Try.pinned (OpenSpec.ofChange fnExactParseIntWrong)

/-- 'laws.FnExactNewGraph': WHATEVER THE INPUT: true; the input reads as it did. -/
def fnExactNewGraphSpec : ChangeSpec := { name := "fnExactNewGraph", fn := fun _ => fun
  | [d] => { results := [.lit (.bool true)], args := [d] }
  | _ => none }
def fnExactNewGraphRow : OpenClaim := { program := "ytpdakognheolnaa", sum := "c2c11ecc8b9e3a5f4f84d82ef96802b7a1cd8c0f38ab73e0c0c22380d173e4d2", func := "loop.example/g02075/laws.FnExactNewGraph", spec := "fnExactNewGraph", apart := false }
def FnExactNewGraphSaid : Prop := fnExactNewGraphRow.holds Try.pinned (OpenSpec.ofChange fnExactNewGraphSpec)

/-- ITS FALSE NEIGHBOUR: 'it returns false'. Refute it at one input. -/
def fnExactNewGraphWrong : ChangeSpec := { name := "fnExactNewGraph", fn := fun _ => fun
  | [d] => { results := [.lit (.bool false)], args := [d] }
  | _ => none }
def FnExactNewGraphWrongFalsely : Prop := fnExactNewGraphRow.holds Try.pinned (OpenSpec.ofChange fnExactNewGraphWrong)

/-- 'laws.FnIntegerEncodings': WHATEVER THE INPUT: true; the input reads as it did. -/
def fnIntegerEncodingsSpec : ChangeSpec := { name := "fnIntegerEncodings", fn := fun _ => fun
  | [d] => { results := [.lit (.bool true)], args := [d] }
  | _ => none }
def fnIntegerEncodingsRow : OpenClaim := { program := "ytpdakognheolnaa", sum := "c2c11ecc8b9e3a5f4f84d82ef96802b7a1cd8c0f38ab73e0c0c22380d173e4d2", func := "loop.example/g02075/laws.FnIntegerEncodings", spec := "fnIntegerEncodings", apart := false }
def FnIntegerEncodingsSaid : Prop := fnIntegerEncodingsRow.holds Try.pinned (OpenSpec.ofChange fnIntegerEncodingsSpec)

/-- ITS FALSE NEIGHBOUR: 'it returns false'. Refute it at one input. -/
def fnIntegerEncodingsWrong : ChangeSpec := { name := "fnIntegerEncodings", fn := fun _ => fun
  | [d] => { results := [.lit (.bool false)], args := [d] }
  | _ => none }
def FnIntegerEncodingsWrongFalsely : Prop := fnIntegerEncodingsRow.holds Try.pinned (OpenSpec.ofChange fnIntegerEncodingsWrong)

/- THE SECOND FORM. 'bulk': how many values and letters a reading holds, each counted each time it is reached (what is shared counts as often as it is met; a slice's spare places count too). A statement '..UptoSaid' is the law's where the arguments, and the package variables that the reading takes, are together of bulk at most 1048576: NARROWER than '..Said'. Prove '..Said' where nothing that the law and all that it calls make is longer than what came in: it says more and counts as full. Else prove '..UptoSaid'. A law counts once. -/
mutual
def uptoBulk {H : Type} : DataW H → Nat
  | .lit (.string bytes) => bytes.length + 1
  | .lit _ => 1
  | .nil => 1
  | .ptr d => uptoBulk d + 1
  | .slice elems spare => uptoBulkAll elems + uptoBulkAll spare + 1
  | .agg parts => uptoBulkAll parts + 1
  | .iface _ d => uptoBulk d + 1
  | .map entries => uptoBulkEntries entries + 1
  | .held _ => 1
def uptoBulkAll {H : Type} : List (DataW H) → Nat
  | [] => 0
  | d :: r => uptoBulk d + uptoBulkAll r
def uptoBulkEntries {H : Type} : List (Lit × DataW H) → Nat
  | [] => 0
  | x :: r => uptoBulkEntry x + uptoBulkEntries r
def uptoBulkEntry {H : Type} : Lit × DataW H → Nat
  | (.string bytes, d) => bytes.length + uptoBulk d + 1
  | (_, d) => uptoBulk d + 1
 end
def uptoSmall : (H : Type) → List (DataW H) → Bool := fun _ ds => decide (uptoBulkAll ds ≤ 1048576)
def OpenSpec.upto (s : _root_.Go.ChangeSpec) : _root_.Go.OpenSpec := { _root_.Go.OpenSpec.ofChange s with cond := some uptoSmall }

/-- 'laws.FnExactConstants', WHERE WHAT IT READS IS OF BULK AT MOST 1048576: true; the input reads as it did. -/
def fnExactConstantsUptoRow : OpenClaim := { program := "ytpdakognheolnaa", sum := "c2c11ecc8b9e3a5f4f84d82ef96802b7a1cd8c0f38ab73e0c0c22380d173e4d2", func := "loop.example/g02075/laws.FnExactConstants", spec := "fnExactConstants", apart := false, narrowed := true }
def FnExactConstantsUptoSaid : Prop := fnExactConstantsUptoRow.holds Try.pinned (OpenSpec.upto fnExactConstantsSpec)

/-- 'laws.FnExactEncodeHex', WHERE WHAT IT READS IS OF BULK AT MOST 1048576: true; the input reads as it did. -/
def fnExactEncodeHexUptoRow : OpenClaim := { program := "ytpdakognheolnaa", sum := "c2c11ecc8b9e3a5f4f84d82ef96802b7a1cd8c0f38ab73e0c0c22380d173e4d2", func := "loop.example/g02075/laws.FnExactEncodeHex", spec := "fnExactEncodeHex", apart := false, narrowed := true }
def FnExactEncodeHexUptoSaid : Prop := fnExactEncodeHexUptoRow.holds Try.pinned (OpenSpec.upto fnExactEncodeHexSpec)

/-- 'laws.FnExactDecodeFixed', WHERE WHAT IT READS IS OF BULK AT MOST 1048576: true; the input reads as it did. -/
def fnExactDecodeFixedUptoRow : OpenClaim := { program := "ytpdakognheolnaa", sum := "c2c11ecc8b9e3a5f4f84d82ef96802b7a1cd8c0f38ab73e0c0c22380d173e4d2", func := "loop.example/g02075/laws.FnExactDecodeFixed", spec := "fnExactDecodeFixed", apart := false, narrowed := true }
def FnExactDecodeFixedUptoSaid : Prop := fnExactDecodeFixedUptoRow.holds Try.pinned (OpenSpec.upto fnExactDecodeFixedSpec)

/-- 'laws.FnExactEncodeVarint', WHERE WHAT IT READS IS OF BULK AT MOST 1048576: true; the input reads as it did. -/
def fnExactEncodeVarintUptoRow : OpenClaim := { program := "ytpdakognheolnaa", sum := "c2c11ecc8b9e3a5f4f84d82ef96802b7a1cd8c0f38ab73e0c0c22380d173e4d2", func := "loop.example/g02075/laws.FnExactEncodeVarint", spec := "fnExactEncodeVarint", apart := false, narrowed := true }
def FnExactEncodeVarintUptoSaid : Prop := fnExactEncodeVarintUptoRow.holds Try.pinned (OpenSpec.upto fnExactEncodeVarintSpec)

/-- 'laws.FnExactEncodeFixed', WHERE WHAT IT READS IS OF BULK AT MOST 1048576: true; the input reads as it did. -/
def fnExactEncodeFixedUptoRow : OpenClaim := { program := "ytpdakognheolnaa", sum := "c2c11ecc8b9e3a5f4f84d82ef96802b7a1cd8c0f38ab73e0c0c22380d173e4d2", func := "loop.example/g02075/laws.FnExactEncodeFixed", spec := "fnExactEncodeFixed", apart := false, narrowed := true }
def FnExactEncodeFixedUptoSaid : Prop := fnExactEncodeFixedUptoRow.holds Try.pinned (OpenSpec.upto fnExactEncodeFixedSpec)

/-- 'laws.FnExactCompareEdges', WHERE WHAT IT READS IS OF BULK AT MOST 1048576: true; the input reads as it did. -/
def fnExactCompareEdgesUptoRow : OpenClaim := { program := "ytpdakognheolnaa", sum := "c2c11ecc8b9e3a5f4f84d82ef96802b7a1cd8c0f38ab73e0c0c22380d173e4d2", func := "loop.example/g02075/laws.FnExactCompareEdges", spec := "fnExactCompareEdges", apart := false, narrowed := true }
def FnExactCompareEdgesUptoSaid : Prop := fnExactCompareEdgesUptoRow.holds Try.pinned (OpenSpec.upto fnExactCompareEdgesSpec)

/-- 'laws.FnExactFormatInt', WHERE WHAT IT READS IS OF BULK AT MOST 1048576: true; the input reads as it did. -/
def fnExactFormatIntUptoRow : OpenClaim := { program := "ytpdakognheolnaa", sum := "c2c11ecc8b9e3a5f4f84d82ef96802b7a1cd8c0f38ab73e0c0c22380d173e4d2", func := "loop.example/g02075/laws.FnExactFormatInt", spec := "fnExactFormatInt", apart := false, narrowed := true }
def FnExactFormatIntUptoSaid : Prop := fnExactFormatIntUptoRow.holds Try.pinned (OpenSpec.upto fnExactFormatIntSpec)

/-- 'laws.FnExactDecodeHex', WHERE WHAT IT READS IS OF BULK AT MOST 1048576: true; the input reads as it did. -/
def fnExactDecodeHexUptoRow : OpenClaim := { program := "ytpdakognheolnaa", sum := "c2c11ecc8b9e3a5f4f84d82ef96802b7a1cd8c0f38ab73e0c0c22380d173e4d2", func := "loop.example/g02075/laws.FnExactDecodeHex", spec := "fnExactDecodeHex", apart := false, narrowed := true }
def FnExactDecodeHexUptoSaid : Prop := fnExactDecodeHexUptoRow.holds Try.pinned (OpenSpec.upto fnExactDecodeHexSpec)

/-- 'laws.FnExactDecodeVarint', WHERE WHAT IT READS IS OF BULK AT MOST 1048576: true; the input reads as it did. -/
def fnExactDecodeVarintUptoRow : OpenClaim := { program := "ytpdakognheolnaa", sum := "c2c11ecc8b9e3a5f4f84d82ef96802b7a1cd8c0f38ab73e0c0c22380d173e4d2", func := "loop.example/g02075/laws.FnExactDecodeVarint", spec := "fnExactDecodeVarint", apart := false, narrowed := true }
def FnExactDecodeVarintUptoSaid : Prop := fnExactDecodeVarintUptoRow.holds Try.pinned (OpenSpec.upto fnExactDecodeVarintSpec)

/-- 'laws.FnExactParseInt', WHERE WHAT IT READS IS OF BULK AT MOST 1048576: true; the input reads as it did. -/
def fnExactParseIntUptoRow : OpenClaim := { program := "ytpdakognheolnaa", sum := "c2c11ecc8b9e3a5f4f84d82ef96802b7a1cd8c0f38ab73e0c0c22380d173e4d2", func := "loop.example/g02075/laws.FnExactParseInt", spec := "fnExactParseInt", apart := false, narrowed := true }
def FnExactParseIntUptoSaid : Prop := fnExactParseIntUptoRow.holds Try.pinned (OpenSpec.upto fnExactParseIntSpec)

/-- 'laws.FnExactNewGraph', WHERE WHAT IT READS IS OF BULK AT MOST 1048576: true; the input reads as it did. -/
def fnExactNewGraphUptoRow : OpenClaim := { program := "ytpdakognheolnaa", sum := "c2c11ecc8b9e3a5f4f84d82ef96802b7a1cd8c0f38ab73e0c0c22380d173e4d2", func := "loop.example/g02075/laws.FnExactNewGraph", spec := "fnExactNewGraph", apart := false, narrowed := true }
def FnExactNewGraphUptoSaid : Prop := fnExactNewGraphUptoRow.holds Try.pinned (OpenSpec.upto fnExactNewGraphSpec)

/-- 'laws.FnIntegerEncodings', WHERE WHAT IT READS IS OF BULK AT MOST 1048576: true; the input reads as it did. -/
def fnIntegerEncodingsUptoRow : OpenClaim := { program := "ytpdakognheolnaa", sum := "c2c11ecc8b9e3a5f4f84d82ef96802b7a1cd8c0f38ab73e0c0c22380d173e4d2", func := "loop.example/g02075/laws.FnIntegerEncodings", spec := "fnIntegerEncodings", apart := false, narrowed := true }
def FnIntegerEncodingsUptoSaid : Prop := fnIntegerEncodingsUptoRow.holds Try.pinned (OpenSpec.upto fnIntegerEncodingsSpec)

end Rows
end Go.Proofs.Ytpdakognheolnaa
