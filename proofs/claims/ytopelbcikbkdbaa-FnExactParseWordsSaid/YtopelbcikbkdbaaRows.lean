/-
  No cell of these rows narrows 'for every input' (looked for: loops, veiled, ifaces, maps, wideKeys, modest, calm, conditions, laid).
  DERIVED. THE GIVEN ROWS OF THIS SEAT. 12 by the template 'for every input the law returns true; each argument reads behind the call as it read before'; 0 by the template 'total and deterministic' (their statements: YtopelbcikbkdbaaTotals.lean).
  GIVEN WITH THE SEED: the statements are not yours to turn. If you find one false, say at which input.
  Laid BY PROGRAM, IN A SANDBOX (cutbox-rows.mjs): the forced cells as the released guide's own fill.sh prints them over the translation 07221b895763aa22… (all of the seat's roots in one cut). By AI agents, Wed Nov 11 2026. No macro, syntax, notation, axiom, sorry.
-/
import Derived.Test.YtopelbcikbkdbaaChecked
import GoSem.Claim
import GoSem.ClaimJoined
import GoSem.ClaimMapViews
import Derived.JoinedTies
import Derived.KernelRfl
namespace Go.Proofs.Ytopelbcikbkdbaa
/- THE CELL 'sum', in the pinned program and in every row, IS THE sha256 OF THE DUMP (.gsa) THAT YtopelbcikbkdbaaProg.lean LOADS. Nothing in Lean hashes anything: it is a label: what it is worth is what the hold of that sum in a sandbox is worth. -/
noncomputable def Try.pinned : Pinned := { name := "ytopelbcikbkdbaa", sum := "07221b895763aa2276554d60977195727c477f65ff2a41d18efdbcb83bf52df9", checked := Try.checked }
namespace Rows
def none {H : Type} : Left H := { results := [], args := [] }

/-- 'laws.FnExactTotalLength': WHATEVER THE INPUT: true; the input reads as it did. -/
def fnExactTotalLengthSpec : ChangeSpec := { name := "fnExactTotalLength", fn := fun _ => fun
  | [d] => { results := [.lit (.bool true)], args := [d] }
  | _ => none }
def fnExactTotalLengthRow : OpenClaim := { program := "ytopelbcikbkdbaa", sum := "07221b895763aa2276554d60977195727c477f65ff2a41d18efdbcb83bf52df9", func := "loop.example/g02075/laws.FnExactTotalLength", spec := "fnExactTotalLength", apart := false }
def FnExactTotalLengthSaid : Prop := fnExactTotalLengthRow.holds Try.pinned (OpenSpec.ofChange fnExactTotalLengthSpec)

/-- ITS FALSE NEIGHBOUR: 'it returns false'. Refute it at one input. -/
def fnExactTotalLengthWrong : ChangeSpec := { name := "fnExactTotalLength", fn := fun _ => fun
  | [d] => { results := [.lit (.bool false)], args := [d] }
  | _ => none }
def FnExactTotalLengthWrongFalsely : Prop := fnExactTotalLengthRow.holds Try.pinned (OpenSpec.ofChange fnExactTotalLengthWrong)

/-- 'laws.FnExactEqualWordLists': WHATEVER THE INPUT: true; the input reads as it did. -/
def fnExactEqualWordListsSpec : ChangeSpec := { name := "fnExactEqualWordLists", fn := fun _ => fun
  | [d1, d2] => { results := [.lit (.bool true)], args := [d1, d2] }
  | _ => none }
def fnExactEqualWordListsRow : OpenClaim := { program := "ytopelbcikbkdbaa", sum := "07221b895763aa2276554d60977195727c477f65ff2a41d18efdbcb83bf52df9", func := "loop.example/g02075/laws.FnExactEqualWordLists", spec := "fnExactEqualWordLists", apart := false }
def FnExactEqualWordListsSaid : Prop := fnExactEqualWordListsRow.holds Try.pinned (OpenSpec.ofChange fnExactEqualWordListsSpec)

/-- ITS FALSE NEIGHBOUR: 'it returns false'. Refute it at one input. -/
def fnExactEqualWordListsWrong : ChangeSpec := { name := "fnExactEqualWordLists", fn := fun _ => fun
  | [d1, d2] => { results := [.lit (.bool false)], args := [d1, d2] }
  | _ => none }
def FnExactEqualWordListsWrongFalsely : Prop := fnExactEqualWordListsRow.holds Try.pinned (OpenSpec.ofChange fnExactEqualWordListsWrong)

/-- 'laws.FnExactAreWords': WHATEVER THE INPUT: true; the input reads as it did. -/
def fnExactAreWordsSpec : ChangeSpec := { name := "fnExactAreWords", fn := fun _ => fun
  | [d1, d2] => { results := [.lit (.bool true)], args := [d1, d2] }
  | _ => none }
def fnExactAreWordsRow : OpenClaim := { program := "ytopelbcikbkdbaa", sum := "07221b895763aa2276554d60977195727c477f65ff2a41d18efdbcb83bf52df9", func := "loop.example/g02075/laws.FnExactAreWords", spec := "fnExactAreWords", apart := false }
def FnExactAreWordsSaid : Prop := fnExactAreWordsRow.holds Try.pinned (OpenSpec.ofChange fnExactAreWordsSpec)

/-- ITS FALSE NEIGHBOUR: 'it returns false'. Refute it at one input. -/
def fnExactAreWordsWrong : ChangeSpec := { name := "fnExactAreWords", fn := fun _ => fun
  | [d1, d2] => { results := [.lit (.bool false)], args := [d1, d2] }
  | _ => none }
def FnExactAreWordsWrongFalsely : Prop := fnExactAreWordsRow.holds Try.pinned (OpenSpec.ofChange fnExactAreWordsWrong)

/-- 'laws.FnExactFormatWords': WHATEVER THE INPUT: true; the input reads as it did. -/
def fnExactFormatWordsSpec : ChangeSpec := { name := "fnExactFormatWords", fn := fun _ => fun
  | [d] => { results := [.lit (.bool true)], args := [d] }
  | _ => none }
def fnExactFormatWordsRow : OpenClaim := { program := "ytopelbcikbkdbaa", sum := "07221b895763aa2276554d60977195727c477f65ff2a41d18efdbcb83bf52df9", func := "loop.example/g02075/laws.FnExactFormatWords", spec := "fnExactFormatWords", apart := false }
def FnExactFormatWordsSaid : Prop := fnExactFormatWordsRow.holds Try.pinned (OpenSpec.ofChange fnExactFormatWordsSpec)

/-- ITS FALSE NEIGHBOUR: 'it returns false'. Refute it at one input. -/
def fnExactFormatWordsWrong : ChangeSpec := { name := "fnExactFormatWords", fn := fun _ => fun
  | [d] => { results := [.lit (.bool false)], args := [d] }
  | _ => none }
def FnExactFormatWordsWrongFalsely : Prop := fnExactFormatWordsRow.holds Try.pinned (OpenSpec.ofChange fnExactFormatWordsWrong)

/-- 'laws.FnExactParseWords': WHATEVER THE INPUT: true; the input reads as it did. -/
def fnExactParseWordsSpec : ChangeSpec := { name := "fnExactParseWords", fn := fun _ => fun
  | [d1, d2] => { results := [.lit (.bool true)], args := [d1, d2] }
  | _ => none }
def fnExactParseWordsRow : OpenClaim := { program := "ytopelbcikbkdbaa", sum := "07221b895763aa2276554d60977195727c477f65ff2a41d18efdbcb83bf52df9", func := "loop.example/g02075/laws.FnExactParseWords", spec := "fnExactParseWords", apart := false }
def FnExactParseWordsSaid : Prop := fnExactParseWordsRow.holds Try.pinned (OpenSpec.ofChange fnExactParseWordsSpec)

/-- ITS FALSE NEIGHBOUR: 'it returns false'. Refute it at one input. -/
def fnExactParseWordsWrong : ChangeSpec := { name := "fnExactParseWords", fn := fun _ => fun
  | [d1, d2] => { results := [.lit (.bool false)], args := [d1, d2] }
  | _ => none }
def FnExactParseWordsWrongFalsely : Prop := fnExactParseWordsRow.holds Try.pinned (OpenSpec.ofChange fnExactParseWordsWrong)

/-- 'laws.FnExactRotateWord': WHATEVER THE INPUT: true; the input reads as it did. -/
def fnExactRotateWordSpec : ChangeSpec := { name := "fnExactRotateWord", fn := fun _ => fun
  | [d1, d2] => { results := [.lit (.bool true)], args := [d1, d2] }
  | _ => none }
def fnExactRotateWordRow : OpenClaim := { program := "ytopelbcikbkdbaa", sum := "07221b895763aa2276554d60977195727c477f65ff2a41d18efdbcb83bf52df9", func := "loop.example/g02075/laws.FnExactRotateWord", spec := "fnExactRotateWord", apart := false }
def FnExactRotateWordSaid : Prop := fnExactRotateWordRow.holds Try.pinned (OpenSpec.ofChange fnExactRotateWordSpec)

/-- ITS FALSE NEIGHBOUR: 'it returns false'. Refute it at one input. -/
def fnExactRotateWordWrong : ChangeSpec := { name := "fnExactRotateWord", fn := fun _ => fun
  | [d1, d2] => { results := [.lit (.bool false)], args := [d1, d2] }
  | _ => none }
def FnExactRotateWordWrongFalsely : Prop := fnExactRotateWordRow.holds Try.pinned (OpenSpec.ofChange fnExactRotateWordWrong)

/-- 'laws.FnExactCyclicLength': WHATEVER THE INPUT: true; the input reads as it did. -/
def fnExactCyclicLengthSpec : ChangeSpec := { name := "fnExactCyclicLength", fn := fun _ => fun
  | [d] => { results := [.lit (.bool true)], args := [d] }
  | _ => none }
def fnExactCyclicLengthRow : OpenClaim := { program := "ytopelbcikbkdbaa", sum := "07221b895763aa2276554d60977195727c477f65ff2a41d18efdbcb83bf52df9", func := "loop.example/g02075/laws.FnExactCyclicLength", spec := "fnExactCyclicLength", apart := false }
def FnExactCyclicLengthSaid : Prop := fnExactCyclicLengthRow.holds Try.pinned (OpenSpec.ofChange fnExactCyclicLengthSpec)

/-- ITS FALSE NEIGHBOUR: 'it returns false'. Refute it at one input. -/
def fnExactCyclicLengthWrong : ChangeSpec := { name := "fnExactCyclicLength", fn := fun _ => fun
  | [d] => { results := [.lit (.bool false)], args := [d] }
  | _ => none }
def FnExactCyclicLengthWrongFalsely : Prop := fnExactCyclicLengthRow.holds Try.pinned (OpenSpec.ofChange fnExactCyclicLengthWrong)

/-- 'laws.FnExactCyclicCore': WHATEVER THE INPUT: true; the input reads as it did. -/
def fnExactCyclicCoreSpec : ChangeSpec := { name := "fnExactCyclicCore", fn := fun _ => fun
  | [d] => { results := [.lit (.bool true)], args := [d] }
  | _ => none }
def fnExactCyclicCoreRow : OpenClaim := { program := "ytopelbcikbkdbaa", sum := "07221b895763aa2276554d60977195727c477f65ff2a41d18efdbcb83bf52df9", func := "loop.example/g02075/laws.FnExactCyclicCore", spec := "fnExactCyclicCore", apart := false }
def FnExactCyclicCoreSaid : Prop := fnExactCyclicCoreRow.holds Try.pinned (OpenSpec.ofChange fnExactCyclicCoreSpec)

/-- ITS FALSE NEIGHBOUR: 'it returns false'. Refute it at one input. -/
def fnExactCyclicCoreWrong : ChangeSpec := { name := "fnExactCyclicCore", fn := fun _ => fun
  | [d] => { results := [.lit (.bool false)], args := [d] }
  | _ => none }
def FnExactCyclicCoreWrongFalsely : Prop := fnExactCyclicCoreRow.holds Try.pinned (OpenSpec.ofChange fnExactCyclicCoreWrong)

/-- 'laws.FnExactLeastRotation': WHATEVER THE INPUT: true; the input reads as it did. -/
def fnExactLeastRotationSpec : ChangeSpec := { name := "fnExactLeastRotation", fn := fun _ => fun
  | [d] => { results := [.lit (.bool true)], args := [d] }
  | _ => none }
def fnExactLeastRotationRow : OpenClaim := { program := "ytopelbcikbkdbaa", sum := "07221b895763aa2276554d60977195727c477f65ff2a41d18efdbcb83bf52df9", func := "loop.example/g02075/laws.FnExactLeastRotation", spec := "fnExactLeastRotation", apart := false }
def FnExactLeastRotationSaid : Prop := fnExactLeastRotationRow.holds Try.pinned (OpenSpec.ofChange fnExactLeastRotationSpec)

/-- ITS FALSE NEIGHBOUR: 'it returns false'. Refute it at one input. -/
def fnExactLeastRotationWrong : ChangeSpec := { name := "fnExactLeastRotation", fn := fun _ => fun
  | [d] => { results := [.lit (.bool false)], args := [d] }
  | _ => none }
def FnExactLeastRotationWrongFalsely : Prop := fnExactLeastRotationRow.holds Try.pinned (OpenSpec.ofChange fnExactLeastRotationWrong)

/-- 'laws.FnExactIsProperPower': WHATEVER THE INPUT: true; the input reads as it did. -/
def fnExactIsProperPowerSpec : ChangeSpec := { name := "fnExactIsProperPower", fn := fun _ => fun
  | [d] => { results := [.lit (.bool true)], args := [d] }
  | _ => none }
def fnExactIsProperPowerRow : OpenClaim := { program := "ytopelbcikbkdbaa", sum := "07221b895763aa2276554d60977195727c477f65ff2a41d18efdbcb83bf52df9", func := "loop.example/g02075/laws.FnExactIsProperPower", spec := "fnExactIsProperPower", apart := false }
def FnExactIsProperPowerSaid : Prop := fnExactIsProperPowerRow.holds Try.pinned (OpenSpec.ofChange fnExactIsProperPowerSpec)

/-- ITS FALSE NEIGHBOUR: 'it returns false'. Refute it at one input. -/
def fnExactIsProperPowerWrong : ChangeSpec := { name := "fnExactIsProperPower", fn := fun _ => fun
  | [d] => { results := [.lit (.bool false)], args := [d] }
  | _ => none }
def FnExactIsProperPowerWrongFalsely : Prop := fnExactIsProperPowerRow.holds Try.pinned (OpenSpec.ofChange fnExactIsProperPowerWrong)

/-- 'laws.FnExactRootOf': WHATEVER THE INPUT: true; the input reads as it did. -/
def fnExactRootOfSpec : ChangeSpec := { name := "fnExactRootOf", fn := fun _ => fun
  | [d] => { results := [.lit (.bool true)], args := [d] }
  | _ => none }
def fnExactRootOfRow : OpenClaim := { program := "ytopelbcikbkdbaa", sum := "07221b895763aa2276554d60977195727c477f65ff2a41d18efdbcb83bf52df9", func := "loop.example/g02075/laws.FnExactRootOf", spec := "fnExactRootOf", apart := false }
def FnExactRootOfSaid : Prop := fnExactRootOfRow.holds Try.pinned (OpenSpec.ofChange fnExactRootOfSpec)

/-- ITS FALSE NEIGHBOUR: 'it returns false'. Refute it at one input. -/
def fnExactRootOfWrong : ChangeSpec := { name := "fnExactRootOf", fn := fun _ => fun
  | [d] => { results := [.lit (.bool false)], args := [d] }
  | _ => none }
def FnExactRootOfWrongFalsely : Prop := fnExactRootOfRow.holds Try.pinned (OpenSpec.ofChange fnExactRootOfWrong)

/-- 'laws.FnExactAreConjugate': WHATEVER THE INPUT: true; the input reads as it did. -/
def fnExactAreConjugateSpec : ChangeSpec := { name := "fnExactAreConjugate", fn := fun _ => fun
  | [d1, d2] => { results := [.lit (.bool true)], args := [d1, d2] }
  | _ => none }
def fnExactAreConjugateRow : OpenClaim := { program := "ytopelbcikbkdbaa", sum := "07221b895763aa2276554d60977195727c477f65ff2a41d18efdbcb83bf52df9", func := "loop.example/g02075/laws.FnExactAreConjugate", spec := "fnExactAreConjugate", apart := false }
def FnExactAreConjugateSaid : Prop := fnExactAreConjugateRow.holds Try.pinned (OpenSpec.ofChange fnExactAreConjugateSpec)

/-- ITS FALSE NEIGHBOUR: 'it returns false'. Refute it at one input. -/
def fnExactAreConjugateWrong : ChangeSpec := { name := "fnExactAreConjugate", fn := fun _ => fun
  | [d1, d2] => { results := [.lit (.bool false)], args := [d1, d2] }
  | _ => none }
def FnExactAreConjugateWrongFalsely : Prop := fnExactAreConjugateRow.holds Try.pinned (OpenSpec.ofChange fnExactAreConjugateWrong)

/- THE SECOND FORM. 'bulk': how many values and letters a reading holds, each counted each time it is reached (what is shared counts as often as it is met; a slice's spare places count too). A statement '..UptoSaid' is the law's where the arguments, and the package variables that the reading takes, are together of bulk at most 1048576: NARROWER than '..Said'. Prove '..Said' where nothing that the law and all that it calls make is longer than what came in: it says more and counts as full. Else prove '..UptoSaid'. A law counts once. -/
mutual
def uptoBulk {H : Type} : DataW H → Nat
  | .lit (.string bytes) => bytes.length + 1
  | .lit _ => 1
  | .nil => 1
  | .ptr d => uptoBulk d + 1
  | .slice elems spare => uptoBulkAll elems + uptoBulkAll spare + 1
  | .agg parts => uptoBulkAll parts + 1
  | .iface _ d => uptoBulk d + 1
  | .map entries => uptoBulkEntries entries + 1
  | .held _ => 1
def uptoBulkAll {H : Type} : List (DataW H) → Nat
  | [] => 0
  | d :: r => uptoBulk d + uptoBulkAll r
def uptoBulkEntries {H : Type} : List (Lit × DataW H) → Nat
  | [] => 0
  | x :: r => uptoBulkEntry x + uptoBulkEntries r
def uptoBulkEntry {H : Type} : Lit × DataW H → Nat
  | (.string bytes, d) => bytes.length + uptoBulk d + 1
  | (_, d) => uptoBulk d + 1
 end
def uptoSmall : (H : Type) → List (DataW H) → Bool := fun _ ds => decide (uptoBulkAll ds ≤ 1048576)
def OpenSpec.upto (s : _root_.Go.ChangeSpec) : _root_.Go.OpenSpec := { _root_.Go.OpenSpec.ofChange s with cond := some uptoSmall }

/-- 'laws.FnExactTotalLength', WHERE WHAT IT READS IS OF BULK AT MOST 1048576: true; the input reads as it did. -/
def fnExactTotalLengthUptoRow : OpenClaim := { program := "ytopelbcikbkdbaa", sum := "07221b895763aa2276554d60977195727c477f65ff2a41d18efdbcb83bf52df9", func := "loop.example/g02075/laws.FnExactTotalLength", spec := "fnExactTotalLength", apart := false, narrowed := true }
def FnExactTotalLengthUptoSaid : Prop := fnExactTotalLengthUptoRow.holds Try.pinned (OpenSpec.upto fnExactTotalLengthSpec)

/-- 'laws.FnExactEqualWordLists', WHERE WHAT IT READS IS OF BULK AT MOST 1048576: true; the input reads as it did. -/
def fnExactEqualWordListsUptoRow : OpenClaim := { program := "ytopelbcikbkdbaa", sum := "07221b895763aa2276554d60977195727c477f65ff2a41d18efdbcb83bf52df9", func := "loop.example/g02075/laws.FnExactEqualWordLists", spec := "fnExactEqualWordLists", apart := false, narrowed := true }
def FnExactEqualWordListsUptoSaid : Prop := fnExactEqualWordListsUptoRow.holds Try.pinned (OpenSpec.upto fnExactEqualWordListsSpec)

/-- 'laws.FnExactAreWords', WHERE WHAT IT READS IS OF BULK AT MOST 1048576: true; the input reads as it did. -/
def fnExactAreWordsUptoRow : OpenClaim := { program := "ytopelbcikbkdbaa", sum := "07221b895763aa2276554d60977195727c477f65ff2a41d18efdbcb83bf52df9", func := "loop.example/g02075/laws.FnExactAreWords", spec := "fnExactAreWords", apart := false, narrowed := true }
def FnExactAreWordsUptoSaid : Prop := fnExactAreWordsUptoRow.holds Try.pinned (OpenSpec.upto fnExactAreWordsSpec)

/-- 'laws.FnExactFormatWords', WHERE WHAT IT READS IS OF BULK AT MOST 1048576: true; the input reads as it did. -/
def fnExactFormatWordsUptoRow : OpenClaim := { program := "ytopelbcikbkdbaa", sum := "07221b895763aa2276554d60977195727c477f65ff2a41d18efdbcb83bf52df9", func := "loop.example/g02075/laws.FnExactFormatWords", spec := "fnExactFormatWords", apart := false, narrowed := true }
def FnExactFormatWordsUptoSaid : Prop := fnExactFormatWordsUptoRow.holds Try.pinned (OpenSpec.upto fnExactFormatWordsSpec)

/-- 'laws.FnExactParseWords', WHERE WHAT IT READS IS OF BULK AT MOST 1048576: true; the input reads as it did. -/
def fnExactParseWordsUptoRow : OpenClaim := { program := "ytopelbcikbkdbaa", sum := "07221b895763aa2276554d60977195727c477f65ff2a41d18efdbcb83bf52df9", func := "loop.example/g02075/laws.FnExactParseWords", spec := "fnExactParseWords", apart := false, narrowed := true }
def FnExactParseWordsUptoSaid : Prop := fnExactParseWordsUptoRow.holds Try.pinned (OpenSpec.upto fnExactParseWordsSpec)

/-- 'laws.FnExactRotateWord', WHERE WHAT IT READS IS OF BULK AT MOST 1048576: true; the input reads as it did. -/
def fnExactRotateWordUptoRow : OpenClaim := { program := "ytopelbcikbkdbaa", sum := "07221b895763aa2276554d60977195727c477f65ff2a41d18efdbcb83bf52df9", func := "loop.example/g02075/laws.FnExactRotateWord", spec := "fnExactRotateWord", apart := false, narrowed := true }
def FnExactRotateWordUptoSaid : Prop := fnExactRotateWordUptoRow.holds Try.pinned (OpenSpec.upto fnExactRotateWordSpec)

/-- 'laws.FnExactCyclicLength', WHERE WHAT IT READS IS OF BULK AT MOST 1048576: true; the input reads as it did. -/
def fnExactCyclicLengthUptoRow : OpenClaim := { program := "ytopelbcikbkdbaa", sum := "07221b895763aa2276554d60977195727c477f65ff2a41d18efdbcb83bf52df9", func := "loop.example/g02075/laws.FnExactCyclicLength", spec := "fnExactCyclicLength", apart := false, narrowed := true }
def FnExactCyclicLengthUptoSaid : Prop := fnExactCyclicLengthUptoRow.holds Try.pinned (OpenSpec.upto fnExactCyclicLengthSpec)

/-- 'laws.FnExactCyclicCore', WHERE WHAT IT READS IS OF BULK AT MOST 1048576: true; the input reads as it did. -/
def fnExactCyclicCoreUptoRow : OpenClaim := { program := "ytopelbcikbkdbaa", sum := "07221b895763aa2276554d60977195727c477f65ff2a41d18efdbcb83bf52df9", func := "loop.example/g02075/laws.FnExactCyclicCore", spec := "fnExactCyclicCore", apart := false, narrowed := true }
def FnExactCyclicCoreUptoSaid : Prop := fnExactCyclicCoreUptoRow.holds Try.pinned (OpenSpec.upto fnExactCyclicCoreSpec)

/-- 'laws.FnExactLeastRotation', WHERE WHAT IT READS IS OF BULK AT MOST 1048576: true; the input reads as it did. -/
def fnExactLeastRotationUptoRow : OpenClaim := { program := "ytopelbcikbkdbaa", sum := "07221b895763aa2276554d60977195727c477f65ff2a41d18efdbcb83bf52df9", func := "loop.example/g02075/laws.FnExactLeastRotation", spec := "fnExactLeastRotation", apart := false, narrowed := true }
def FnExactLeastRotationUptoSaid : Prop := fnExactLeastRotationUptoRow.holds Try.pinned (OpenSpec.upto fnExactLeastRotationSpec)

/-- 'laws.FnExactIsProperPower', WHERE WHAT IT READS IS OF BULK AT MOST 1048576: true; the input reads as it did. -/
def fnExactIsProperPowerUptoRow : OpenClaim := { program := "ytopelbcikbkdbaa", sum := "07221b895763aa2276554d60977195727c477f65ff2a41d18efdbcb83bf52df9", func := "loop.example/g02075/laws.FnExactIsProperPower", spec := "fnExactIsProperPower", apart := false, narrowed := true }
def FnExactIsProperPowerUptoSaid : Prop := fnExactIsProperPowerUptoRow.holds Try.pinned (OpenSpec.upto fnExactIsProperPowerSpec)

/-- 'laws.FnExactRootOf', WHERE WHAT IT READS IS OF BULK AT MOST 1048576: true; the input reads as it did. -/
def fnExactRootOfUptoRow : OpenClaim := { program := "ytopelbcikbkdbaa", sum := "07221b895763aa2276554d60977195727c477f65ff2a41d18efdbcb83bf52df9", func := "loop.example/g02075/laws.FnExactRootOf", spec := "fnExactRootOf", apart := false, narrowed := true }
def FnExactRootOfUptoSaid : Prop := fnExactRootOfUptoRow.holds Try.pinned (OpenSpec.upto fnExactRootOfSpec)

/-- 'laws.FnExactAreConjugate', WHERE WHAT IT READS IS OF BULK AT MOST 1048576: true; the input reads as it did. -/
def fnExactAreConjugateUptoRow : OpenClaim := { program := "ytopelbcikbkdbaa", sum := "07221b895763aa2276554d60977195727c477f65ff2a41d18efdbcb83bf52df9", func := "loop.example/g02075/laws.FnExactAreConjugate", spec := "fnExactAreConjugate", apart := false, narrowed := true }
def FnExactAreConjugateUptoSaid : Prop := fnExactAreConjugateUptoRow.holds Try.pinned (OpenSpec.upto fnExactAreConjugateSpec)

end Rows
end Go.Proofs.Ytopelbcikbkdbaa
