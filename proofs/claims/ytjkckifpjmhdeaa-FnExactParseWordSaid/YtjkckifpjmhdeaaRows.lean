/-
  No cell of these rows narrows 'for every input' (looked for: loops, veiled, ifaces, maps, wideKeys, modest, calm, conditions, laid).
  DERIVED. THE GIVEN ROWS OF THIS SEAT. 12 by the template 'for every input the law returns true; each argument reads behind the call as it read before'; 0 by the template 'total and deterministic' (their statements: YtjkckifpjmhdeaaTotals.lean).
  GIVEN WITH THE SEED: the statements are not yours to turn. If you find one false, say at which input.
  Laid BY PROGRAM, IN A SANDBOX (cutbox-rows.mjs): the forced cells as the released guide's own fill.sh prints them over the translation aebd75e9ec389f2a… (all of the seat's roots in one cut). By AI agents, Wed Nov 11 2026. No macro, syntax, notation, axiom, sorry.
-/
import Derived.Test.YtjkckifpjmhdeaaChecked
import GoSem.Claim
import GoSem.ClaimJoined
import GoSem.ClaimMapViews
import Derived.JoinedTies
import Derived.KernelRfl
namespace Go.Proofs.Ytjkckifpjmhdeaa
/- THE CELL 'sum', in the pinned program and in every row, IS THE sha256 OF THE DUMP (.gsa) THAT YtjkckifpjmhdeaaProg.lean LOADS. Nothing in Lean hashes anything: it is a label: what it is worth is what the hold of that sum in a sandbox is worth. -/
noncomputable def Try.pinned : Pinned := { name := "ytjkckifpjmhdeaa", sum := "aebd75e9ec389f2a8493374d8db280f583145417a2bd794f0cc4b3c364f2ab77", checked := Try.checked }
namespace Rows
def none {H : Type} : Left H := { results := [], args := [] }

/-- 'laws.FnExactEqualWords': WHATEVER THE INPUT: true; the input reads as it did. -/
def fnExactEqualWordsSpec : ChangeSpec := { name := "fnExactEqualWords", fn := fun _ => fun
  | [d1, d2] => { results := [.lit (.bool true)], args := [d1, d2] }
  | _ => none }
def fnExactEqualWordsRow : OpenClaim := { program := "ytjkckifpjmhdeaa", sum := "aebd75e9ec389f2a8493374d8db280f583145417a2bd794f0cc4b3c364f2ab77", func := "loop.example/g02075/laws.FnExactEqualWords", spec := "fnExactEqualWords", apart := false }
def FnExactEqualWordsSaid : Prop := fnExactEqualWordsRow.holds Try.pinned (OpenSpec.ofChange fnExactEqualWordsSpec)

/-- ITS FALSE NEIGHBOUR: 'it returns false'. Refute it at one input. -/
def fnExactEqualWordsWrong : ChangeSpec := { name := "fnExactEqualWords", fn := fun _ => fun
  | [d1, d2] => { results := [.lit (.bool false)], args := [d1, d2] }
  | _ => none }
def FnExactEqualWordsWrongFalsely : Prop := fnExactEqualWordsRow.holds Try.pinned (OpenSpec.ofChange fnExactEqualWordsWrong)

/-- 'laws.FnExactIsWord': WHATEVER THE INPUT: true; the input reads as it did. -/
def fnExactIsWordSpec : ChangeSpec := { name := "fnExactIsWord", fn := fun _ => fun
  | [d1, d2] => { results := [.lit (.bool true)], args := [d1, d2] }
  | _ => none }
def fnExactIsWordRow : OpenClaim := { program := "ytjkckifpjmhdeaa", sum := "aebd75e9ec389f2a8493374d8db280f583145417a2bd794f0cc4b3c364f2ab77", func := "loop.example/g02075/laws.FnExactIsWord", spec := "fnExactIsWord", apart := false }
def FnExactIsWordSaid : Prop := fnExactIsWordRow.holds Try.pinned (OpenSpec.ofChange fnExactIsWordSpec)

/-- ITS FALSE NEIGHBOUR: 'it returns false'. Refute it at one input. -/
def fnExactIsWordWrong : ChangeSpec := { name := "fnExactIsWord", fn := fun _ => fun
  | [d1, d2] => { results := [.lit (.bool false)], args := [d1, d2] }
  | _ => none }
def FnExactIsWordWrongFalsely : Prop := fnExactIsWordRow.holds Try.pinned (OpenSpec.ofChange fnExactIsWordWrong)

/-- 'laws.FnExactInvertWord': WHATEVER THE INPUT: true; the input reads as it did. -/
def fnExactInvertWordSpec : ChangeSpec := { name := "fnExactInvertWord", fn := fun _ => fun
  | [d] => { results := [.lit (.bool true)], args := [d] }
  | _ => none }
def fnExactInvertWordRow : OpenClaim := { program := "ytjkckifpjmhdeaa", sum := "aebd75e9ec389f2a8493374d8db280f583145417a2bd794f0cc4b3c364f2ab77", func := "loop.example/g02075/laws.FnExactInvertWord", spec := "fnExactInvertWord", apart := false }
def FnExactInvertWordSaid : Prop := fnExactInvertWordRow.holds Try.pinned (OpenSpec.ofChange fnExactInvertWordSpec)

/-- ITS FALSE NEIGHBOUR: 'it returns false'. Refute it at one input. -/
def fnExactInvertWordWrong : ChangeSpec := { name := "fnExactInvertWord", fn := fun _ => fun
  | [d] => { results := [.lit (.bool false)], args := [d] }
  | _ => none }
def FnExactInvertWordWrongFalsely : Prop := fnExactInvertWordRow.holds Try.pinned (OpenSpec.ofChange fnExactInvertWordWrong)

/-- 'laws.FnExactReduceLetters': WHATEVER THE INPUT: true; the input reads as it did. -/
def fnExactReduceLettersSpec : ChangeSpec := { name := "fnExactReduceLetters", fn := fun _ => fun
  | [d] => { results := [.lit (.bool true)], args := [d] }
  | _ => none }
def fnExactReduceLettersRow : OpenClaim := { program := "ytjkckifpjmhdeaa", sum := "aebd75e9ec389f2a8493374d8db280f583145417a2bd794f0cc4b3c364f2ab77", func := "loop.example/g02075/laws.FnExactReduceLetters", spec := "fnExactReduceLetters", apart := false }
def FnExactReduceLettersSaid : Prop := fnExactReduceLettersRow.holds Try.pinned (OpenSpec.ofChange fnExactReduceLettersSpec)

/-- ITS FALSE NEIGHBOUR: 'it returns false'. Refute it at one input. -/
def fnExactReduceLettersWrong : ChangeSpec := { name := "fnExactReduceLetters", fn := fun _ => fun
  | [d] => { results := [.lit (.bool false)], args := [d] }
  | _ => none }
def FnExactReduceLettersWrongFalsely : Prop := fnExactReduceLettersRow.holds Try.pinned (OpenSpec.ofChange fnExactReduceLettersWrong)

/-- 'laws.FnExactFormatWord': WHATEVER THE INPUT: true; the input reads as it did. -/
def fnExactFormatWordSpec : ChangeSpec := { name := "fnExactFormatWord", fn := fun _ => fun
  | [d] => { results := [.lit (.bool true)], args := [d] }
  | _ => none }
def fnExactFormatWordRow : OpenClaim := { program := "ytjkckifpjmhdeaa", sum := "aebd75e9ec389f2a8493374d8db280f583145417a2bd794f0cc4b3c364f2ab77", func := "loop.example/g02075/laws.FnExactFormatWord", spec := "fnExactFormatWord", apart := false }
def FnExactFormatWordSaid : Prop := fnExactFormatWordRow.holds Try.pinned (OpenSpec.ofChange fnExactFormatWordSpec)

/-- ITS FALSE NEIGHBOUR: 'it returns false'. Refute it at one input. -/
def fnExactFormatWordWrong : ChangeSpec := { name := "fnExactFormatWord", fn := fun _ => fun
  | [d] => { results := [.lit (.bool false)], args := [d] }
  | _ => none }
def FnExactFormatWordWrongFalsely : Prop := fnExactFormatWordRow.holds Try.pinned (OpenSpec.ofChange fnExactFormatWordWrong)

/-- 'laws.FnExactMultiplyWords': WHATEVER THE INPUT: true; the input reads as it did. -/
def fnExactMultiplyWordsSpec : ChangeSpec := { name := "fnExactMultiplyWords", fn := fun _ => fun
  | [d1, d2] => { results := [.lit (.bool true)], args := [d1, d2] }
  | _ => none }
def fnExactMultiplyWordsRow : OpenClaim := { program := "ytjkckifpjmhdeaa", sum := "aebd75e9ec389f2a8493374d8db280f583145417a2bd794f0cc4b3c364f2ab77", func := "loop.example/g02075/laws.FnExactMultiplyWords", spec := "fnExactMultiplyWords", apart := false }
def FnExactMultiplyWordsSaid : Prop := fnExactMultiplyWordsRow.holds Try.pinned (OpenSpec.ofChange fnExactMultiplyWordsSpec)

/-- ITS FALSE NEIGHBOUR: 'it returns false'. Refute it at one input. -/
def fnExactMultiplyWordsWrong : ChangeSpec := { name := "fnExactMultiplyWords", fn := fun _ => fun
  | [d1, d2] => { results := [.lit (.bool false)], args := [d1, d2] }
  | _ => none }
def FnExactMultiplyWordsWrongFalsely : Prop := fnExactMultiplyWordsRow.holds Try.pinned (OpenSpec.ofChange fnExactMultiplyWordsWrong)

/-- 'laws.FnExactDoCommute': WHATEVER THE INPUT: true; the input reads as it did. -/
def fnExactDoCommuteSpec : ChangeSpec := { name := "fnExactDoCommute", fn := fun _ => fun
  | [d1, d2] => { results := [.lit (.bool true)], args := [d1, d2] }
  | _ => none }
def fnExactDoCommuteRow : OpenClaim := { program := "ytjkckifpjmhdeaa", sum := "aebd75e9ec389f2a8493374d8db280f583145417a2bd794f0cc4b3c364f2ab77", func := "loop.example/g02075/laws.FnExactDoCommute", spec := "fnExactDoCommute", apart := false }
def FnExactDoCommuteSaid : Prop := fnExactDoCommuteRow.holds Try.pinned (OpenSpec.ofChange fnExactDoCommuteSpec)

/-- ITS FALSE NEIGHBOUR: 'it returns false'. Refute it at one input. -/
def fnExactDoCommuteWrong : ChangeSpec := { name := "fnExactDoCommute", fn := fun _ => fun
  | [d1, d2] => { results := [.lit (.bool false)], args := [d1, d2] }
  | _ => none }
def FnExactDoCommuteWrongFalsely : Prop := fnExactDoCommuteRow.holds Try.pinned (OpenSpec.ofChange fnExactDoCommuteWrong)

/-- 'laws.FnExactCompareWords': WHATEVER THE INPUT: true; the input reads as it did. -/
def fnExactCompareWordsSpec : ChangeSpec := { name := "fnExactCompareWords", fn := fun _ => fun
  | [d1, d2] => { results := [.lit (.bool true)], args := [d1, d2] }
  | _ => none }
def fnExactCompareWordsRow : OpenClaim := { program := "ytjkckifpjmhdeaa", sum := "aebd75e9ec389f2a8493374d8db280f583145417a2bd794f0cc4b3c364f2ab77", func := "loop.example/g02075/laws.FnExactCompareWords", spec := "fnExactCompareWords", apart := false }
def FnExactCompareWordsSaid : Prop := fnExactCompareWordsRow.holds Try.pinned (OpenSpec.ofChange fnExactCompareWordsSpec)

/-- ITS FALSE NEIGHBOUR: 'it returns false'. Refute it at one input. -/
def fnExactCompareWordsWrong : ChangeSpec := { name := "fnExactCompareWords", fn := fun _ => fun
  | [d1, d2] => { results := [.lit (.bool false)], args := [d1, d2] }
  | _ => none }
def FnExactCompareWordsWrongFalsely : Prop := fnExactCompareWordsRow.holds Try.pinned (OpenSpec.ofChange fnExactCompareWordsWrong)

/-- 'laws.FnExactCommutatorOf': WHATEVER THE INPUT: true; the input reads as it did. -/
def fnExactCommutatorOfSpec : ChangeSpec := { name := "fnExactCommutatorOf", fn := fun _ => fun
  | [d1, d2] => { results := [.lit (.bool true)], args := [d1, d2] }
  | _ => none }
def fnExactCommutatorOfRow : OpenClaim := { program := "ytjkckifpjmhdeaa", sum := "aebd75e9ec389f2a8493374d8db280f583145417a2bd794f0cc4b3c364f2ab77", func := "loop.example/g02075/laws.FnExactCommutatorOf", spec := "fnExactCommutatorOf", apart := false }
def FnExactCommutatorOfSaid : Prop := fnExactCommutatorOfRow.holds Try.pinned (OpenSpec.ofChange fnExactCommutatorOfSpec)

/-- ITS FALSE NEIGHBOUR: 'it returns false'. Refute it at one input. -/
def fnExactCommutatorOfWrong : ChangeSpec := { name := "fnExactCommutatorOf", fn := fun _ => fun
  | [d1, d2] => { results := [.lit (.bool false)], args := [d1, d2] }
  | _ => none }
def FnExactCommutatorOfWrongFalsely : Prop := fnExactCommutatorOfRow.holds Try.pinned (OpenSpec.ofChange fnExactCommutatorOfWrong)

/-- 'laws.FnExactConjugateWord': WHATEVER THE INPUT: true; the input reads as it did. -/
def fnExactConjugateWordSpec : ChangeSpec := { name := "fnExactConjugateWord", fn := fun _ => fun
  | [d1, d2] => { results := [.lit (.bool true)], args := [d1, d2] }
  | _ => none }
def fnExactConjugateWordRow : OpenClaim := { program := "ytjkckifpjmhdeaa", sum := "aebd75e9ec389f2a8493374d8db280f583145417a2bd794f0cc4b3c364f2ab77", func := "loop.example/g02075/laws.FnExactConjugateWord", spec := "fnExactConjugateWord", apart := false }
def FnExactConjugateWordSaid : Prop := fnExactConjugateWordRow.holds Try.pinned (OpenSpec.ofChange fnExactConjugateWordSpec)

/-- ITS FALSE NEIGHBOUR: 'it returns false'. Refute it at one input. -/
def fnExactConjugateWordWrong : ChangeSpec := { name := "fnExactConjugateWord", fn := fun _ => fun
  | [d1, d2] => { results := [.lit (.bool false)], args := [d1, d2] }
  | _ => none }
def FnExactConjugateWordWrongFalsely : Prop := fnExactConjugateWordRow.holds Try.pinned (OpenSpec.ofChange fnExactConjugateWordWrong)

/-- 'laws.FnExactPowerWord': WHATEVER THE INPUT: true; the input reads as it did. -/
def fnExactPowerWordSpec : ChangeSpec := { name := "fnExactPowerWord", fn := fun _ => fun
  | [d1, d2] => { results := [.lit (.bool true)], args := [d1, d2] }
  | _ => none }
def fnExactPowerWordRow : OpenClaim := { program := "ytjkckifpjmhdeaa", sum := "aebd75e9ec389f2a8493374d8db280f583145417a2bd794f0cc4b3c364f2ab77", func := "loop.example/g02075/laws.FnExactPowerWord", spec := "fnExactPowerWord", apart := false }
def FnExactPowerWordSaid : Prop := fnExactPowerWordRow.holds Try.pinned (OpenSpec.ofChange fnExactPowerWordSpec)

/-- ITS FALSE NEIGHBOUR: 'it returns false'. Refute it at one input. -/
def fnExactPowerWordWrong : ChangeSpec := { name := "fnExactPowerWord", fn := fun _ => fun
  | [d1, d2] => { results := [.lit (.bool false)], args := [d1, d2] }
  | _ => none }
def FnExactPowerWordWrongFalsely : Prop := fnExactPowerWordRow.holds Try.pinned (OpenSpec.ofChange fnExactPowerWordWrong)

/-- 'laws.FnExactParseWord': WHATEVER THE INPUT: true; the input reads as it did. -/
def fnExactParseWordSpec : ChangeSpec := { name := "fnExactParseWord", fn := fun _ => fun
  | [d1, d2] => { results := [.lit (.bool true)], args := [d1, d2] }
  | _ => none }
def fnExactParseWordRow : OpenClaim := { program := "ytjkckifpjmhdeaa", sum := "aebd75e9ec389f2a8493374d8db280f583145417a2bd794f0cc4b3c364f2ab77", func := "loop.example/g02075/laws.FnExactParseWord", spec := "fnExactParseWord", apart := false }
def FnExactParseWordSaid : Prop := fnExactParseWordRow.holds Try.pinned (OpenSpec.ofChange fnExactParseWordSpec)

/-- ITS FALSE NEIGHBOUR: 'it returns false'. Refute it at one input. -/
def fnExactParseWordWrong : ChangeSpec := { name := "fnExactParseWord", fn := fun _ => fun
  | [d1, d2] => { results := [.lit (.bool false)], args := [d1, d2] }
  | _ => none }
def FnExactParseWordWrongFalsely : Prop := fnExactParseWordRow.holds Try.pinned (OpenSpec.ofChange fnExactParseWordWrong)

/- THE SECOND FORM. 'bulk': how many values and letters a reading holds, each counted each time it is reached (what is shared counts as often as it is met; a slice's spare places count too). A statement '..UptoSaid' is the law's where the arguments, and the package variables that the reading takes, are together of bulk at most 1048576: NARROWER than '..Said'. Prove '..Said' where nothing that the law and all that it calls make is longer than what came in: it says more and counts as full. Else prove '..UptoSaid'. A law counts once. -/
mutual
def uptoBulk {H : Type} : DataW H → Nat
  | .lit (.string bytes) => bytes.length + 1
  | .lit _ => 1
  | .nil => 1
  | .ptr d => uptoBulk d + 1
  | .slice elems spare => uptoBulkAll elems + uptoBulkAll spare + 1
  | .agg parts => uptoBulkAll parts + 1
  | .iface _ d => uptoBulk d + 1
  | .map entries => uptoBulkEntries entries + 1
  | .held _ => 1
def uptoBulkAll {H : Type} : List (DataW H) → Nat
  | [] => 0
  | d :: r => uptoBulk d + uptoBulkAll r
def uptoBulkEntries {H : Type} : List (Lit × DataW H) → Nat
  | [] => 0
  | x :: r => uptoBulkEntry x + uptoBulkEntries r
def uptoBulkEntry {H : Type} : Lit × DataW H → Nat
  | (.string bytes, d) => bytes.length + uptoBulk d + 1
  | (_, d) => uptoBulk d + 1
 end
def uptoSmall : (H : Type) → List (DataW H) → Bool := fun _ ds => decide (uptoBulkAll ds ≤ 1048576)
def OpenSpec.upto (s : _root_.Go.ChangeSpec) : _root_.Go.OpenSpec := { _root_.Go.OpenSpec.ofChange s with cond := some uptoSmall }

/-- 'laws.FnExactEqualWords', WHERE WHAT IT READS IS OF BULK AT MOST 1048576: true; the input reads as it did. -/
def fnExactEqualWordsUptoRow : OpenClaim := { program := "ytjkckifpjmhdeaa", sum := "aebd75e9ec389f2a8493374d8db280f583145417a2bd794f0cc4b3c364f2ab77", func := "loop.example/g02075/laws.FnExactEqualWords", spec := "fnExactEqualWords", apart := false, narrowed := true }
def FnExactEqualWordsUptoSaid : Prop := fnExactEqualWordsUptoRow.holds Try.pinned (OpenSpec.upto fnExactEqualWordsSpec)

/-- 'laws.FnExactIsWord', WHERE WHAT IT READS IS OF BULK AT MOST 1048576: true; the input reads as it did. -/
def fnExactIsWordUptoRow : OpenClaim := { program := "ytjkckifpjmhdeaa", sum := "aebd75e9ec389f2a8493374d8db280f583145417a2bd794f0cc4b3c364f2ab77", func := "loop.example/g02075/laws.FnExactIsWord", spec := "fnExactIsWord", apart := false, narrowed := true }
def FnExactIsWordUptoSaid : Prop := fnExactIsWordUptoRow.holds Try.pinned (OpenSpec.upto fnExactIsWordSpec)

/-- 'laws.FnExactInvertWord', WHERE WHAT IT READS IS OF BULK AT MOST 1048576: true; the input reads as it did. -/
def fnExactInvertWordUptoRow : OpenClaim := { program := "ytjkckifpjmhdeaa", sum := "aebd75e9ec389f2a8493374d8db280f583145417a2bd794f0cc4b3c364f2ab77", func := "loop.example/g02075/laws.FnExactInvertWord", spec := "fnExactInvertWord", apart := false, narrowed := true }
def FnExactInvertWordUptoSaid : Prop := fnExactInvertWordUptoRow.holds Try.pinned (OpenSpec.upto fnExactInvertWordSpec)

/-- 'laws.FnExactReduceLetters', WHERE WHAT IT READS IS OF BULK AT MOST 1048576: true; the input reads as it did. -/
def fnExactReduceLettersUptoRow : OpenClaim := { program := "ytjkckifpjmhdeaa", sum := "aebd75e9ec389f2a8493374d8db280f583145417a2bd794f0cc4b3c364f2ab77", func := "loop.example/g02075/laws.FnExactReduceLetters", spec := "fnExactReduceLetters", apart := false, narrowed := true }
def FnExactReduceLettersUptoSaid : Prop := fnExactReduceLettersUptoRow.holds Try.pinned (OpenSpec.upto fnExactReduceLettersSpec)

/-- 'laws.FnExactFormatWord', WHERE WHAT IT READS IS OF BULK AT MOST 1048576: true; the input reads as it did. -/
def fnExactFormatWordUptoRow : OpenClaim := { program := "ytjkckifpjmhdeaa", sum := "aebd75e9ec389f2a8493374d8db280f583145417a2bd794f0cc4b3c364f2ab77", func := "loop.example/g02075/laws.FnExactFormatWord", spec := "fnExactFormatWord", apart := false, narrowed := true }
def FnExactFormatWordUptoSaid : Prop := fnExactFormatWordUptoRow.holds Try.pinned (OpenSpec.upto fnExactFormatWordSpec)

/-- 'laws.FnExactMultiplyWords', WHERE WHAT IT READS IS OF BULK AT MOST 1048576: true; the input reads as it did. -/
def fnExactMultiplyWordsUptoRow : OpenClaim := { program := "ytjkckifpjmhdeaa", sum := "aebd75e9ec389f2a8493374d8db280f583145417a2bd794f0cc4b3c364f2ab77", func := "loop.example/g02075/laws.FnExactMultiplyWords", spec := "fnExactMultiplyWords", apart := false, narrowed := true }
def FnExactMultiplyWordsUptoSaid : Prop := fnExactMultiplyWordsUptoRow.holds Try.pinned (OpenSpec.upto fnExactMultiplyWordsSpec)

/-- 'laws.FnExactDoCommute', WHERE WHAT IT READS IS OF BULK AT MOST 1048576: true; the input reads as it did. -/
def fnExactDoCommuteUptoRow : OpenClaim := { program := "ytjkckifpjmhdeaa", sum := "aebd75e9ec389f2a8493374d8db280f583145417a2bd794f0cc4b3c364f2ab77", func := "loop.example/g02075/laws.FnExactDoCommute", spec := "fnExactDoCommute", apart := false, narrowed := true }
def FnExactDoCommuteUptoSaid : Prop := fnExactDoCommuteUptoRow.holds Try.pinned (OpenSpec.upto fnExactDoCommuteSpec)

/-- 'laws.FnExactCompareWords', WHERE WHAT IT READS IS OF BULK AT MOST 1048576: true; the input reads as it did. -/
def fnExactCompareWordsUptoRow : OpenClaim := { program := "ytjkckifpjmhdeaa", sum := "aebd75e9ec389f2a8493374d8db280f583145417a2bd794f0cc4b3c364f2ab77", func := "loop.example/g02075/laws.FnExactCompareWords", spec := "fnExactCompareWords", apart := false, narrowed := true }
def FnExactCompareWordsUptoSaid : Prop := fnExactCompareWordsUptoRow.holds Try.pinned (OpenSpec.upto fnExactCompareWordsSpec)

/-- 'laws.FnExactCommutatorOf', WHERE WHAT IT READS IS OF BULK AT MOST 1048576: true; the input reads as it did. -/
def fnExactCommutatorOfUptoRow : OpenClaim := { program := "ytjkckifpjmhdeaa", sum := "aebd75e9ec389f2a8493374d8db280f583145417a2bd794f0cc4b3c364f2ab77", func := "loop.example/g02075/laws.FnExactCommutatorOf", spec := "fnExactCommutatorOf", apart := false, narrowed := true }
def FnExactCommutatorOfUptoSaid : Prop := fnExactCommutatorOfUptoRow.holds Try.pinned (OpenSpec.upto fnExactCommutatorOfSpec)

/-- 'laws.FnExactConjugateWord', WHERE WHAT IT READS IS OF BULK AT MOST 1048576: true; the input reads as it did. -/
def fnExactConjugateWordUptoRow : OpenClaim := { program := "ytjkckifpjmhdeaa", sum := "aebd75e9ec389f2a8493374d8db280f583145417a2bd794f0cc4b3c364f2ab77", func := "loop.example/g02075/laws.FnExactConjugateWord", spec := "fnExactConjugateWord", apart := false, narrowed := true }
def FnExactConjugateWordUptoSaid : Prop := fnExactConjugateWordUptoRow.holds Try.pinned (OpenSpec.upto fnExactConjugateWordSpec)

/-- 'laws.FnExactPowerWord', WHERE WHAT IT READS IS OF BULK AT MOST 1048576: true; the input reads as it did. -/
def fnExactPowerWordUptoRow : OpenClaim := { program := "ytjkckifpjmhdeaa", sum := "aebd75e9ec389f2a8493374d8db280f583145417a2bd794f0cc4b3c364f2ab77", func := "loop.example/g02075/laws.FnExactPowerWord", spec := "fnExactPowerWord", apart := false, narrowed := true }
def FnExactPowerWordUptoSaid : Prop := fnExactPowerWordUptoRow.holds Try.pinned (OpenSpec.upto fnExactPowerWordSpec)

/-- 'laws.FnExactParseWord', WHERE WHAT IT READS IS OF BULK AT MOST 1048576: true; the input reads as it did. -/
def fnExactParseWordUptoRow : OpenClaim := { program := "ytjkckifpjmhdeaa", sum := "aebd75e9ec389f2a8493374d8db280f583145417a2bd794f0cc4b3c364f2ab77", func := "loop.example/g02075/laws.FnExactParseWord", spec := "fnExactParseWord", apart := false, narrowed := true }
def FnExactParseWordUptoSaid : Prop := fnExactParseWordUptoRow.holds Try.pinned (OpenSpec.upto fnExactParseWordSpec)

end Rows
end Go.Proofs.Ytjkckifpjmhdeaa
