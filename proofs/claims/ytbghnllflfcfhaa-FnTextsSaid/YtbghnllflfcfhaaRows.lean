/-
  No cell of these rows narrows 'for every input' (looked for: loops, veiled, ifaces, maps, wideKeys, modest, calm, conditions, laid).
  DERIVED. THE GIVEN ROWS OF THIS SEAT. 5 by the template 'for every input the law returns true; each argument reads behind the call as it read before'; 0 by the template 'total and deterministic' (their statements: YtbghnllflfcfhaaTotals.lean).
  GIVEN WITH THE SEED: the statements are not yours to turn. If you find one false, say at which input.
  Laid BY PROGRAM, IN A SANDBOX (cutbox-rows.mjs): the forced cells as the released guide's own fill.sh prints them over the translation de3876ce74dfbd18… (all of the seat's roots in one cut). By AI agents, Wed Nov 11 2026. No macro, syntax, notation, axiom, sorry.
-/
import Derived.Test.YtbghnllflfcfhaaChecked
import GoSem.Claim
import GoSem.ClaimJoined
import GoSem.ClaimMapViews
import Derived.JoinedTies
import Derived.KernelRfl
namespace Go.Proofs.Ytbghnllflfcfhaa
/- THE CELL 'sum', in the pinned program and in every row, IS THE sha256 OF THE DUMP (.gsa) THAT YtbghnllflfcfhaaProg.lean LOADS. Nothing in Lean hashes anything: it is a label: what it is worth is what the hold of that sum in a sandbox is worth. -/
noncomputable def Try.pinned : Pinned := { name := "ytbghnllflfcfhaa", sum := "de3876ce74dfbd185463c46fdea6dcae25d67835625637e15037baaa4ecf1a7a", checked := Try.checked }
namespace Rows
def none {H : Type} : Left H := { results := [], args := [] }

/-- 'laws.FnExactCyclicForm': WHATEVER THE INPUT: true; the input reads as it did. -/
def fnExactCyclicFormSpec : ChangeSpec := { name := "fnExactCyclicForm", fn := fun _ => fun
  | [d] => { results := [.lit (.bool true)], args := [d] }
  | _ => none }
def fnExactCyclicFormRow : OpenClaim := { program := "ytbghnllflfcfhaa", sum := "de3876ce74dfbd185463c46fdea6dcae25d67835625637e15037baaa4ecf1a7a", func := "loop.example/g02075/laws.FnExactCyclicForm", spec := "fnExactCyclicForm", apart := false }
def FnExactCyclicFormSaid : Prop := fnExactCyclicFormRow.holds Try.pinned (OpenSpec.ofChange fnExactCyclicFormSpec)

/-- ITS FALSE NEIGHBOUR: 'it returns false'. Refute it at one input. -/
def fnExactCyclicFormWrong : ChangeSpec := { name := "fnExactCyclicForm", fn := fun _ => fun
  | [d] => { results := [.lit (.bool false)], args := [d] }
  | _ => none }
def FnExactCyclicFormWrongFalsely : Prop := fnExactCyclicFormRow.holds Try.pinned (OpenSpec.ofChange fnExactCyclicFormWrong)

/-- 'laws.FnWords': WHATEVER THE INPUT: true; the input reads as it did. -/
def fnWordsSpec : ChangeSpec := { name := "fnWords", fn := fun _ => fun
  | [d] => { results := [.lit (.bool true)], args := [d] }
  | _ => none }
def fnWordsRow : OpenClaim := { program := "ytbghnllflfcfhaa", sum := "de3876ce74dfbd185463c46fdea6dcae25d67835625637e15037baaa4ecf1a7a", func := "loop.example/g02075/laws.FnWords", spec := "fnWords", apart := false }
def FnWordsSaid : Prop := fnWordsRow.holds Try.pinned (OpenSpec.ofChange fnWordsSpec)

/-- ITS FALSE NEIGHBOUR: 'it returns false'. Refute it at one input. -/
def fnWordsWrong : ChangeSpec := { name := "fnWords", fn := fun _ => fun
  | [d] => { results := [.lit (.bool false)], args := [d] }
  | _ => none }
def FnWordsWrongFalsely : Prop := fnWordsRow.holds Try.pinned (OpenSpec.ofChange fnWordsWrong)

/-- 'laws.FnRoots': WHATEVER THE INPUT: true; the input reads as it did. -/
def fnRootsSpec : ChangeSpec := { name := "fnRoots", fn := fun _ => fun
  | [d] => { results := [.lit (.bool true)], args := [d] }
  | _ => none }
def fnRootsRow : OpenClaim := { program := "ytbghnllflfcfhaa", sum := "de3876ce74dfbd185463c46fdea6dcae25d67835625637e15037baaa4ecf1a7a", func := "loop.example/g02075/laws.FnRoots", spec := "fnRoots", apart := false }
def FnRootsSaid : Prop := fnRootsRow.holds Try.pinned (OpenSpec.ofChange fnRootsSpec)

/-- ITS FALSE NEIGHBOUR: 'it returns false'. Refute it at one input. -/
def fnRootsWrong : ChangeSpec := { name := "fnRoots", fn := fun _ => fun
  | [d] => { results := [.lit (.bool false)], args := [d] }
  | _ => none }
def FnRootsWrongFalsely : Prop := fnRootsRow.holds Try.pinned (OpenSpec.ofChange fnRootsWrong)

/-- 'laws.FnTexts': WHATEVER THE INPUT: true; the input reads as it did. -/
def fnTextsSpec : ChangeSpec := { name := "fnTexts", fn := fun _ => fun
  | [d] => { results := [.lit (.bool true)], args := [d] }
  | _ => none }
def fnTextsRow : OpenClaim := { program := "ytbghnllflfcfhaa", sum := "de3876ce74dfbd185463c46fdea6dcae25d67835625637e15037baaa4ecf1a7a", func := "loop.example/g02075/laws.FnTexts", spec := "fnTexts", apart := false }
def FnTextsSaid : Prop := fnTextsRow.holds Try.pinned (OpenSpec.ofChange fnTextsSpec)

/-- ITS FALSE NEIGHBOUR: 'it returns false'. Refute it at one input. -/
def fnTextsWrong : ChangeSpec := { name := "fnTexts", fn := fun _ => fun
  | [d] => { results := [.lit (.bool false)], args := [d] }
  | _ => none }
def FnTextsWrongFalsely : Prop := fnTextsRow.holds Try.pinned (OpenSpec.ofChange fnTextsWrong)

/-- 'laws.FnCyclic': WHATEVER THE INPUT: true; the input reads as it did. -/
def fnCyclicSpec : ChangeSpec := { name := "fnCyclic", fn := fun _ => fun
  | [d] => { results := [.lit (.bool true)], args := [d] }
  | _ => none }
def fnCyclicRow : OpenClaim := { program := "ytbghnllflfcfhaa", sum := "de3876ce74dfbd185463c46fdea6dcae25d67835625637e15037baaa4ecf1a7a", func := "loop.example/g02075/laws.FnCyclic", spec := "fnCyclic", apart := false }
def FnCyclicSaid : Prop := fnCyclicRow.holds Try.pinned (OpenSpec.ofChange fnCyclicSpec)

/-- ITS FALSE NEIGHBOUR: 'it returns false'. Refute it at one input. -/
def fnCyclicWrong : ChangeSpec := { name := "fnCyclic", fn := fun _ => fun
  | [d] => { results := [.lit (.bool false)], args := [d] }
  | _ => none }
def FnCyclicWrongFalsely : Prop := fnCyclicRow.holds Try.pinned (OpenSpec.ofChange fnCyclicWrong)

/- THE SECOND FORM. 'bulk': how many values and letters a reading holds, each counted each time it is reached (what is shared counts as often as it is met; a slice's spare places count too). A statement '..UptoSaid' is the law's where the arguments, and the package variables that the reading takes, are together of bulk at most 1048576: NARROWER than '..Said'. Prove '..Said' where nothing that the law and all that it calls make is longer than what came in: it says more and counts as full. Else prove '..UptoSaid'. A law counts once. -/
mutual
def uptoBulk {H : Type} : DataW H → Nat
  | .lit (.string bytes) => bytes.length + 1
  | .lit _ => 1
  | .nil => 1
  | .ptr d => uptoBulk d + 1
  | .slice elems spare => uptoBulkAll elems + uptoBulkAll spare + 1
  | .agg parts => uptoBulkAll parts + 1
  | .iface _ d => uptoBulk d + 1
  | .map entries => uptoBulkEntries entries + 1
  | .held _ => 1
def uptoBulkAll {H : Type} : List (DataW H) → Nat
  | [] => 0
  | d :: r => uptoBulk d + uptoBulkAll r
def uptoBulkEntries {H : Type} : List (Lit × DataW H) → Nat
  | [] => 0
  | x :: r => uptoBulkEntry x + uptoBulkEntries r
def uptoBulkEntry {H : Type} : Lit × DataW H → Nat
  | (.string bytes, d) => bytes.length + uptoBulk d + 1
  | (_, d) => uptoBulk d + 1
 end
def uptoSmall : (H : Type) → List (DataW H) → Bool := fun _ ds => decide (uptoBulkAll ds ≤ 1048576)
def OpenSpec.upto (s : _root_.Go.ChangeSpec) : _root_.Go.OpenSpec := { _root_.Go.OpenSpec.ofChange s with cond := some uptoSmall }

/-- 'laws.FnExactCyclicForm', WHERE WHAT IT READS IS OF BULK AT MOST 1048576: true; the input reads as it did. -/
def fnExactCyclicFormUptoRow : OpenClaim := { program := "ytbghnllflfcfhaa", sum := "de3876ce74dfbd185463c46fdea6dcae25d67835625637e15037baaa4ecf1a7a", func := "loop.example/g02075/laws.FnExactCyclicForm", spec := "fnExactCyclicForm", apart := false, narrowed := true }
def FnExactCyclicFormUptoSaid : Prop := fnExactCyclicFormUptoRow.holds Try.pinned (OpenSpec.upto fnExactCyclicFormSpec)

/-- 'laws.FnWords', WHERE WHAT IT READS IS OF BULK AT MOST 1048576: true; the input reads as it did. -/
def fnWordsUptoRow : OpenClaim := { program := "ytbghnllflfcfhaa", sum := "de3876ce74dfbd185463c46fdea6dcae25d67835625637e15037baaa4ecf1a7a", func := "loop.example/g02075/laws.FnWords", spec := "fnWords", apart := false, narrowed := true }
def FnWordsUptoSaid : Prop := fnWordsUptoRow.holds Try.pinned (OpenSpec.upto fnWordsSpec)

/-- 'laws.FnRoots', WHERE WHAT IT READS IS OF BULK AT MOST 1048576: true; the input reads as it did. -/
def fnRootsUptoRow : OpenClaim := { program := "ytbghnllflfcfhaa", sum := "de3876ce74dfbd185463c46fdea6dcae25d67835625637e15037baaa4ecf1a7a", func := "loop.example/g02075/laws.FnRoots", spec := "fnRoots", apart := false, narrowed := true }
def FnRootsUptoSaid : Prop := fnRootsUptoRow.holds Try.pinned (OpenSpec.upto fnRootsSpec)

/-- 'laws.FnTexts', WHERE WHAT IT READS IS OF BULK AT MOST 1048576: true; the input reads as it did. -/
def fnTextsUptoRow : OpenClaim := { program := "ytbghnllflfcfhaa", sum := "de3876ce74dfbd185463c46fdea6dcae25d67835625637e15037baaa4ecf1a7a", func := "loop.example/g02075/laws.FnTexts", spec := "fnTexts", apart := false, narrowed := true }
def FnTextsUptoSaid : Prop := fnTextsUptoRow.holds Try.pinned (OpenSpec.upto fnTextsSpec)

/-- 'laws.FnCyclic', WHERE WHAT IT READS IS OF BULK AT MOST 1048576: true; the input reads as it did. -/
def fnCyclicUptoRow : OpenClaim := { program := "ytbghnllflfcfhaa", sum := "de3876ce74dfbd185463c46fdea6dcae25d67835625637e15037baaa4ecf1a7a", func := "loop.example/g02075/laws.FnCyclic", spec := "fnCyclic", apart := false, narrowed := true }
def FnCyclicUptoSaid : Prop := fnCyclicUptoRow.holds Try.pinned (OpenSpec.upto fnCyclicSpec)

end Rows
end Go.Proofs.Ytbghnllflfcfhaa
