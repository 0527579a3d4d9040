/- A graph with one value more, handed back. Conditions: none. -/
import Derived.Test.YtpebiacdkfpnpaaGreatBoxes
namespace Go.Proofs.YtpebiacdkfpnpaaGreat
open Go.RowKit

/-- A graph, its edges in new memory or nil, and one value more are handed back. -/
def RetG2 (w : World) (r n : Int) (l : List Ed) (x : Value) (e : Ending) (w' : World) : Prop := ∃ v, e = .returned (.tuple #[graphV r n v, x]) ∧ OwnN w' w.heap.size v l ∧ Below w.heap.size w w'
/-- A nil slice has no room. -/
def NilOk (v : Value) : Prop := ∀ n cap, v = .slice none n cap → cap = 0
theorem OwnN.nilOk {w : World} {B : Nat} {v : Value} {l : List Ed} (h : OwnN w B v l) : NilOk v := by
  rcases h with ⟨rfl, _⟩ | ⟨g, cap, rfl, _⟩
  · intro n cap h; cases h; rfl
  · intro n cap h; cases h
end Go.Proofs.YtpebiacdkfpnpaaGreat
