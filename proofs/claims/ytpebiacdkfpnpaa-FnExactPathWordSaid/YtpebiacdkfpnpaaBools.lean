/- Rows of bools of the call's own; facts on graphs. Conditions: none. -/
import Derived.Test.YtpebiacdkfpnpaaGraphC
import Derived.Test.YtpebiacdkfpnpaaReach
import Derived.Deep.LoopGhost
namespace Go.Proofs.Ytpebiacdkfpnpaa
open Go.RowKit

theorem elemBl : Elem Try.prog 73 4 (.bool false) 1 1 := ⟨Try.underlying73, by kernel_rfl, rfl, by decide, by decide⟩
def boolsV (l : List Bool) : List Value := l.map Value.bool
theorem boolsV_length (l : List Bool) : (boolsV l).length = l.length := by simp [boolsV]
theorem boolsV_set (l : List Bool) (i : Nat) (x : Bool) : (boolsV l).set i (.bool x) = boolsV (l.set i x) := by simp [boolsV]
theorem boolsV_get {l : List Bool} {i : Nat} (h : i < l.length) : (boolsV l)[i]? = some (.bool (l.getD i false)) := by
  simp [boolsV, List.getElem?_map, List.getElem?_eq_getElem h, List.getD_eq_getElem?_getD]
theorem falsesV (m : Nat) : (madeCells (Value.bool false).cells (m * 1)).toList = boolsV (List.replicate m false) := by
  rw [Nat.mul_one]
  refine (toList_madeCells_one (.bool false) m).trans ?_
  simp [boolsV]
/-- The row of bools at the block g reads as l. -/
def OwnBl (w : World) (B g : Nat) (l : List Bool) : Prop := w.ownsRow B 4 1 (.slice (some ⟨g, 0, none⟩) l.length l.length) l.length (boolsV l)
theorem OwnBl.cell {w : World} {B g : Nat} {l : List Bool} (h : OwnBl w B g l) {i : Nat} (hi : i < l.length) : w.cell? ⟨g, i, none⟩ = some (.bool (l.getD i false)) := by
  rw [World.ownsRow.cellAt h i (by omega)]; exact boolsV_get hi
theorem OwnBl.keep {w w' : World} {B g : Nat} {l : List Bool} (h : OwnBl w B g l) (hB : Below w.heap.size w w') : OwnBl w' B g l := ownsRow_keep h hB
theorem OwnBl.put {w : World} {B g : Nat} {l : List Bool} (h : OwnBl w B g l) (i : Nat) (x : Bool) : OwnBl (w.setCell ⟨g, i, none⟩ (.bool x)) B g (l.set i x) ∧ w.grownBy (w.setCell ⟨g, i, none⟩ (.bool x)) (some g) := by
  have := h.stored i (.bool x)
  rw [boolsV_set] at this
  refine ⟨?_, this.2⟩
  unfold OwnBl
  rw [List.length_set]
  exact this.1
end Go.Proofs.Ytpebiacdkfpnpaa
