/- Boxes: a variable's block of three cells, kept through a law's walk; what the law of a region needs. Conditions: none. -/
import Derived.Test.YtpebiacdkfpnpaaGreatEdges
namespace Go.Proofs.YtpebiacdkfpnpaaGreat
open Go.RowKit

/-- The block k holds the object o. -/
def Box (w : World) (k : Nat) (o : Obj) : Prop := w.heap[k]? = some o
theorem Box.lt {w : World} {k : Nat} {o : Obj} (h : Box w k o) : k < w.heap.size := (Array.getElem?_eq_some_iff.1 h).1
theorem Box.keep {w w' : World} {k : Nat} {o : Obj} (h : Box w k o) (hB : Below w.heap.size w w') : Box w' k o := (hB.block k h.lt).trans h
theorem Box.new (w : World) (o : Obj) : Box (w.alloc o) w.heap.size o := heap_alloc_new w o
theorem Box.two (w : World) (o1 o2 : Obj) : Box ((w.alloc o1).alloc o2) (w.heap.size + 1) o2 := by
  have := Box.new (w.alloc o1) o2
  simpa using this
theorem Box.first (w : World) (o1 o2 : Obj) : Box ((w.alloc o1).alloc o2) w.heap.size o1 := (Box.new w o1).keep ((Below.refl _ _).alloc (Nat.le_refl _) _)
theorem Box.grown {w w' : World} {k : Nat} {o : Obj} {v : Value} (h : Box w k o) (hg : w.grownBy w' v.ownBlock) (hne : ∀ j, v.ownBlock = some j → k ≠ j) : Box w' k o :=
  (hg.block k h.lt fun e => hne k e.symm rfl).trans h
theorem Box.cells {w : World} {k : Nat} {a b c : Value} {t : TypeId} (h : Box w k (.cells #[a, b, c] t (0, 0))) : w.cell? ⟨k, 0, none⟩ = some a ∧ w.cell? ⟨k, 1, none⟩ = some b ∧ w.cell? ⟨k, 2, none⟩ = some c :=
  ⟨cell_of_row w k 0 _ _ _ h, cell_of_row w k 1 _ _ _ h, cell_of_row w k 2 _ _ _ h⟩
theorem Box.far {w : World} {k B : Nat} {o : Obj} {v : Value} (h : Box w k o) (hv : ∀ j, v.ownBlock = some j → B ≤ j) (hb : w.heap.size ≤ B) : ∀ j, v.ownBlock = some j → k ≠ j := fun j hj => by
  have := h.lt; have := hv j hj; omega
theorem far_new {w : World} {v : Value} (hv : ∀ j, v.ownBlock = some j → j < w.heap.size) : ∀ j, v.ownBlock = some j → w.heap.size ≠ j := fun j hj => by
  have := hv j hj; omega
theorem Edges.form {w : World} {v : Value} {l : List Ed} (h : Edges w v l) : ∃ A cap, v = .slice A l.length cap := by
  obtain ⟨A, cap, rfl, _⟩ := h; exact ⟨A, cap, rfl⟩
end Go.Proofs.YtpebiacdkfpnpaaGreat
