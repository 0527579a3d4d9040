/- Slices of strings. Conditions: none. -/
import Derived.Test.YtpebiacdkfpnpaaGreatRows
import Derived.Test.YtpebiacdkfpnpaaGreatBase
namespace Go.Proofs.YtpebiacdkfpnpaaGreat
open Go.RowKit

theorem elemS : Elem Tryz.prog 67 9 (.string ByteArray.empty) 1 16 := ⟨Tryz.underlying67, by kernel_rfl, rfl, by decide, by decide⟩
abbrev strV (t : List UInt8) : Value := .string ⟨t.toArray⟩
def strsV (ts : List (List UInt8)) : List Value := ts.map fun t => .string ⟨t.toArray⟩
/-- The slice of strings v reads as the list ts. -/
def Strs (w : World) (v : Value) (ts : List (List UInt8)) : Prop :=
  ∃ b off cap, v = .slice (some ⟨b, off, none⟩) ts.length cap ∧ ts.length ≤ cap ∧ b < w.heap.size ∧ ∀ i (h : i < ts.length), w.cell? ⟨b, off + i, none⟩ = some (.string ⟨ts[i].toArray⟩)
/-- A slice of strings of the call's own. -/
def OwnS (w : World) (B : Nat) (v : Value) (ts : List (List UInt8)) : Prop :=
  ∃ g cap, v = .slice (some ⟨g, 0, none⟩) ts.length cap ∧ w.ownsRow B 9 1 v ts.length (strsV ts)
theorem OwnS.strs {w : World} {B : Nat} {v : Value} {ts : List (List UInt8)} (h : OwnS w B v ts) : Strs w v ts := by
  obtain ⟨g, cap, rfl, ho⟩ := h
  have hp := ownsRow_parts ho
  refine ⟨g, 0, cap, rfl, hp.2.2.1, hp.2.1, fun i hi => ?_⟩
  rw [Nat.zero_add, ho.cellAt i (by omega), strsV, List.getElem?_map, List.getElem?_eq_getElem hi]
  rfl
theorem strsV_snoc (ts : List (List UInt8)) (t : List UInt8) : strsV (ts ++ [t]) = strsV ts ++ [.string ⟨t.toArray⟩] := by simp [strsV]
theorem OwnS.keep {w w' : World} {B : Nat} {v : Value} {ts : List (List UInt8)} (h : OwnS w B v ts) (hB : Below w.heap.size w w') : OwnS w' B v ts := by
  obtain ⟨g, cap, rfl, ho⟩ := h
  exact ⟨g, cap, rfl, ownsRow_keep ho hB⟩
theorem Strs.keep {w w' : World} {v : Value} {ts : List (List UInt8)} (h : Strs w v ts) (hB : Below w.heap.size w w') : Strs w' v ts := by
  obtain ⟨b, off, cap, rfl, hc, hb, hcell⟩ := h
  exact ⟨b, off, cap, rfl, hc, Nat.lt_of_lt_of_le hb hB.size, fun i hi => (hB.cell (p := ⟨b, off + i, none⟩) hb).trans (hcell i hi)⟩
theorem add_to {P : Program} {x y z : List UInt8} (hz : z = x ++ y) (h : x.length + y.length ≤ 9223372036854775807) : ∀ W, (Op.stringOp .add ⟨x.toArray⟩ ⟨y.toArray⟩).run P W = .ok (.string ⟨z.toArray⟩) W := fun W => by
  rw [hz]; exact run_add_lists x y h W
end Go.Proofs.YtpebiacdkfpnpaaGreat
