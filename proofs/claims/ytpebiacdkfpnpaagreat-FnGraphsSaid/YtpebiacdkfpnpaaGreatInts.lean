/- Slices of ints: what a value reads as; what a call's own row holds; contracts of the laws' helpers toIntS, eqIntS, markIntS, heldIntS. Conditions: lengths of at most 2^40. -/
import Derived.Test.YtpebiacdkfpnpaaGreatRows
import Derived.Test.YtpebiacdkfpnpaaGreatBase
namespace Go.Proofs.YtpebiacdkfpnpaaGreat
open Go.RowKit

theorem elemI : Elem Tryz.prog 40 3 (.int .i64 0) 1 8 := ⟨Tryz.underlying40, by kernel_rfl, rfl, by decide, by decide⟩
/-- An int of 64 bits. -/
def I64 (x : Int) : Prop := -9223372036854775808 ≤ x ∧ x ≤ 9223372036854775807
def intsV (l : List Int) : List Value := l.map (Value.int .i64)
theorem intsV_append (l l' : List Int) : intsV (l ++ l') = intsV l ++ intsV l' := by simp [intsV]
theorem intsV_length (l : List Int) : (intsV l).length = l.length := by simp [intsV]

/-- The slice v reads as the list l. -/
def Ints (w : World) (v : Value) (l : List Int) : Prop :=
  ∃ b off cap, v = .slice (some ⟨b, off, none⟩) l.length cap ∧ l.length ≤ cap ∧ b < w.heap.size ∧ (∀ i (h : i < l.length), w.cell? ⟨b, off + i, none⟩ = some (.int .i64 l[i])) ∧ ∀ x ∈ l, I64 x
/-- The slice v is a row of the call's own (its block from B on) and reads as l. -/
def OwnI (w : World) (B : Nat) (v : Value) (l : List Int) : Prop :=
  ∃ g cap, v = .slice (some ⟨g, 0, none⟩) l.length cap ∧ w.ownsRow B 3 1 v l.length (intsV l) ∧ ∀ x ∈ l, I64 x
/-- A slice of ints is handed back, in new memory. -/
def RetI (w : World) (l : List Int) (e : Ending) (w' : World) : Prop := ∃ v, e = .returned v ∧ OwnI w' w.heap.size v l ∧ Below w.heap.size w w'

theorem RetI.mk {w w' : World} {g n cap : Nat} {l : List Int} (hn : l.length = n) (ho : w'.ownsRow w.heap.size 3 1 (.slice (some ⟨g, 0, none⟩) n cap) n (intsV l)) (hr : ∀ x ∈ l, I64 x) (hb : Below w.heap.size w w') :
    RetI w l (.returned (.slice (some ⟨g, 0, none⟩) n cap)) w' := by
  subst hn
  exact ⟨_, rfl, ⟨g, cap, rfl, ho, hr⟩, hb⟩
theorem Ints.keep {w w' : World} {v : Value} {l : List Int} (h : Ints w v l) (hB : Below w.heap.size w w') : Ints w' v l := by
  obtain ⟨b, off, cap, rfl, hc, hb, hcell, hr⟩ := h
  exact ⟨b, off, cap, rfl, hc, Nat.lt_of_lt_of_le hb hB.size, fun i hi => (hB.cell (p := ⟨b, off + i, none⟩) hb).trans (hcell i hi), hr⟩
theorem Ints.drewN {w : World} {v : Value} {l : List Int} (n : Nat) (h : Ints w v l) : Ints (w.drewN n) v l := h.keep (below_drewN n (Below.refl _ _))
theorem OwnI.keep {w w' : World} {B : Nat} {v : Value} {l : List Int} (h : OwnI w B v l) (hB : Below w.heap.size w w') : OwnI w' B v l := by
  obtain ⟨g, cap, rfl, ho, hr⟩ := h
  exact ⟨g, cap, rfl, ownsRow_keep ho hB, hr⟩
theorem OwnI.base {w : World} {B B' : Nat} {v : Value} {l : List Int} (h : OwnI w B v l) (hb : B' ≤ B) : OwnI w B' v l := by
  obtain ⟨g, cap, rfl, ho, hr⟩ := h
  exact ⟨g, cap, rfl, ownsRow_base ho hb, hr⟩
theorem OwnI.ints {w : World} {B : Nat} {v : Value} {l : List Int} (h : OwnI w B v l) : Ints w v l := by
  obtain ⟨g, cap, rfl, ho, hr⟩ := h
  have hp := ownsRow_parts ho
  refine ⟨g, 0, cap, rfl, hp.2.2.1, hp.2.1, fun i hi => ?_, hr⟩
  rw [Nat.zero_add, ho.cellAt i (by omega), intsV, List.getElem?_map, List.getElem?_eq_getElem hi]
  rfl
theorem OwnI.block {w : World} {B : Nat} {v : Value} {l : List Int} (h : OwnI w B v l) : ∃ g, v.ownBlock = some g ∧ B ≤ g ∧ g < w.heap.size := by
  obtain ⟨g, cap, rfl, ho, hr⟩ := h
  have hp := ownsRow_parts ho
  exact ⟨g, rfl, hp.1, hp.2.1⟩
theorem Ints.range {w : World} {v : Value} {l : List Int} (h : Ints w v l) : ∀ x ∈ l, I64 x := by
  obtain ⟨_, _, _, _, _, _, _, hr⟩ := h; exact hr
/-- A row that a write to another row leaves alone. -/
theorem OwnI.grown {w w' : World} {B : Nat} {v : Value} {l : List Int} {row : Option Nat} (h : OwnI w B v l) (hg : w.grownBy w' row) (hne : v.ownBlock ≠ row) : OwnI w' B v l := by
  obtain ⟨g, cap, rfl, ho, hr⟩ := h
  exact ⟨g, cap, rfl, ho.kept hg (.inr hne), hr⟩

/-- What a law is told of a slice of integers that came in. -/
def IsRow (k : IntKind) (w : World) (a : Option Addr) (len cap : Nat) (zs : List Int) : Prop :=
  (a = none ∧ len = 0 ∧ cap = 0 ∧ zs = []) ∨
  ∃ x, a = some x ∧ len ≤ cap ∧ cap ≤ maxLen ∧ zs.length = cap ∧ (∀ i, i < zs.length → w.cell? (x.add i) = some (.int k (zs.getD i 0))) ∧ ∀ n ∈ zs, (Lit.int k n).wf = true
theorem IsRow.keep {k : IntKind} {w w' : World} {a : Option Addr} {len cap : Nat} {zs : List Int} (h : IsRow k w a len cap zs) (hB : Below w.heap.size w w') : IsRow k w' a len cap zs := by
  rcases h with h | ⟨x, hx, h1, h2, h3, h4, h5⟩
  · exact .inl h
  · refine .inr ⟨x, hx, h1, h2, h3, fun i hi => ?_, h5⟩
    have h6 := h4 i hi
    exact (hB.cell (World.block_lt_of_cell? w _ h6)).trans h6
theorem i64_of_wf {x : Int} (h : (Lit.int .i64 x).wf = true) : I64 x := by
  simp [Lit.wf, IntKind.min, IntKind.max, IntKind.signed, IntKind.bits] at h
  exact ⟨by omega, by omega⟩
theorem IsRow.take {w : World} {a : Option Addr} {len cap : Nat} {zs : List Int} (h : IsRow .i64 w a len cap zs) : (zs.take len).length = len ∧ ∀ x ∈ zs.take len, I64 x := by
  rcases h with ⟨_, rfl, _, rfl⟩ | ⟨x, hx, h1, h2, h3, h4, h5⟩
  · simp
  · exact ⟨by simp; omega, fun y hy => i64_of_wf (h5 y (List.mem_of_mem_take hy))⟩

theorem intsV_set (l : List Int) (i : Nat) (x : Int) : (intsV l).set i (.int .i64 x) = intsV (l.set i x) := by simp [intsV]
theorem zerosI (m : Nat) : (madeCells (Value.int IntKind.i64 0).cells (m * 1)).toList = intsV (List.replicate m 0) := by
  rw [Nat.mul_one]
  refine (toList_madeCells_one (.int .i64 0) m).trans ?_
  simp [intsV]



/-- What markIntS writes: n numbers from k on. -/
def marks (k : Int) (n : Nat) : List Int := (List.range n).map fun (i : Nat) => k + (i : Int)
theorem marks_length (k : Int) (n : Nat) : (marks k n).length = n := by simp [marks]
theorem marks_range {k : Int} {n : Nat} (h0 : 0 ≤ k) (h1 : k + n ≤ 4611686018427387904) : ∀ x ∈ marks k n, I64 x := by
  intro x hx
  simp only [marks, List.mem_map, List.mem_range] at hx
  obtain ⟨i, hi, rfl⟩ := hx
  exact ⟨by omega, by omega⟩
theorem marks_get {k : Int} {n i : Nat} (h : i < n) : (marks k n)[i]? = some (k + (i : Int)) := by
  simp [marks, List.getElem?_map, List.getElem?_range h]

end Go.Proofs.YtpebiacdkfpnpaaGreat
