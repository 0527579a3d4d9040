/- An argument that is a slice of slices of ints, opened to what its rows read as. Conditions: none. -/
import Derived.Test.YtopelbcikbkdbaaListA
import Derived.Deep.Matrix
namespace Go.Proofs.Ytopelbcikbkdbaa
open Go.ChangeShapes Go.WideShapes Go.RowKit Go.Deep

section
variable {H : Type} {enc : TypeId × Value → H} {P : Program} {w : World} {base : Nat} {held : Bool}
/-- What a slice of slices of ints reads as. -/
theorem open_lists {t e q : TypeId} {fuel : Nat} {v : Value} {x : DataW H × List MemPlace} (ht : P.underlying t = some (.slice e)) (he : P.underlying e = some (.slice q)) (hq : P.underlying q = some (.int .i64))
    (ce : P.cellsOf e = 1) (cq : P.cellsOf q = 1) (h : DataW.trod enc P w base (fun _ => true) held fuel t [v] = some x) : ∃ a len cap ls, v = .slice a len cap ∧ ArgL w a len cap ls := by
  rcases open_int_rows ht he hq ce cq h with ⟨h0, _⟩ | ⟨a, len, cap, A, L, C, Z, hcs, hb, hl, hm, hx, hi⟩
  · simp only [List.cons.injEq, and_true] at h0
    exact ⟨none, 0, 0, [], h0, rfl, by omega, fun h => absurd h (by omega)⟩
  · simp only [List.cons.injEq, and_true] at hcs
    subst hcs
    have hlen : ((List.range len).map fun r => (Z r).take (L r)).length = len := by simp
    refine ⟨some a, len, cap, (List.range len).map fun r => (Z r).take (L r), rfl, hlen, by unfold maxLen at hm; omega, fun h0 => ?_⟩
    have hc0 := (hi 0 (by omega)).1
    obtain ⟨b, off, spot⟩ := a
    have hspot : spot = none := by simpa [Addr.add] using World.cell?_spot hc0
    subst hspot
    refine ⟨b, off, rfl, by simpa [Addr.add] using World.block_lt_of_cell? w _ hc0, hl, fun i hlt => ?_⟩
    rw [hlen] at hlt
    obtain ⟨h1, h2, h3, h4, h5, h6, h7⟩ := hi i (by omega)
    rw [Addr.add_lit] at h1
    refine ⟨A i, L i, C i, h1, ⟨Z i, ?_, by simp⟩, by unfold maxLen at h3; omega⟩
    cases hA : A i with
    | none =>
      have hC := h6 hA
      rw [hC] at h2 h4
      refine .inl ⟨rfl, by omega, hC, List.length_eq_zero_iff.1 h4⟩
    | some a' =>
      obtain ⟨_, h8⟩ := h7 a' hA
      refine .inr ⟨a', rfl, h2, h3, h4, fun j hj => h8 j (by omega), h5⟩
end
end Go.Proofs.Ytopelbcikbkdbaa
