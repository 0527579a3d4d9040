/- An argument that is a slice of edges, opened to what its cells hold. Conditions: none. -/
import Derived.Test.YtpebiacdkfpnpaaEdges
import Derived.Deep.Slices
import Derived.Deep.Fields
import Derived.ChangeSame
import Derived.Lib.SmallJoins
namespace Go.Proofs.Ytpebiacdkfpnpaa
open Go.ChangeShapes Go.WideShapes Go.RowKit Go.Deep Go.Joins

section
variable {H : Type} {enc : TypeId × Value → H} {P : Program} {w : World} {base : Nat} {held : Bool}
/-- What a slice of structs of three ints reads as. -/
theorem open_edges {t e : TypeId} {f0 f1 f2 : Field} {fuel : Nat} {v : Value} {x : DataW H × List MemPlace} (ht : P.underlying t = some (.slice e)) (he : P.underlying e = some (.struct #[f0, f1, f2]))
    (hone : oneCellFields P #[f0, f1, f2] = true) (hC : P.cellsOf e = 3) (u0 : P.underlying f0.type = some (.int .i64)) (u1 : P.underlying f1.type = some (.int .i64)) (u2 : P.underlying f2.type = some (.int .i64))
    (h : DataW.trod enc P w base (fun _ => true) held fuel t [v] = some x) : ∃ a len cap L, v = .slice a len cap ∧ ArgE w a len cap L := by
  rcases open_slice ht h with ⟨h0, _⟩ | ⟨a, len, cap, m, n, D, Pl, hcs, hb, hl, hm, hmm, hx, hi⟩
  · simp only [List.cons.injEq, and_true] at h0
    exact ⟨none, 0, 0, [], h0, argE_nil w⟩
  · simp only [List.cons.injEq, and_true] at hcs
    simp only [if_true] at hmm
    subst hcs
    obtain ⟨L, hL⟩ : ∃ L, ArgE w (some a) len cap L := by
      refine argE_cells hl hm fun i hlt => ?_
      obtain ⟨cs', hc, ht'⟩ := hi i (by omega)
      rw [hC] at hc
      obtain ⟨ys, n', hn', hy, hlen, hyl, hf⟩ := DataW.trod_struct he ht'
      obtain ⟨_, hcl, hat⟩ := World.cells?_some hc
      have each : ∀ (j : Nat) (f : Field), j < 3 → (#[f0, f1, f2] : Array Field)[j]? = some f → P.underlying f.type = some (.int .i64) → ∃ z : Int, I64 z ∧ w.cell? (a.add (i * 3 + j)) = some (.int .i64 z) := by
        intro j f hj hjf hu
        obtain ⟨ho, hk⟩ := hone_of hone j f hjf
        have hcell := hat j hj
        have h1 := hf j f hjf
        rw [ho, hk] at h1
        have hone' : (cs'.drop j).take 1 = [cs'[j]'(by omega)] := by
          rw [List.drop_eq_getElem_cons (by omega)]
          rfl
        rw [hone'] at h1
        have hyj : j < ys.length := by rw [hyl]; exact hj
        rw [List.getElem?_eq_getElem hyj] at h1
        obtain ⟨z, e1, _, w1⟩ := DataW.trod_int hu h1
        refine ⟨z, i64_of_wf w1, ?_⟩
        rw [← Go.Deep.add_add, hcell, List.getElem?_eq_getElem (by omega)]
        simp only [List.cons.injEq, and_true] at e1
        rw [e1]
      obtain ⟨x0, r0, c0⟩ := each 0 f0 (by omega) rfl u0
      obtain ⟨x1, r1, c1⟩ := each 1 f1 (by omega) rfl u1
      obtain ⟨x2, r2, c2⟩ := each 2 f2 (by omega) rfl u2
      exact ⟨x0, x1, x2, r0, r1, r2, c0, c1, c2⟩
    exact ⟨some a, len, cap, L, rfl, hL⟩
end
end Go.Proofs.Ytpebiacdkfpnpaa
