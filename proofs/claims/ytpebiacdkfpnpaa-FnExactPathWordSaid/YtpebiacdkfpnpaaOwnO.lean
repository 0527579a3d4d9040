/- Rows of words of which some are missing, in memory of the call's own. Conditions: none. -/
import Derived.Test.YtpebiacdkfpnpaaListA
import Derived.Test.YtpebiacdkfpnpaaBfs
namespace Go.Proofs.Ytpebiacdkfpnpaa
open Go.RowKit

/-- The row at the block g holds the words ws, nil for those that are missing; no word lies in the blocks g and go. -/
def OwnO (w : World) (B g go : Nat) (ws : List (Option (List Int))) : Prop :=
  ∃ vs : List Value, w.ownsRow B 33 1 (.slice (some ⟨g, 0, none⟩) ws.length ws.length) ws.length vs ∧
    ∀ i (h : i < ws.length), (ws[i] = none → vs[i]? = some (.slice none 0 0)) ∧ ∀ l, ws[i] = some l → ∃ vi, vs[i]? = some vi ∧ OwnI w B vi l ∧ vi.ownBlock ≠ some g ∧ vi.ownBlock ≠ some go
theorem OwnO.keep {w w' : World} {B g go : Nat} {ws : List (Option (List Int))} (h : OwnO w B g go ws) (hB : Below w.heap.size w w') : OwnO w' B g go ws := by
  obtain ⟨vs, ho, hr⟩ := h
  refine ⟨vs, ownsRow_keep ho hB, fun i hi => ⟨(hr i hi).1, fun l hl => ?_⟩⟩
  obtain ⟨vi, h1, h2, h3⟩ := (hr i hi).2 l hl
  exact ⟨vi, h1, h2.keep hB, h3⟩
theorem OwnO.put {w : World} {B g go i : Nat} {ws : List (Option (List Int))} {vi : Value} {l : List Int} (h : OwnO w B g go ws) (hi : i < ws.length) (ho : OwnI w B vi l) (h1 : vi.ownBlock ≠ some g) (h2 : vi.ownBlock ≠ some go) :
    OwnO (w.setCell ⟨g, i, none⟩ vi) B g go (ws.set i (some l)) ∧ w.grownBy (w.setCell ⟨g, i, none⟩ vi) (some g) := by
  obtain ⟨vs, hown, hr⟩ := h
  have hs := hown.stored i vi
  have hvl : vs.length = ws.length := by simpa using hown.1
  refine ⟨⟨vs.set i vi, by rw [List.length_set]; exact hs.1, fun j hj => ?_⟩, hs.2⟩
  rw [List.length_set] at hj
  by_cases e : i = j
  · subst e
    rw [List.getElem_set_self]
    refine ⟨fun h => by (cases h), fun l' hl => ?_⟩
    cases hl
    exact ⟨vi, List.getElem?_set_self (by omega), ho.grown hs.2 h1, h1, h2⟩
  · rw [List.getElem_set_ne e, List.getElem?_set_ne e]
    refine ⟨(hr j hj).1, fun l' hl => ?_⟩
    obtain ⟨vj, a1, a2, a3, a4⟩ := (hr j hj).2 l' hl
    exact ⟨vj, a1, a2.grown hs.2 a3, a3, a4⟩
theorem OwnO.pushed {w w' : World} {B g go go' : Nat} {ws : List (Option (List Int))} (h : OwnO w B g go ws) (hg : w.grownBy w' (some go)) (hne : g ≠ go) (hat : go' = go ∨ w.heap.size ≤ go') : OwnO w' B g go' ws := by
  obtain ⟨vs, hown, hr⟩ := h
  refine ⟨vs, hown.kept hg (.inr (by simpa [Value.ownBlock] using hne)), fun i hi => ⟨(hr i hi).1, fun l hl => ?_⟩⟩
  obtain ⟨vi, a1, a2, a3, a4⟩ := (hr i hi).2 l hl
  refine ⟨vi, a1, a2.grown hg a4, a3, ?_⟩
  rcases hat with rfl | hat
  · exact a4
  · obtain ⟨k, hk, _, hlt⟩ := a2.block
    rw [hk]; simp only [ne_eq, Option.some.injEq]; omega
theorem OwnO.row {w : World} {B g go : Nat} {ws : List (Option (List Int))} (h : OwnO w B g go ws) : ∃ vs, w.ownsRow B 33 1 (.slice (some ⟨g, 0, none⟩) ws.length ws.length) ws.length vs := by
  obtain ⟨vs, ho, _⟩ := h; exact ⟨vs, ho⟩
theorem OwnO.none_ {w : World} {B g go i : Nat} {ws : List (Option (List Int))} (h : OwnO w B g go ws) (hi : i < ws.length) (e : ws[i] = none) : w.cell? ⟨g, i, none⟩ = some (.slice none 0 0) := by
  obtain ⟨vs, ho, hr⟩ := h
  rw [ho.cellAt i (by omega)]; exact (hr i hi).1 e
theorem OwnO.some_ {w : World} {B g go i : Nat} {ws : List (Option (List Int))} {l : List Int} (h : OwnO w B g go ws) (hi : i < ws.length) (e : ws[i] = some l) : ∃ gi ci, w.cell? ⟨g, i, none⟩ = some (.slice (some ⟨gi, 0, none⟩) l.length ci) ∧ OwnI w B (.slice (some ⟨gi, 0, none⟩) l.length ci) l ∧ gi ≠ g ∧ gi ≠ go := by
  obtain ⟨vs, ho, hr⟩ := h
  obtain ⟨vi, h1, h2, h3, h4⟩ := (hr i hi).2 l e
  obtain ⟨gi, ci, rfl, _⟩ := id h2
  refine ⟨gi, ci, ?_, h2, fun e => h3 (by rw [e]; rfl), fun e => h4 (by rw [e]; rfl)⟩
  rw [ho.cellAt i (by omega)]; exact h1
theorem nonesV (m : Nat) : (madeCells (Value.slice none 0 0).cells (m * 1)).toList = List.replicate m (Value.slice none 0 0) := by
  rw [Nat.mul_one]; exact toList_madeCells_one (.slice none 0 0) m
theorem OwnO.start {w : World} {B g go n : Nat} (h : w.ownsRow B 33 1 (.slice (some ⟨g, 0, none⟩) n n) n (List.replicate n (.slice none 0 0))) : OwnO w B g go (List.replicate n none) := by
  refine ⟨List.replicate n (.slice none 0 0), by simpa using h, fun i hi => ⟨fun _ => ?_, fun l hl => ?_⟩⟩
  · rw [List.length_replicate] at hi
    rw [List.getElem?_replicate, if_pos hi]
  · rw [List.getElem_replicate] at hl; cases hl
theorem wordAt_get {s : Bfs} {n t : Nat} (h : s.2.length = n) (ht : t < n) : ∃ hi : t < s.2.length, wordAt s (t : Int) = s.2[t] := by
  refine ⟨by omega, ?_⟩
  unfold wordAt
  rw [Int.toNat_natCast, List.getD_eq_getElem?_getD, List.getElem?_eq_getElem (by omega)]; rfl
end Go.Proofs.Ytpebiacdkfpnpaa
