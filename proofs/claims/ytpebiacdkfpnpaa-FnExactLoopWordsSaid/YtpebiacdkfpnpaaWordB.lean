/- Contracts of ReduceLetters, MultiplyWords, InvertWord. Conditions: words of at most 2^26 letters. -/
import Derived.Test.YtpebiacdkfpnpaaWordA
namespace Go.Proofs.Ytpebiacdkfpnpaa
open Go.RowKit

theorem RetI.from {w w1 w' : World} {l : List Int} {e : Ending} (hb : Below w.heap.size w w1) (h : RetI w1 l e w') : RetI w l e w' := by
  obtain ⟨v, rfl, ho, hb'⟩ := h
  exact ⟨v, rfl, ho.base hb.size, hb.trans (hb'.mono hb.size)⟩
theorem Ints.form {w : World} {v : Value} {l : List Int} (h : Ints w v l) : ∃ b off cap, v = .slice (some ⟨b, off, none⟩) l.length cap ∧ b < w.heap.size ∧ l.length ≤ cap := by
  obtain ⟨b, off, cap, rfl, hc, hb, _⟩ := h; exact ⟨b, off, cap, rfl, hb, hc⟩
theorem intsV_one (l : List Int) : ∀ u ∈ intsV l, u.oneCell' = true := by
  intro u hu; simp only [intsV, List.mem_map] at hu; obtain ⟨x, _, rfl⟩ := hu; rfl
theorem Ints.news {w : World} {b off cap : Nat} {l : List Int} {n : Nat} (h : Ints w (.slice (some ⟨b, off, none⟩) n cap) l) : ∀ j u, (intsV l)[j]? = some u → w.cell? ((⟨b, off, none⟩ : Addr).add j) = some u := by
  obtain ⟨b', off', cap', hv, hc, hb, hcell, hr⟩ := h
  simp only [Value.slice.injEq, Option.some.injEq, Addr.mk.injEq, and_true] at hv
  obtain ⟨⟨rfl, rfl⟩, rfl, rfl⟩ := hv
  intro j u hu
  rw [intsV, List.getElem?_map, Option.map_eq_some_iff] at hu
  obtain ⟨x, hx, rfl⟩ := hu
  obtain ⟨hj, rfl⟩ := List.getElem?_eq_some_iff.1 hx
  rw [Addr.add_lit]
  exact hcell j hj
/-- A row of slices, built here. -/
theorem rows2_alloc {w w1 : World} {e : TypeId} {fr : Nat × Nat} {cs : Array Value} {ls : List (List Int)} (hw : Below w.heap.size w w1) (hb : w1.heap[w.heap.size]? = some (.cells cs e fr)) 
    (h : ∀ i (hi : i < ls.length), ∃ vi, cs[i]? = some vi ∧ Ints w vi ls[i]) : Rows2 w1 (.slice (some ⟨w.heap.size, 0, none⟩) ls.length ls.length) ls := by
  refine ⟨_, _, _, rfl, Nat.le_refl _, (Array.getElem?_eq_some_iff.1 hb).1, fun i hi => ?_⟩
  obtain ⟨vi, h1, h2⟩ := h i hi
  refine ⟨vi, ?_, h2.keep hw⟩
  have := World.news_of_block hb i vi (by simpa using h1)
  rwa [Addr.add_lit] at this
theorem rows2_one {w : World} {v1 : Value} {l1 : List Int} (e : TypeId) (h1 : Ints w v1 l1) :
    Rows2 (w.alloc (.cells #[v1] e (0, 0))) (.slice (some ⟨w.heap.size, 0, none⟩) 1 1) [l1] :=
  rows2_alloc (ls := [l1]) ((Below.refl _ _).alloc (Nat.le_refl _) _) (heap_alloc_new _ _) fun i hi => by
    match i, hi with | 0, _ => exact ⟨_, rfl, h1⟩
theorem rows2_two {w : World} {v1 v2 : Value} {l1 l2 : List Int} (e : TypeId) (h1 : Ints w v1 l1) (h2 : Ints w v2 l2) :
    Rows2 (w.alloc (.cells #[v1, v2] e (0, 0))) (.slice (some ⟨w.heap.size, 0, none⟩) 2 2) [l1, l2] :=
  rows2_alloc (ls := [l1, l2]) ((Below.refl _ _).alloc (Nat.le_refl _) _) (heap_alloc_new _ _) fun i hi => by
    match i, hi with | 0, _ => exact ⟨_, rfl, h1⟩ | 1, _ => exact ⟨_, rfl, h2⟩
theorem rows2_three {w : World} {v1 v2 v3 : Value} {l1 l2 l3 : List Int} (e : TypeId) (h1 : Ints w v1 l1) (h2 : Ints w v2 l2) (h3 : Ints w v3 l3) :
    Rows2 (w.alloc (.cells #[v1, v2, v3] e (0, 0))) (.slice (some ⟨w.heap.size, 0, none⟩) 3 3) [l1, l2, l3] :=
  rows2_alloc (ls := [l1, l2, l3]) ((Below.refl _ _).alloc (Nat.le_refl _) _) (heap_alloc_new _ _) fun i hi => by
    match i, hi with | 0, _ => exact ⟨_, rfl, h1⟩ | 1, _ => exact ⟨_, rfl, h2⟩ | 2, _ => exact ⟨_, rfl, h3⟩
theorem rows2_four {w : World} {v1 v2 v3 v4 : Value} {l1 l2 l3 l4 : List Int} (e : TypeId) (h1 : Ints w v1 l1) (h2 : Ints w v2 l2) (h3 : Ints w v3 l3) (h4 : Ints w v4 l4) :
    Rows2 (w.alloc (.cells #[v1, v2, v3, v4] e (0, 0))) (.slice (some ⟨w.heap.size, 0, none⟩) 4 4) [l1, l2, l3, l4] :=
  rows2_alloc (ls := [l1, l2, l3, l4]) ((Below.refl _ _).alloc (Nat.le_refl _) _) (heap_alloc_new _ _) fun i hi => by
    match i, hi with | 0, _ => exact ⟨_, rfl, h1⟩ | 1, _ => exact ⟨_, rfl, h2⟩ | 2, _ => exact ⟨_, rfl, h3⟩ | 3, _ => exact ⟨_, rfl, h4⟩

end Go.Proofs.Ytpebiacdkfpnpaa
