/- slices.Sort and slices.Compact at []int, in the words of these texts. Conditions: at most 2^20 numbers. -/
import Derived.Test.YtpebiacdkfpnpaaGreatShelf
import Derived.Test.YtpebiacdkfpnpaaGreatSteps
import Derived.Sort.OwnSortedInts
namespace Go.Proofs.YtpebiacdkfpnpaaGreat
open Go.RowKit Go.Sort

/-- The numbers in ascending order. -/
def sortL (l : List Int) : List Int := l.mergeSort fun x y => decide (x ≤ y)
theorem sortL_mem {l : List Int} {u : Int} : u ∈ sortL l ↔ u ∈ l := List.mem_mergeSort
theorem sortL_length (l : List Int) : (sortL l).length = l.length := List.length_mergeSort l
theorem sortL_asc (l : List Int) : (sortL l).Pairwise (· ≤ ·) := by
  have := List.pairwise_mergeSort (le := fun x y : Int => decide (x ≤ y)) (fun a b c h1 h2 => by simp at *; omega) (fun a b => by simp; omega) l
  exact this.imp fun h => by simpa using h
theorem compact_upTo {l : List Int} (h : l.Pairwise (· ≤ ·)) : ∀ m, m ≤ l.length → (Lib.compactUpTo l.toArray m).Pairwise (· < ·) ∧ (∀ u, u ∈ Lib.compactUpTo l.toArray m ↔ u ∈ l.take m) := by
  have hg : ∀ i (hi : i < l.length), l.toArray[i]! = l[i] := fun i hi => by simp [hi]
  intro m
  induction m with
  | zero => intro _; simp [Lib.compactUpTo]
  | succ m ih =>
    intro hm
    obtain ⟨i1, i2⟩ := ih (by omega)
    have hm' : m < l.length := by omega
    rw [Lib.compactUpTo_succ, List.take_succ_eq_append_getElem hm']
    have hle : ∀ u ∈ l.take m, u ≤ l[m] := fun u hu => by
      obtain ⟨j, hj, rfl⟩ := List.mem_iff_getElem.1 hu
      rw [List.length_take] at hj
      rw [List.getElem_take]
      exact (List.pairwise_iff_getElem.1 h) j m (by omega) hm' (by omega)
    cases hk : Lib.keeps l.toArray m with
    | true =>
      rw [if_pos rfl, hg m hm']
      refine ⟨?_, fun u => by simp only [List.mem_append, i2]⟩
      rw [List.pairwise_append]
      refine ⟨i1, List.pairwise_singleton _ _, fun u hu v hv => ?_⟩
      rw [List.mem_singleton] at hv
      subst hv
      rw [i2] at hu
      simp only [Lib.keeps, decide_eq_true_eq] at hk
      rcases hk with hk | hk
      · subst hk; simp at hu
      · rcases Nat.eq_zero_or_pos m with h0 | h0
        · subst h0; simp at hu
        · rw [hg m hm', hg (m - 1) (by omega)] at hk
          obtain ⟨j, hj, rfl⟩ := List.mem_iff_getElem.1 hu
          rw [List.length_take] at hj
          rw [List.getElem_take]
          have h1 : l[j] ≤ l[m - 1] := by
            rcases Nat.lt_or_ge j (m - 1) with h2 | h2
            · exact (List.pairwise_iff_getElem.1 h) j (m - 1) (by omega) (by omega) h2
            · have : j = m - 1 := by omega
              subst this; exact Int.le_refl _
          have h2 : l[m - 1] ≤ l[m] := (List.pairwise_iff_getElem.1 h) (m - 1) m (by omega) hm' (by omega)
          omega
    | false =>
      rw [if_neg (by simp), List.append_nil]
      refine ⟨i1, fun u => ?_⟩
      rw [i2, List.mem_append, List.mem_singleton]
      simp only [Lib.keeps, decide_eq_false_iff_not, not_or, Classical.not_not] at hk
      rw [hg m hm', hg (m - 1) (by omega)] at hk
      constructor
      · exact .inl
      · rintro (hu | rfl)
        · exact hu
        · rw [hk.2]
          exact List.mem_iff_getElem.2 ⟨m - 1, by rw [List.length_take]; omega, by rw [List.getElem_take]⟩
theorem compact_sort {l : List Int} : (Lib.compact (sortL l)).Pairwise (· < ·) ∧ ∀ u, u ∈ Lib.compact (sortL l) ↔ u ∈ l := by
  obtain ⟨h1, h2⟩ := compact_upTo (sortL_asc l) _ (Nat.le_refl _)
  refine ⟨h1, fun u => ?_⟩
  rw [Lib.compact, h2, List.take_length, sortL_mem]
theorem compact_len (l : List Int) : (Lib.compact l).length ≤ l.length := by
  unfold Lib.compact Lib.compactUpTo
  rw [List.length_map]
  exact Nat.le_trans (List.length_filter_le _ _) (by simp)
/-- The block of a row of ints. -/
theorem ownI_row {w : World} {B : Nat} {v : Value} {l : List Int} (h : OwnI w B v l) : ∃ g cap cur, v = .slice (some ⟨g, 0, none⟩) l.length cap ∧ B ≤ g ∧ w.heap[g]? = some (.cells cur 3 (0, 0)) ∧ l.length ≤ cap ∧ cap ≤ maxLen ∧ cur.size = cap * 1 ∧ cur.toList.take l.length = intsV l := by
  obtain ⟨g, cap, rfl, hown, hI⟩ := h
  rcases hown.2 with ⟨h0, _⟩ | ⟨g', cap', cur, hv, hg, hb, hn, hcap, hs, ht⟩
  · cases h0
  cases hv
  exact ⟨g, cap, cur, rfl, hg, hb, hn, hcap, hs, by rw [← Nat.mul_one l.length]; exact ht⟩
theorem sortI_any (v : Value) (l : List Int) (B : Nat) (w : World) (h : OwnI w B v l) (hn : l.length ≤ 1048576) :
    Calls Tryz.prog 60 #[v] w fun e w' => e = .returned (.tuple #[]) ∧ OwnI w' B v (sortL l) ∧ w.grownBy w' v.ownBlock := by
  have hI : ∀ x ∈ l, I64 x := by obtain ⟨_, _, _, _, hI⟩ := h; exact hI
  obtain ⟨g, cap, cur, rfl, hg, hb, hcap, hm, hs, ht⟩ := ownI_row h
  have hH := holds_of_blockI hb ht
  refine (Tryz.slices_Sort_int g 0 cap l w hH (Array.getElem?_eq_some_iff.1 hb).1 (by omega)).mono ?_
  rintro e w' ⟨rfl, n, os, rfl⟩
  refine ⟨rfl, ⟨g, cap, by rw [sortL_length], ?_, fun x hx => hI x (sortL_mem.1 hx)⟩, grownBy_sortedI _⟩
  have := ownsRow_sortedI (ss := l) (ts := sortL l) (n := n) (os := os) (sortL_length l) hg hb hcap hm hs
  rw [sortL_length]
  exact this
theorem compactI_any (v : Value) (l : List Int) (B : Nat) (w : World) (h : OwnI w B v l) (hn : l.length ≤ 1048576) :
    Calls Tryz.prog 61 #[v] w fun e w' => ∃ v', e = .returned v' ∧ OwnI w' B v' (Lib.compact l) ∧ w.grownBy w' v.ownBlock := by
  have hI : ∀ x ∈ l, I64 x := by obtain ⟨_, _, _, _, hI⟩ := h; exact hI
  obtain ⟨g, cap, cur, rfl, hg, hb, hcap, hm, hs, ht⟩ := ownI_row h
  have hH := holds_of_blockI hb ht
  refine (Tryz.slices_Compact_int g 0 cap l w hH (by omega) (by omega)).mono ?_
  rintro e w' ⟨rfl, q, rfl⟩
  have hcl := compact_len l
  have hlen : (Lib.compact l ++ List.replicate (l.length - (Lib.compact l).length) 0).length = l.length := by simp; omega
  have ho := ownsRow_sortedI (ss := l) (ts := Lib.compact l ++ List.replicate (l.length - (Lib.compact l).length) 0) (n := q) (os := #[]) hlen hg hb hcap hm hs
  have hgr := grownBy_sortedI (w := w) (g := g) (n := q) (os := #[]) (Lib.compact l ++ List.replicate (l.length - (Lib.compact l).length) 0).toArray
  have hz : ∀ X : World, grow X #[] = X := fun X => by simp [grow]
  rw [hz] at ho hgr
  refine ⟨_, rfl, ⟨g, cap, rfl, ⟨by simp [intsV], ?_⟩, fun x hx => ?_⟩, hgr⟩
  · rcases ho.2 with ⟨h0, _⟩ | ⟨g', cap', cur', hv, hg', hb', hn', hcap', hs', ht'⟩
    · cases h0
    cases hv
    refine .inr ⟨g, cap, cur', rfl, hg, hb', by omega, hcap', hs', ?_⟩
    rw [Nat.mul_one] at ht' ⊢
    have := congrArg (List.take (Lib.compact l).length) ht'
    rw [List.take_take, Nat.min_eq_left hcl, List.map_append, List.take_left' (by simp)] at this
    exact this
  · have hu : x ∈ l := by
      unfold Lib.compact Lib.compactUpTo at hx
      simp only [List.mem_map, List.mem_filter, List.mem_range] at hx
      obtain ⟨j, ⟨hj, _⟩, rfl⟩ := hx
      have : l.toArray[j]! = l[j] := by simp [hj]
      rw [this]; exact List.getElem_mem hj
    exact hI x hu
end Go.Proofs.YtpebiacdkfpnpaaGreat
