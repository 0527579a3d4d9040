/- Contracts of CyclicForm. Conditions: words of at most 2^25 letters. -/
import Derived.Test.YtbghnllflfcfhaaCycD
namespace Go.Proofs.Ytbghnllflfcfhaa
open Go.RowKit

/-- The least turn of a word's cyclic core. -/
def cycF (l : List Int) : List Int := rotL (coreX (red l)) (lrAt (coreX (red l)) ((coreX (red l)).length - 1))
theorem cycF_length (l : List Int) : (cycF l).length = (coreX (red l)).length := by rw [cycF, rotL_length]
theorem coreX_short (l : List Int) : (coreX (red l)).length ≤ l.length := by
  have := red_length l; rw [coreX_length]; omega
theorem cyclicForm_any (v : Value) (l : List Int) (w : World) (h : Ints w v l) (hn : l.length ≤ 33554432) :
    Calls Try.prog 10 #[v] w (RetI w (cycF l)) := by
  have hc := cyclicCore_any v l w h (by omega)
  have hl := coreX_short l
  have hf : cycF l = rotL (coreX (red l)) (lrAt (coreX (red l)) ((coreX (red l)).length - 1)) := rfl
  rw [hf]
  obtain ⟨c, hx⟩ : ∃ c, c = coreX (red l) := ⟨_, rfl⟩
  rw [← hx] at hc hl ⊢
  have HC := Lib.hid hc
  clear hc hx hf
  go_enter Try.func10, Try.ntmps10
  go_wp2_with fail
  refine (HC.out).mono ?_
  rintro e w1 ⟨v1, v2, rfl, o1, _, _, hB⟩
  go_wp2_with fail
  refine (leastRotation_any _ c _ o1.ints (by omega)).mono ?_
  rintro e w2 ⟨v3, rfl, o3, hb⟩
  go_wp2
  go_ret
  exact ⟨v3, rfl, o3.base hB.size, hB.trans (hb.mono hB.size)⟩
theorem cyclicFormS_any (v : Value) (l : List Int) (w : World) (h : Ints w v l) (hn : l.length ≤ 33554432) :
    Calls Try.prog 8 #[v] w (RetI w (cycF l)) := by
  have hc := cyclicCoreS_any v l w h (by omega)
  have hl := coreX_short l
  have hf : cycF l = rotL (coreX (red l)) (lrAt (coreX (red l)) ((coreX (red l)).length - 1)) := rfl
  rw [hf]
  obtain ⟨c, hx⟩ : ∃ c, c = coreX (red l) := ⟨_, rfl⟩
  rw [← hx] at hc hl ⊢
  have HC := Lib.hid hc
  clear hc hx hf
  go_enter Try.func8, Try.ntmps8
  go_wp2_with fail
  refine (HC.out).mono ?_
  rintro e w1 ⟨v1, v2, rfl, o1, _, _, hB⟩
  go_wp2_with fail
  refine (leastRotationS_any _ c _ o1.ints (by omega)).mono ?_
  rintro e w2 ⟨v3, rfl, o3, hb⟩
  go_wp2
  go_ret
  exact ⟨v3, rfl, o3.base hB.size, hB.trans (hb.mono hB.size)⟩
end Go.Proofs.Ytbghnllflfcfhaa
