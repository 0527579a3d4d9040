/- Contracts of areInverse, product, ReduceLetters. Conditions: words of at most 2^23 letters. -/
import Derived.Test.YtpebiacdkfpnpaaInts
import Derived.Test.YtpebiacdkfpnpaaWordMath
namespace Go.Proofs.Ytpebiacdkfpnpaa
open Go.RowKit

theorem areInverse_any (a b : Int) (ha : I64 a) (w : World) : Calls Try.prog 74 #[.int .i64 a, .int .i64 b] w fun e w' => e = .returned (.bool (inv a b)) ∧ w = w' := by
  obtain ⟨h1, h2⟩ := ha
  by_cases h0 : a = 0
  · have e : inv a b = false := by simp [inv, h0]
    have hd : (a != 0) = false := by simp [h0]
    rw [e]
    clear e h0
    go_enter Try.func74, Try.ntmps74
    go_wp2
    go_ret
    exact ⟨rfl, rfl⟩
  · have hd : (a != 0) = true := by simp [h0]
    by_cases hm : a = -9223372036854775808
    · have e : inv a b = false := by simp [inv, hm]
      have hd2 : (a != -9223372036854775808) = false := by simp [hm]
      rw [e]
      clear e h0 hm
      go_enter Try.func74, Try.ntmps74
      go_wp2
      go_ret
      exact ⟨rfl, rfl⟩
    · have hd2 : (a != -9223372036854775808) = true := by simp [hm]
      have hlo : -9223372036854775807 ≤ a := by omega
      have e : inv a b = (b == -a) := by
        rw [Bool.eq_iff_iff]
        simp [inv, h0, hm]
        omega
      rw [e]
      clear e h0 hm h1
      go_enter Try.func74, Try.ntmps74
      go_wp2
      go_ret
      exact ⟨rfl, rfl⟩

/-- The slice of slices v reads as the list of lists ls. -/
def Rows2 (w : World) (v : Value) (ls : List (List Int)) : Prop :=
  ∃ b off cap, v = .slice (some ⟨b, off, none⟩) ls.length cap ∧ ls.length ≤ cap ∧ b < w.heap.size ∧ ∀ i (h : i < ls.length), ∃ vi, w.cell? ⟨b, off + i, none⟩ = some vi ∧ Ints w vi ls[i]
theorem Rows2.keep {w w' : World} {v : Value} {ls : List (List Int)} (h : Rows2 w v ls) (hB : Below w.heap.size w w') : Rows2 w' v ls := by
  obtain ⟨b, off, cap, rfl, hc, hb, hcell⟩ := h
  refine ⟨b, off, cap, rfl, hc, Nat.lt_of_lt_of_le hb hB.size, fun i hi => ?_⟩
  obtain ⟨vi, h1, h2⟩ := hcell i hi
  exact ⟨vi, (hB.cell (p := ⟨b, off + i, none⟩) hb).trans h1, h2.keep hB⟩

theorem ownsRow_pop {w : World} {B : Nat} {e : TypeId} {g n cap : Nat} {xs : List Value} {x : Value} (h : w.ownsRow B e 1 (.slice (some ⟨g, 0, none⟩) (n + 1) cap) (n + 1) (xs ++ [x])) : w.ownsRow B e 1 (.slice (some ⟨g, 0, none⟩) n cap) n xs := by
  have hl := h.1
  rcases h.2 with ⟨hv, _⟩ | ⟨g', cap', cur, hv, hb, hg, hn, hc, hs, ht⟩
  · cases hv
  · simp only [Value.slice.injEq, Option.some.injEq, Addr.mk.injEq, and_true] at hv
    obtain ⟨rfl, _, rfl⟩ := hv
    refine ⟨by simpa using hl, .inr ⟨g, cap, cur, rfl, hb, hg, by omega, hc, hs, ?_⟩⟩
    have e1 : cur.toList.take (n * 1) = (cur.toList.take ((n + 1) * 1)).take n := by rw [List.take_take]; congr 1; omega
    rw [e1, ht]
    have : xs.length = n := by simpa using hl
    rw [← this, List.take_left]

end Go.Proofs.Ytpebiacdkfpnpaa
