/- Contract of the reference's NextVertex. Conditions: at most 2^20 edges, no letter the least int. -/
import Derived.Test.YtpebiacdkfpnpaaStepS
namespace Go.Proofs.Ytpebiacdkfpnpaa
open Go.RowKit

set_option maxHeartbeats 800000 in
theorem nextVertexS_any (r n v x : Int) (V : Value) (l : List Ed) (w : World) (h : Edges w V l) (hn : l.length ≤ 1048576) (hx : I64 x) (hL : ∀ e ∈ l, e.2.1 ≠ -9223372036854775808) :
    Calls Try.prog 11 #[graphV r n V, .int .i64 v, .int .i64 x] w (RetV w (.int .i64 (nextV l v x))) := by
  obtain ⟨W, hW⟩ : ∃ W, W = w.alloc (.cells #[.int .i64 r, .int .i64 n, V] 29 (0, 0)) := ⟨_, rfl⟩
  have hB : Below w.heap.size w W := by rw [hW]; exact (Below.refl _ _).alloc (Nat.le_refl _) _
  have hq := stepsFromS_any r n v x V l W (h.keep hB) hn hx hL
  obtain ⟨A, cap, rfl, _⟩ := h
  have HQ := Lib.hid hq
  have HW := Lib.hid hW
  clear hq hW hL hx
  go_enter Try.func11, Try.ntmps11
  go_wp2_with fail
  rw [← HW.out]
  refine (HQ.out).mono ?_
  rintro e w1 ⟨v1, rfl, o1, hb1⟩
  have hB1 := hB.trans (hb1.mono hB.size)
  obtain ⟨o, ho⟩ : ∃ o, o = stepsL l v x := ⟨_, rfl⟩
  rw [← ho] at o1
  have hi := o1.ints
  obtain ⟨g, c1, rfl, hown, hI⟩ := o1
  by_cases h0 : o.length = 0
  · have hst : Kept (nextV l v x = -1) := ⟨nextV_none (by rw [← ho]; exact List.length_eq_zero_iff.1 h0)⟩
    have t1 : ((o.length : Int) == 0) = true := by simp [h0]
    clear ho h0
    go_wp2
    go_ret
    rw [hst.out]
    exact ⟨rfl, hB1⟩
  · have hst : Kept (nextV l v x = o[0]'(by omega)) := ⟨by rw [nextV_some (by rw [← ho]; omega)]; simp [ho]⟩
    have e1 := hown.cellAt 0 (by omega)
    rw [intsV, List.getElem?_map, List.getElem?_eq_getElem (by omega)] at e1
    have t1 : ((o.length : Int) == 0) = false := by simp; exact fun e => h0 (by rw [e]; rfl)
    have hpos : (0 : Int) < (o.length : Int) := by omega
    obtain ⟨y, hy⟩ : ∃ y, y = o[0]'(by omega) := ⟨_, rfl⟩
    rw [← hy] at hst e1
    simp only [Option.map_some] at e1
    clear ho h0 hy
    go_wp2
    go_ret
    rw [hst.out]
    exact ⟨rfl, hB1⟩
end Go.Proofs.Ytpebiacdkfpnpaa
