/- Facts on graphs. Conditions: none. -/
import Derived.Test.YtpebiacdkfpnpaaGreatGraphD
namespace Go.Proofs.YtpebiacdkfpnpaaGreat
open Go.RowKit

theorem isG_all {r n : Int} {l : List Ed} (h : isG r n l = true) : (1 ≤ r ∧ r ≤ 3) ∧ (1 ≤ n ∧ n ≤ 40) ∧ l.length ≤ 120 ∧ ∀ e ∈ l, (0 ≤ e.1 ∧ e.1 < n) ∧ (1 ≤ e.2.1 ∧ e.2.1 ≤ r) ∧ 0 ≤ e.2.2 ∧ e.2.2 < n := by
  have h' : (1 ≤ r ∧ r ≤ 3) ∧ (1 ≤ n ∧ n ≤ 40) ∧ l.length ≤ 120 ∧ edgesOk r n l = true := by simpa [isG] using h
  obtain ⟨h1, h2, h3, h4⟩ := h'
  refine ⟨h1, h2, h3, fun e he => ?_⟩
  obtain ⟨k, hk, rfl⟩ := List.mem_iff_getElem.1 he
  rw [edgesOk, List.all_eq_true] at h4
  have h5 := h4 k (by simpa using hk)
  rw [stepOk, getD_at hk, Bool.and_eq_true] at h5
  have h6 := h5.1
  have hw : wrap64 (n - 1) = n - 1 := by unfold wrap64; omega
  simp only [okE, inV, Bool.and_eq_true, decide_eq_true_eq, hw] at h6
  omega
theorem inV_iff {n x : Int} (h : 1 ≤ n ∧ n ≤ 40) : inV n x = true ↔ 0 ≤ x ∧ x < n := by
  have hw : wrap64 (n - 1) = n - 1 := by unfold wrap64; omega
  simp only [inV, decide_eq_true_eq, hw]; omega
end Go.Proofs.YtpebiacdkfpnpaaGreat
