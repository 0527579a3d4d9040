/- Contracts of within and l1In. Conditions: none. -/
import Derived.Test.YtpebiacdkfpnpaaGreatRows
import Derived.Test.YtpebiacdkfpnpaaGreatBase
namespace Go.Proofs.YtpebiacdkfpnpaaGreat
open Go.RowKit

theorem within_any (x lo hi : Int) (w : World) : Calls Tryz.prog 45 #[.int .i64 x, .int .i64 lo, .int .i64 hi] w fun e w' => e = .returned (.bool (decide (lo ≤ x ∧ x ≤ hi))) ∧ w = w' := by
  by_cases h1 : lo ≤ x
  · by_cases h2 : x ≤ hi
    · have e1 : decide (lo ≤ x ∧ x ≤ hi) = true := by simp [h1, h2]
      rw [e1]
      go_enter Tryz.func45, Tryz.ntmps45
      go_wp2
      go_ret
      exact ⟨rfl, rfl⟩
    · have e1 : decide (lo ≤ x ∧ x ≤ hi) = false := by simp [h2]
      rw [e1]
      go_enter Tryz.func45, Tryz.ntmps45
      go_wp2
      go_ret
      exact ⟨rfl, rfl⟩
  · have e1 : decide (lo ≤ x ∧ x ≤ hi) = false := by simp [h1]
    rw [e1]
    go_enter Tryz.func45, Tryz.ntmps45
    go_wp2
    go_ret
    exact ⟨rfl, rfl⟩
theorem l1In_any (x lo hi : Int) (w : World) : Calls Tryz.prog 46 #[.int .i64 x, .int .i64 lo, .int .i64 hi] w fun e w' => e = .returned (.bool (decide (lo ≤ x ∧ x ≤ hi))) ∧ w = w' := by
  by_cases h1 : lo ≤ x
  · by_cases h2 : x ≤ hi
    · have e1 : decide (lo ≤ x ∧ x ≤ hi) = true := by simp [h1, h2]
      rw [e1]
      go_enter Tryz.func46, Tryz.ntmps46
      go_wp2
      go_ret
      exact ⟨rfl, rfl⟩
    · have e1 : decide (lo ≤ x ∧ x ≤ hi) = false := by simp [h2]
      rw [e1]
      go_enter Tryz.func46, Tryz.ntmps46
      go_wp2
      go_ret
      exact ⟨rfl, rfl⟩
  · have e1 : decide (lo ≤ x ∧ x ≤ hi) = false := by simp [h1]
    rw [e1]
    go_enter Tryz.func46, Tryz.ntmps46
    go_wp2
    go_ret
    exact ⟨rfl, rfl⟩
/-- The two together: what is asked, under its answer. -/
theorem within_yes {x lo hi : Int} (h1 : lo ≤ x) (h2 : x ≤ hi) (w : World) : Calls Tryz.prog 45 #[.int .i64 x, .int .i64 lo, .int .i64 hi] w fun e w' => e = .returned (.bool true) ∧ w = w' := by
  have e1 : decide (lo ≤ x ∧ x ≤ hi) = true := by simp [h1, h2]
  rw [← e1]; exact within_any x lo hi w
theorem within_no {x lo hi : Int} (h : x < lo ∨ hi < x) (w : World) : Calls Tryz.prog 45 #[.int .i64 x, .int .i64 lo, .int .i64 hi] w fun e w' => e = .returned (.bool false) ∧ w = w' := by
  have e1 : decide (lo ≤ x ∧ x ≤ hi) = false := by simp; omega
  rw [← e1]; exact within_any x lo hi w
theorem l1In_yes {x lo hi : Int} (h1 : lo ≤ x) (h2 : x ≤ hi) (w : World) : Calls Tryz.prog 46 #[.int .i64 x, .int .i64 lo, .int .i64 hi] w fun e w' => e = .returned (.bool true) ∧ w = w' := by
  have e1 : decide (lo ≤ x ∧ x ≤ hi) = true := by simp [h1, h2]
  rw [← e1]; exact l1In_any x lo hi w
theorem l1In_no {x lo hi : Int} (h : x < lo ∨ hi < x) (w : World) : Calls Tryz.prog 46 #[.int .i64 x, .int .i64 lo, .int .i64 hi] w fun e w' => e = .returned (.bool false) ∧ w = w' := by
  have e1 : decide (lo ≤ x ∧ x ≤ hi) = false := by simp; omega
  rw [← e1]; exact l1In_any x lo hi w

end Go.Proofs.YtpebiacdkfpnpaaGreat
