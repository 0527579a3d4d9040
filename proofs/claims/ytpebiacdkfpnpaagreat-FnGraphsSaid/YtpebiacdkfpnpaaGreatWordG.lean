/- Contracts of FormatWord. Conditions: words of at most 2^26 letters. -/
import Derived.Test.YtpebiacdkfpnpaaGreatArgs
import Derived.Test.YtpebiacdkfpnpaaGreatWithin
namespace Go.Proofs.YtpebiacdkfpnpaaGreat
open Go.RowKit

/-- A letter of some alphabet. -/
def letOk (x : Int) : Bool := decide (x ≠ 0 ∧ -3 ≤ x ∧ x ≤ 3)
/-- The byte of a letter: a, b, c, and A, B, C for their inverses. -/
def chr (x : Int) : UInt8 := match decide (x < 0) with
  | true => UInt8.ofNat (64 - x).toNat
  | false => UInt8.ofNat (96 + x).toNat
theorem letterText_one (x : Int) (h : x = 1 ∨ x = 2 ∨ x = 3 ∨ x = -1 ∨ x = -2 ∨ x = -3) (w : World) : Calls Tryz.prog 48 #[.int .i64 x] w fun e w' => e = .returned (.string ⟨#[chr x]⟩) ∧ w = w' := by
  rcases h with rfl | rfl | rfl | rfl | rfl | rfl
  all_goals
    go_enter Tryz.func48, Tryz.ntmps48
    go_wp2
    go_ret
    exact ⟨rfl, rfl⟩
theorem letterText_none (x : Int) (h : x < -3 ∨ x = 0 ∨ 3 < x) (w : World) : Calls Tryz.prog 48 #[.int .i64 x] w fun e w' => e = .returned (.string ⟨#[]⟩) ∧ w = w' := by
  rcases h with h | rfl | h
  all_goals
    go_enter Tryz.func48, Tryz.ntmps48
    go_wp2
    go_ret
    exact ⟨rfl, rfl⟩
theorem l2Char_one (x : Int) (h : x = 1 ∨ x = 2 ∨ x = 3 ∨ x = -1 ∨ x = -2 ∨ x = -3) (w : World) : Calls Tryz.prog 53 #[.int .i64 x] w (RetV w (.string ⟨#[chr x]⟩)) := by
  rcases h with rfl | rfl | rfl | rfl | rfl | rfl
  all_goals
    go_enter Tryz.func53, Tryz.ntmps53
    go_wp2
    go_ret
    exact ⟨rfl, (Below.refl _ _).alloc (Nat.le_refl _) _⟩
end Go.Proofs.YtpebiacdkfpnpaaGreat
