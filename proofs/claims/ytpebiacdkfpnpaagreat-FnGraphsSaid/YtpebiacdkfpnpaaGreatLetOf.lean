/- Contract of letterOf. Conditions: none. -/
import Derived.Test.YtpebiacdkfpnpaaGreatWordG
namespace Go.Proofs.YtpebiacdkfpnpaaGreat
open Go.RowKit

/-- The letter of a byte, 0 for another one. -/
def letOf (c : Nat) : Int := if 97 ≤ c ∧ c ≤ 99 then c - 96 else if 65 ≤ c ∧ c ≤ 67 then 64 - c else 0
theorem letOf_i64 (c : Nat) : I64 (letOf c) := by unfold letOf I64; split <;> (try split) <;> omega
theorem letOf_chr {b : UInt8} (h : letOf b.toNat ≠ 0) : chr (letOf b.toNat) = b := by
  unfold letOf at h ⊢
  have hb := b.toNat_lt
  split at h
  · rename_i h1
    rw [if_pos h1]
    have : decide ((b.toNat : Int) - 96 < 0) = false := by simp; omega
    simp only [chr, this]
    have e : (96 + ((b.toNat : Int) - 96)).toNat = b.toNat := by omega
    rw [e, UInt8.ofNat_toNat]
  · rename_i h1
    rw [if_neg h1]
    split at h
    · rename_i h2
      rw [if_pos h2]
      have : decide ((64 : Int) - (b.toNat : Int) < 0) = true := by simp; omega
      simp only [chr, this]
      have e : (64 - ((64 : Int) - (b.toNat : Int))).toNat = b.toNat := by omega
      rw [e, UInt8.ofNat_toNat]
    · exact absurd rfl h
theorem letterOf_any (c : Nat) (hc : c < 256) (w : World) : Calls Tryz.prog 51 #[.int .u8 c] w fun e w' => e = .returned (.int .i64 (letOf c)) ∧ w = w' := by
  by_cases h1 : 97 ≤ c ∧ c ≤ 99
  · have : c = 97 ∨ c = 98 ∨ c = 99 := by omega
    rcases this with rfl | rfl | rfl
    all_goals
      clear h1
      go_enter Tryz.func51, Tryz.ntmps51
      go_wp2
      go_ret
      exact ⟨rfl, rfl⟩
  by_cases h2 : 65 ≤ c ∧ c ≤ 67
  · have : c = 65 ∨ c = 66 ∨ c = 67 := by omega
    rcases this with rfl | rfl | rfl
    all_goals
      clear h1 h2
      go_enter Tryz.func51, Tryz.ntmps51
      go_wp2
      go_ret
      exact ⟨rfl, rfl⟩
  have e : letOf c = 0 := by simp [letOf, h1, h2]
  rw [e]
  clear e
  have : c < 65 ∨ (67 < c ∧ c < 97) ∨ 99 < c := by omega
  rcases this with h | ⟨h, h'⟩ | h
  · have d1 : decide ((97 : Int) ≤ c) = false := decide_eq_false (by omega)
    have d2 : decide ((65 : Int) ≤ c) = false := decide_eq_false (by omega)
    clear h1 h2 h
    go_enter Tryz.func51, Tryz.ntmps51
    go_wp2
    go_ret
    exact ⟨rfl, rfl⟩
  · have d1 : decide ((97 : Int) ≤ c) = false := decide_eq_false (by omega)
    have d2 : decide ((65 : Int) ≤ c) = true := decide_eq_true (by omega)
    have d3 : decide ((c : Int) ≤ 67) = false := decide_eq_false (by omega)
    clear h1 h2 h h'
    go_enter Tryz.func51, Tryz.ntmps51
    go_wp2
    go_ret
    exact ⟨rfl, rfl⟩
  · have d1 : decide ((97 : Int) ≤ c) = true := decide_eq_true (by omega)
    have d2 : decide ((65 : Int) ≤ c) = true := decide_eq_true (by omega)
    have d3 : decide ((c : Int) ≤ 67) = false := decide_eq_false (by omega)
    have d4 : decide ((c : Int) ≤ 99) = false := decide_eq_false (by omega)
    clear h1 h2 h
    go_enter Tryz.func51, Tryz.ntmps51
    go_wp2
    go_ret
    exact ⟨rfl, rfl⟩

end Go.Proofs.YtpebiacdkfpnpaaGreat
