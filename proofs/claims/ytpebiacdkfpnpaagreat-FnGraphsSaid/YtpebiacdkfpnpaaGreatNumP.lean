/- What is read from a number's text. Conditions: none. -/
import Derived.Test.YtpebiacdkfpnpaaGreatPIntA
namespace Go.Proofs.YtpebiacdkfpnpaaGreat

theorem dig_val (k : Nat) : digVal (dig k) = k := by
  induction k using Nat.strongRecOn with
  | ind k ih =>
    by_cases h : 0 < k
    · rw [dig_pos h, digVal_snoc]
      have h1 : k % 10 < 10 := Nat.mod_lt _ (by decide)
      have h2 : (UInt8.ofNat (48 + k % 10)).toNat = 48 + k % 10 := by rw [UInt8.toNat_ofNat']; omega
      have : isDig (UInt8.ofNat (48 + k % 10)) = true := by simp only [isDig, h2, decide_eq_true_eq]; omega
      simp only [this]
      rw [h2, ih (k / 10) (by omega)]
      show k / 10 * 10 + (48 + k % 10 - 48) = k
      omega
    · obtain rfl : k = 0 := by omega
      rw [dig]; rfl
theorem dig_length (j : Nat) : ∀ k, k < 10 ^ j → (dig k).length ≤ j := by
  induction j with
  | zero => intro k h; obtain rfl : k = 0 := by simpa using h
            rw [dig]; simp
  | succ j ih =>
    intro k h
    by_cases h0 : 0 < k
    · rw [dig_pos h0, List.length_append, List.length_singleton]
      have := ih (k / 10) (by rw [Nat.pow_succ] at h; exact Nat.div_lt_of_lt_mul (by omega))
      omega
    · obtain rfl : k = 0 := by omega
      rw [dig]; simp
theorem dig_long (k : Nat) (h : 1000000000 ≤ k) : ¬ (dig k).length ≤ 9 := fun hl => by
  have := digVal_lt9 hl
  rw [dig_val] at this
  omega
theorem minus_dig {l : List UInt8} (h : ∀ b ∈ l, isDig b = true) : isMinus l = false := by
  cases l with
  | nil => rfl
  | cons b l => exact decide_eq_false (digit_ne_minus (h b (by simp)))
/-- What is read from a number's text. -/
theorem parse_fmtI (n : Int) : parseIOk (fmtI n) = decide (-1000000000 < n ∧ n < 1000000000) ∧ (parseIOk (fmtI n) = true → parseIV (fmtI n) = n) := by
  by_cases h0 : n = 0
  · subst h0; decide
  have hpos : 0 < n.natAbs := by omega
  have hdn := dig_ne hpos
  have hda := dig_all n.natAbs
  have hparts : bodyI (fmtI n) = dig n.natAbs ∧ isMinus (fmtI n) = decide (n < 0) := by
    unfold fmtI
    rw [if_neg h0]
    by_cases hneg : n < 0
    · rw [if_pos hneg, decide_eq_true hneg]; exact ⟨rfl, rfl⟩
    · rw [if_neg hneg, decide_eq_false hneg]
      have hm := minus_dig hda
      exact ⟨by unfold bodyI; rw [hm], hm⟩
  obtain ⟨hbody, hmin⟩ := hparts
  by_cases hr : -1000000000 < n ∧ n < 1000000000
  · have hl9 := dig_length 9 n.natAbs (by have : (10 : Nat) ^ 9 = 1000000000 := by decide
                                          omega)
    obtain ⟨v, hv, ho, hpv⟩ := parseI_end (l := fmtI n) (by rw [hbody]; exact hda) (by rw [hbody]; exact hl9) n (by
      rw [hbody, hmin, dig_val]
      by_cases hneg : n < 0
      · rw [decide_eq_true hneg]; simp only; omega
      · rw [decide_eq_false hneg]; simp only; omega)
    obtain rfl : v = true := by rw [← hv]; simp
    refine ⟨by rw [ho, decide_eq_true hr], fun _ => hpv⟩
  · have hno := parseI_no (l := fmtI n) (fun h => dig_long n.natAbs (by omega) (by rw [← hbody]; exact h.2.2))
    refine ⟨by rw [hno.1, decide_eq_false hr], fun h => by rw [hno.1] at h; cases h⟩
end Go.Proofs.YtpebiacdkfpnpaaGreat
