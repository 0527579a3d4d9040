/- What ParseInt computes, in plain terms. Conditions: none. -/
import Derived.Test.YtpebiacdkfpnpaaGreatNumC
namespace Go.Proofs.YtpebiacdkfpnpaaGreat
open Go.RowKit

def isDig (b : UInt8) : Bool := decide (48 ≤ b.toNat ∧ b.toNat ≤ 57)
/-- The number that the digits of a text make, the other bytes left out. -/
def digVal (l : List UInt8) : Nat := l.foldl (fun n b => match isDig b with
  | true => n * 10 + (b.toNat - 48)
  | false => n) 0
def digCnt (l : List UInt8) : Nat := l.countP isDig
def isMinus : List UInt8 → Bool
  | b :: _ => decide (b = 45)
  | [] => false
/-- The number that is tried. -/
def candI (l : List UInt8) : Int := match isMinus l with
  | true => -((digVal (l.take 11) : Nat) : Int)
  | false => ((digVal (l.take 11) : Nat) : Int)
def parseIOk (l : List UInt8) : Bool := decide (digCnt (l.take 11) ≤ 9) && (decide (l.length ≤ 10) && decide (fmtI (candI l) = l))
def parseIV (l : List UInt8) : Int := match parseIOk l with
  | true => candI l
  | false => 0
theorem digVal_snoc (l : List UInt8) (b : UInt8) : digVal (l ++ [b]) = match isDig b with
  | true => digVal l * 10 + (b.toNat - 48)
  | false => digVal l := by simp [digVal]
theorem dig_all : ∀ k b, b ∈ dig k → isDig b = true := by
  intro k
  induction k using Nat.strongRecOn with
  | ind k ih =>
    intro b hb
    by_cases h : 0 < k
    · rw [dig_pos h] at hb
      rcases List.mem_append.1 hb with hb | hb
      · exact ih (k / 10) (by omega) b hb
      · simp only [List.mem_cons, List.not_mem_nil, or_false] at hb
        subst hb
        have : k % 10 < 10 := Nat.mod_lt _ (by decide)
        simp only [isDig, decide_eq_true_eq, UInt8.toNat_ofNat']
        omega
    · obtain rfl : k = 0 := by omega
      rw [dig] at hb; simp at hb
theorem dig_ne {k : Nat} (h : 0 < k) : dig k ≠ [] := by rw [dig_pos h]; simp
/-- The form of a number's text: a minus perhaps, then digits, one at least. -/
theorem fmtI_form (n : Int) : ∃ d, d ≠ [] ∧ (∀ b ∈ d, isDig b = true) ∧ (fmtI n = d ∨ fmtI n = 45 :: d) := by
  unfold fmtI
  split
  · exact ⟨[48], by simp, by simp [isDig], .inl rfl⟩
  · rename_i h0
    split
    · exact ⟨dig n.natAbs, dig_ne (by omega), dig_all _, .inr rfl⟩
    · exact ⟨dig n.natAbs, dig_ne (by omega), dig_all _, .inl rfl⟩
/-- The rest of a text behind its minus. -/
def bodyI (l : List UInt8) : List UInt8 := match isMinus l with
  | true => l.drop 1
  | false => l
theorem digit_ne_minus {b : UInt8} (h : isDig b = true) : b ≠ 45 := by
  intro e; subst e; revert h; decide
theorem parseIOk_body {l : List UInt8} (h : parseIOk l = true) : (∀ b ∈ bodyI l, isDig b = true) ∧ 1 ≤ (bodyI l).length ∧ (bodyI l).length ≤ 9 := by
  simp only [parseIOk, Bool.and_eq_true, decide_eq_true_eq] at h
  obtain ⟨hc, hl, hf⟩ := h
  obtain ⟨d, hne, hd, hfm⟩ := fmtI_form (candI l)
  rw [hf] at hfm
  have ht : l.take 11 = l := List.take_of_length_le (by omega)
  rw [ht] at hc
  rcases hfm with rfl | rfl
  · have hm : isMinus l = false := by
      cases l with
      | nil => rfl
      | cons b l => simpa [isMinus] using digit_ne_minus (hd b (by simp))
    have hb : bodyI l = l := by simp only [bodyI, hm]
    rw [hb]
    have hcnt : digCnt l = l.length := by rw [digCnt, List.countP_eq_length]; exact hd
    have : 0 < l.length := List.length_pos_iff.2 hne
    exact ⟨hd, by omega, by omega⟩
  · have hm : isMinus (45 :: d) = true := by simp [isMinus]
    have hb : bodyI (45 :: d) = d := by simp only [bodyI, hm, List.drop_succ_cons, List.drop_zero]
    rw [hb]
    have hcnt : d.length ≤ digCnt (45 :: d) := by
      have : digCnt d = d.length := by rw [digCnt, List.countP_eq_length]; exact hd
      rw [digCnt, List.countP_cons]
      rw [digCnt] at this
      omega
    have : 0 < d.length := List.length_pos_iff.2 hne
    exact ⟨hd, by omega, by omega⟩
theorem cnt_body (l : List UInt8) (h : ∀ b ∈ bodyI l, isDig b = true) : digCnt l = (bodyI l).length := by
  cases hm : isMinus l with
  | false =>
    have hb : bodyI l = l := by simp only [bodyI, hm]
    rw [hb] at h ⊢
    rw [digCnt, List.countP_eq_length]; exact h
  | true =>
    cases l with
    | nil => simp [isMinus] at hm
    | cons b l =>
      have hb : bodyI (b :: l) = l := by simp only [bodyI, hm, List.drop_succ_cons, List.drop_zero]
      rw [hb] at h ⊢
      have h45 : b = 45 := by simpa [isMinus] using hm
      have : isDig b = false := by subst h45; rfl
      rw [digCnt, List.countP_cons, this, List.countP_eq_length.2 h]; simp
theorem val_body (l : List UInt8) (h : ∀ b ∈ bodyI l, isDig b = true) : digVal l = digVal (bodyI l) := by
  cases hm : isMinus l with
  | false => have hb : bodyI l = l := by simp only [bodyI, hm]
             rw [hb]
  | true =>
    cases l with
    | nil => simp [isMinus] at hm
    | cons b l =>
      have hb : bodyI (b :: l) = l := by simp only [bodyI, hm, List.drop_succ_cons, List.drop_zero]
      have h45 : b = 45 := by simpa [isMinus] using hm
      have : isDig b = false := by subst h45; rfl
      rw [hb]
      simp only [digVal, List.foldl_cons, this]
end Go.Proofs.YtpebiacdkfpnpaaGreat
