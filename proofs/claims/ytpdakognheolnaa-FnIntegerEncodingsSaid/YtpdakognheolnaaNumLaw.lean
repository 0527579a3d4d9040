/- Plain laws of the integer encodings: what is encoded is decoded again. Conditions: none. -/
import Derived.Test.YtpdakognheolnaaNumD
import Derived.Test.YtpdakognheolnaaNumE
import Derived.Test.YtpdakognheolnaaPIntA
namespace Go.Proofs.Ytpdakognheolnaa

theorem hexVal_hex : ∀ n : Fin 16, hexVal (hexDigit n.val) = (n.val : Int) := by decide
theorem unhex_hex (l : List UInt8) : unhex (hexL l) = some l := by
  induction l with
  | nil => rfl
  | cons b l ih =>
    have hb := b.toNat_lt
    have h1 := hexVal_hex ⟨b.toNat / 16, by omega⟩
    have h2 := hexVal_hex ⟨b.toNat % 16, by omega⟩
    simp only at h1 h2
    simp only [hexL, unhex, h1, h2, ih]
    rw [if_neg (by omega)]
    simp only [Option.map_some, Option.some.injEq, List.cons.injEq, and_true]
    rw [show 16 * ((b.toNat / 16 : Nat) : Int).toNat + ((b.toNat % 16 : Nat) : Int).toNat = b.toNat by omega, UInt8.ofNat_toNat]
theorem decF_enc (m n : Nat) : decF (encF m n) = n % 256 ^ m := by
  suffices h : ∀ a, (encF m n).foldl (fun a b => a * 256 + b.toNat) a = a * 256 ^ m + n % 256 ^ m by
    have := h 0
    simpa [decF] using this
  induction m with
  | zero => intro a; simp [encF, Nat.mod_one]
  | succ m ih =>
    intro a
    simp only [encF, List.foldl_cons]
    rw [ih, UInt8.toNat_ofNat', Nat.mod_eq_of_lt (show n / 256 ^ m % 256 < 2 ^ 8 by omega)]
    have h1 := Nat.mod_pow_succ (x := n) (b := 256) (k := m)
    rw [h1, Nat.pow_succ, Nat.add_mul, Nat.mul_assoc, Nat.mul_comm 256 (256 ^ m), Nat.mul_comm (n / 256 ^ m % 256)]
    omega
theorem vi_num (n : Nat) : num7 (vi n) = n := by
  induction n using Nat.strongRecOn with
  | ind n ih =>
    by_cases h : n < 128
    · rw [vi_small h]
      simp only [num7, UInt8.toNat_ofNat']
      omega
    · rw [vi_big (by omega)]
      simp only [num7, UInt8.toNat_ofNat', ih (n / 128) (by omega)]
      omega
theorem vi_length (j : Nat) : ∀ n, n < 128 ^ (j + 1) → (vi n).length ≤ j + 1 := by
  induction j with
  | zero => intro n h; rw [vi_small (by simpa using h)]; simp
  | succ j ih =>
    intro n h
    by_cases h1 : n < 128
    · rw [vi_small h1]; simp
    · rw [vi_big (by omega), List.length_cons]
      have := ih (n / 128) (by rw [Nat.pow_succ] at h; exact Nat.div_lt_of_lt_mul (by omega))
      omega
theorem decGo_at {L : List UInt8} {m : Nat} (hm : hit L m = true) : ∀ f k, k ≤ m → m < k + f → (∀ j, k ≤ j → j < m → hit L j = false) → decGo L f k = pairV (num7 (L.take m)) m
  | 0, k, h1, h2, _ => by omega
  | f + 1, k, h1, h2, h3 => by
    by_cases h : k = m
    · subst h; rw [decGo_hit hm]
    · rw [decGo_miss (h3 k (Nat.le_refl _) (by omega))]
      exact decGo_at hm f (k + 1) (by omega) (by omega) fun j hj hj2 => h3 j (by omega) hj2
theorem dec_vi (n : Nat) (t : List UInt8) (hn : n ≤ 562949953421311) : decVV (vi n ++ t) = pairV n (vi n).length := by
  have h7 := vi_length 6 n (by have : (128 : Nat) ^ 7 = 562949953421312 := by decide
                               omega)
  obtain ⟨a, b, e, hb, ha⟩ := vi_shape n
  have h1 : 1 ≤ (vi n).length := by rw [e]; simp
  have ht : (vi n ++ t).take (vi n).length = vi n := by simp
  have hh : hit (vi n ++ t) (vi n).length = true := by unfold hit; rw [ht, vi_num]; simp
  have hmiss : ∀ j, 1 ≤ j → j < (vi n).length → hit (vi n ++ t) j = false := fun j hj1 hj2 => by
    obtain ⟨i, rfl⟩ : ∃ i, j = i + 1 := ⟨j - 1, by omega⟩
    have hi : i < a.length := by rw [e] at hj2; simp at hj2; omega
    refine hit_last (by rw [List.length_append]; omega) ?_
    have : (vi n ++ t)[i]'(by rw [List.length_append]; omega) = a[i] := by
      simp only [e, List.append_assoc]
      rw [List.getElem_append_left hi]
    rw [this]
    exact ha _ (List.getElem_mem hi)
  have hd := decGo_at hh (min 7 (vi n ++ t).length) 1 h1 (by rw [List.length_append]; omega) hmiss
  unfold decVV
  rw [hd, ht, vi_num]
theorem decVV_form (L : List UInt8) : ∃ x k : Nat, decVV L = pairV x k := by
  have : ∀ f k, ∃ x k', decGo L f k = pairV x k' := by
    intro f
    induction f with
    | zero => exact fun k => ⟨0, 0, rfl⟩
    | succ f ih =>
      intro k
      cases h : hit L k with
      | true => exact ⟨_, _, decGo_hit h⟩
      | false => obtain ⟨x, k', e⟩ := ih (k + 1); exact ⟨x, k', (decGo_miss h).trans e⟩
  exact this _ _
theorem dig_val (k : Nat) : digVal (dig k) = k := by
  induction k using Nat.strongRecOn with
  | ind k ih =>
    by_cases h : 0 < k
    · rw [dig_pos h, digVal_snoc]
      have h1 : k % 10 < 10 := Nat.mod_lt _ (by decide)
      have h2 : (UInt8.ofNat (48 + k % 10)).toNat = 48 + k % 10 := by rw [UInt8.toNat_ofNat']; omega
      have : isDig (UInt8.ofNat (48 + k % 10)) = true := by simp only [isDig, h2, decide_eq_true_eq]; omega
      simp only [this]
      rw [h2, ih (k / 10) (by omega)]
      show k / 10 * 10 + (48 + k % 10 - 48) = k
      omega
    · obtain rfl : k = 0 := by omega
      rw [dig]; rfl
theorem dig_length (j : Nat) : ∀ k, k < 10 ^ j → (dig k).length ≤ j := by
  induction j with
  | zero => intro k h; obtain rfl : k = 0 := by simpa using h
            rw [dig]; simp
  | succ j ih =>
    intro k h
    by_cases h0 : 0 < k
    · rw [dig_pos h0, List.length_append, List.length_singleton]
      have := ih (k / 10) (by rw [Nat.pow_succ] at h; exact Nat.div_lt_of_lt_mul (by omega))
      omega
    · obtain rfl : k = 0 := by omega
      rw [dig]; simp
theorem dig_long (k : Nat) (h : 1000000000 ≤ k) : ¬ (dig k).length ≤ 9 := fun hl => by
  have := digVal_lt9 hl
  rw [dig_val] at this
  omega
theorem minus_dig {l : List UInt8} (h : ∀ b ∈ l, isDig b = true) : isMinus l = false := by
  cases l with
  | nil => rfl
  | cons b l => exact decide_eq_false (digit_ne_minus (h b (by simp)))
/-- What is read from a number's text. -/
theorem parse_fmtI (n : Int) : parseIOk (fmtI n) = decide (-1000000000 < n ∧ n < 1000000000) ∧ (parseIOk (fmtI n) = true → parseIV (fmtI n) = n) := by
  by_cases h0 : n = 0
  · subst h0; decide
  have hpos : 0 < n.natAbs := by omega
  have hdn := dig_ne hpos
  have hda := dig_all n.natAbs
  have hparts : bodyI (fmtI n) = dig n.natAbs ∧ isMinus (fmtI n) = decide (n < 0) := by
    unfold fmtI
    rw [if_neg h0]
    by_cases hneg : n < 0
    · rw [if_pos hneg, decide_eq_true hneg]; exact ⟨rfl, rfl⟩
    · rw [if_neg hneg, decide_eq_false hneg]
      have hm := minus_dig hda
      exact ⟨by unfold bodyI; rw [hm], hm⟩
  obtain ⟨hbody, hmin⟩ := hparts
  by_cases hr : -1000000000 < n ∧ n < 1000000000
  · have hl9 := dig_length 9 n.natAbs (by have : (10 : Nat) ^ 9 = 1000000000 := by decide
                                          omega)
    obtain ⟨v, hv, ho, hpv⟩ := parseI_end (l := fmtI n) (by rw [hbody]; exact hda) (by rw [hbody]; exact hl9) n (by
      rw [hbody, hmin, dig_val]
      by_cases hneg : n < 0
      · rw [decide_eq_true hneg]; simp only; omega
      · rw [decide_eq_false hneg]; simp only; omega)
    obtain rfl : v = true := by rw [← hv]; simp
    refine ⟨by rw [ho, decide_eq_true hr], fun _ => hpv⟩
  · have hno := parseI_no (l := fmtI n) (fun h => dig_long n.natAbs (by omega) (by rw [← hbody]; exact h.2.2))
    refine ⟨by rw [hno.1, decide_eq_false hr], fun h => by rw [hno.1] at h; cases h⟩
end Go.Proofs.Ytpdakognheolnaa
