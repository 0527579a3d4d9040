/- Contracts of the references' draws for the laws on words; of laws.big and laws.sameInts. Conditions: codes of at most 2^20 bytes. -/
import Derived.Test.YtpebiacdkfpnpaaGreatDrawW
namespace Go.Proofs.YtpebiacdkfpnpaaGreat
open Go.RowKit
/-- Whether two lists are the same. -/
def eqL (l1 l2 : List Int) : Bool := l1 == l2
theorem eqL_len {l1 l2 : List Int} (h : l1.length ≠ l2.length) : eqL l1 l2 = false := by
  simp only [eqL, beq_eq_false_iff_ne, ne_eq]
  exact fun e => h (by rw [e])
theorem eqL_at {l1 l2 : List Int} {k : Nat} (h1 : k < l1.length) (h2 : k < l2.length) (h : l1[k] ≠ l2[k]) : eqL l1 l2 = false := by
  simp only [eqL, beq_eq_false_iff_ne, ne_eq]
  rintro rfl
  exact h rfl
theorem eqL_all {l1 l2 : List Int} (hl : l1.length = l2.length) (h : l1.take l1.length = l2.take l1.length) : eqL l1 l2 = true := by
  rw [List.take_length, hl, List.take_length] at h
  simp [eqL, h]
theorem take_same {l1 l2 : List Int} {k : Nat} (h : l1.take k = l2.take k) (h1 : k < l1.length) (h2 : k < l2.length) (he : l1[k] = l2[k]) : l1.take (k + 1) = l2.take (k + 1) := by
  rw [List.take_succ_eq_append_getElem h1, List.take_succ_eq_append_getElem h2, h, he]

theorem big_fits (A : Option Addr) (len cap : Nat) (w : World) (h : (len : Int) ≤ 1048576) : Calls Tryz.prog 4 #[.slice A len cap] w fun e w' => e = .returned (.bool false) ∧ Below w.heap.size w w' := by
  go_enter Tryz.func4, Tryz.ntmps4
  go_wp2
  go_ret
  exact ⟨congrArg (fun b => Ending.returned (.bool b)) (decide_eq_false (by omega)), Below.refl _ _⟩
theorem big_over (A : Option Addr) (len cap : Nat) (w : World) (h : ¬ (len : Int) ≤ 1048576) : Calls Tryz.prog 4 #[.slice A len cap] w fun e w' => e = .returned (.bool true) ∧ Below w.heap.size w w' := by
  have h1 : (1048576 : Int) < (len : Int) := by omega
  go_enter Tryz.func4, Tryz.ntmps4
  go_wp2
  go_ret
  exact ⟨rfl, Below.refl _ _⟩
/-- The first part of a code. -/
theorem CodeArg.less {w : World} {A : Option Addr} {len n : Nat} (h : CodeArg w A len) (hn : n ≤ len) : CodeArg w A n := fun h0 => by
  obtain ⟨b, off, e, hb, hc⟩ := h (by omega)
  exact ⟨b, off, e, hb, fun j hj => hc j (by omega)⟩
theorem sameInts_any (v1 v2 : Value) (l1 l2 : List Int) (w : World) (h1 : Ints w v1 l1) (h2 : Ints w v2 l2) (hn1 : l1.length ≤ 134217728) :
    Calls Tryz.prog 29 #[v1, v2] w (RetV w (.bool (eqL l1 l2))) := by
  obtain ⟨b1, off1, cap1, rfl, hc1, hb1, hcell1, _⟩ := h1
  obtain ⟨b2, off2, cap2, rfl, hc2, hb2, hcell2, _⟩ := h2
  have H1 := Lib.hid hcell1
  have H2 := Lib.hid hcell2
  clear hcell1 hcell2
  by_cases hl : l1.length = l2.length
  case neg =>
    rw [eqL_len hl]
    have hd : ((l1.length : Int) != (l2.length : Int)) = true := by simp; omega
    go_enter Tryz.func29, Tryz.ntmps29
    go_wp2
    go_ret
    exact ⟨rfl, Below.refl _ _⟩
  have hlk : Kept _ := ⟨hl⟩
  have hl2 : l1.length ≤ l2.length := by omega
  rw [← hl]
  clear hl
  go_enter Tryz.func29, Tryz.ntmps29
  go_wp2
  go_loopw [5] (fun i wr => ∃ k : Nat, k ≤ l1.length ∧ i = .int .i64 k ∧ Kept (l1.take k = l2.take k) ∧ ∃ n, wr = w.drewN n) (fun i _ => l1.length - (intOf i).toNat)
  case atStart => exact ⟨0, by omega, rfl, ⟨by simp⟩, 0, rfl⟩
  case round =>
    obtain ⟨k, hk, rfl, hkk, n, rfl⟩ := hrel
    by_cases hlt : k < l1.length
    · have hlt2 : k < l2.length := by omega
      have hkl : (k : Int) < (l1.length : Int) := by omega
      have e1 : w.cell? ⟨b1, off1 + k, none⟩ = some (.int .i64 l1[k]) := H1.out k hlt
      have e2 : w.cell? ⟨b2, off2 + k, none⟩ = some (.int .i64 l2[k]) := H2.out k hlt2
      by_cases he : l1[k] = l2[k]
      · have hk2 : Kept _ := ⟨take_same hkk.out hlt hlt2 he⟩
        have hd : (l1[k] != l2[k]) = false := by simp [he]
        clear he hkk
        go_wp2
        go_quiet (fail)
        go_wp2
        go_roundw
        case rel => exact ⟨k + 1, by omega, by go_num, hk2, n + nq, rfl⟩
        case measure => simp [intOf]; omega
      · rw [eqL_at hlt hlt2 he]
        have hd : (l1[k] != l2[k]) = true := by simp [he]
        clear he hkk
        go_wp2
        go_quiet (fail)
        go_wp2
        go_ret
        exact ⟨rfl, below_drewN _ (below_drewN _ (Below.refl _ _))⟩
    · obtain rfl : k = l1.length := by omega
      have hall : eqL l1 l2 = true := eqL_all hlk.out hkk.out
      go_wp2
      go_ret
      exact ⟨by rw [hall]; rfl, below_drewN _ (Below.refl _ _)⟩
end Go.Proofs.YtpebiacdkfpnpaaGreat
