/- Contracts of FormatInt. Conditions: the number is an int of 64 bits. -/
import Derived.Test.YtpebiacdkfpnpaaGreatSmall
import Derived.BigRegion
namespace Go.Proofs.YtpebiacdkfpnpaaGreat
open Go.RowKit

def dig (k : Nat) : List UInt8 := if k = 0 then [] else dig (k / 10) ++ [UInt8.ofNat (48 + k % 10)]
  termination_by k
  decreasing_by omega
theorem dig_zero : dig 0 = [] := by rw [dig]; rfl
theorem dig_pos {k : Nat} (h : 0 < k) : dig k = dig (k / 10) ++ [UInt8.ofNat (48 + k % 10)] := by rw [dig, if_neg (by omega)]
/-- The decimal text. -/
def fmtI (n : Int) : List UInt8 := if n = 0 then [48] else if n < 0 then 45 :: dig n.natAbs else dig n.natAbs
theorem dig_step {k m n : Nat} (h : k * 2 ^ m ≤ n) (hk : 1 ≤ k) (hn : n ≤ 9223372036854775808) : (k / 10) * 2 ^ (m + 1) ≤ n ∧ m + 1 ≤ 64 := by
  have h2 : 2 ^ m ≤ n := Nat.le_trans (Nat.le_mul_of_pos_left _ (by omega)) h
  have h3 : 2 ^ m < 2 ^ 64 := by omega
  have := (Nat.pow_lt_pow_iff_right (a := 2) (by decide)).1 h3
  refine ⟨?_, by omega⟩
  refine Nat.le_trans ?_ h
  rw [Nat.pow_succ, ← Nat.mul_assoc, Nat.mul_right_comm]
  exact Nat.mul_le_mul_right _ (by omega)

/-! ### The reference -/
set_option maxHeartbeats 400000 in
set_option maxRecDepth 20000 in
theorem formatIntS_pos (n : Nat) (h0 : 1 ≤ n) (hn : n ≤ 9223372036854775807) (w : World) : Calls Tryz.prog 52 #[.int .i64 n] w fun e w' => e = .returned (.string ⟨(dig n).toArray⟩) ∧ Below w.heap.size w w' := by
  have hd1 : ((n : Int) == 0) = false := by simp; omega
  have hd2 : decide ((n : Int) < 0) = false := decide_eq_false (by omega)
  go_enter Tryz.func52, Tryz.ntmps52
  go_wp2
  go_loopw [0, 3, 5] (fun x out _ wr => ∃ (k : Nat) (l : List UInt8), k ≤ 9223372036854775807 ∧ l.length ≤ 64 ∧ Kept (k * 2 ^ l.length ≤ n) ∧ x = .int .i64 k ∧ Kept (dig k ++ l = dig n) ∧ out = .string ⟨l.toArray⟩ ∧ Below w.heap.size w wr)
    (fun x _ _ _ => (intOf x).toNat)
  case atStart => exact ⟨n, [], hn, by simp, ⟨by simp⟩, rfl, ⟨by simp⟩, rfl, Below.refl _ _⟩
  case round =>
    obtain ⟨k, l, hk, hl, hkl, rfl, hkd, rfl, hbel⟩ := hrel
    by_cases hz : k = 0
    · have hdz : ((k : Int) != 0) = false := by simp; omega
      go_wp2
      go_ret
      refine ⟨ret_str ?_, hbel⟩
      have := hkd.out
      rw [hz, dig_zero] at this
      simpa using this
    · have hdz : ((k : Int) != 0) = true := by simp; omega
      have hone := run_str_one (P := Tryz.prog) (src := 22) (dst := 9) Tryz.underlying22 Tryz.underlying5 Tryz.underlying9 (48 + (k : Int) % 10) (by omega) (by omega) wr
      clear hz
      go_wp2
      go_roundw
      case rel =>
        have hst := dig_step hkl.out (by have := hdz; simp at this; omega) (by omega)
        refine ⟨k / 10, UInt8.ofNat (48 + k % 10) :: l, by omega, by simpa using hst.2, ⟨by simpa using hst.1⟩, by go_num, ⟨?_⟩, ?_, hbel.alloc hbel.size _⟩
        · have := hkd.out
          rw [dig_pos (by have := hdz; simp at this; omega)] at this
          simpa using this
        · rw [UInt8.ofNat_add]
          exact str_cons _ _
      case measure =>
        have : k ≠ 0 := by have := hdz; simp at this; omega
        simp [intOf]; omega

theorem neg_tmod10 (k : Nat) : (-(k : Int)).tmod 10 = -((k : Int) % 10) := by
  rw [Int.neg_tmod, Int.tmod_eq_emod_of_nonneg (by omega)]
theorem neg_tdiv10 (k : Nat) : (-(k : Int)).tdiv 10 = -((k : Int) / 10) := by
  rw [Int.neg_tdiv, Int.tdiv_eq_ediv_of_nonneg (by omega)]
set_option maxHeartbeats 800000 in
theorem formatIntS_neg (n : Nat) (h0 : 1 ≤ n) (hn : n ≤ 9223372036854775808) (w : World) : Calls Tryz.prog 52 #[.int .i64 (-(n : Int))] w fun e w' => e = .returned (.string ⟨(45 :: dig n).toArray⟩) ∧ Below w.heap.size w w' := by
  have hd1 : ((-(n : Int)) == 0) = false := by simp; omega
  have hd2 : decide ((-(n : Int)) < 0) = true := decide_eq_true (by omega)
  go_enter Tryz.func52, Tryz.ntmps52
  go_wp2
  clear hd1 hd2
  go_loopw [0, 3, 5] (fun x out _ wr => ∃ (k : Nat) (l : List UInt8), k ≤ 9223372036854775808 ∧ l.length ≤ 64 ∧ Kept (k * 2 ^ l.length ≤ n) ∧ x = .int .i64 (-(k : Int)) ∧ Kept (dig k ++ l = dig n) ∧ out = .string ⟨l.toArray⟩ ∧ Below w.heap.size w wr)
    (fun x _ _ _ => (-(intOf x)).toNat)
  case atStart => exact ⟨n, [], hn, by simp, ⟨by simp⟩, rfl, ⟨by simp⟩, rfl, Below.refl _ _⟩
  case round =>
    obtain ⟨k, l, hk, hl, hkl, rfl, hkd, rfl, hbel⟩ := hrel
    by_cases hz : k = 0
    · have hdz : (-(k : Int) != 0) = false := by simp; omega
      have hcat := run_add_lists (P := Tryz.prog) [45] l (by simp; omega) wr
      go_wp2
      go_ret
      refine ⟨?_, hbel⟩
      have := hkd.out
      rw [hz, dig_zero] at this
      rw [← this]
      exact congrArg Ending.returned (str_cons _ _)
    · have hdz : (-(k : Int) != 0) = true := by simp; omega
      have htm := neg_tmod10 k
      have htd := neg_tdiv10 k
      have hk1 : 1 ≤ k := by omega
      clear hz
      by_cases hm : k % 10 = 0
      · have hm' : (k : Int) % 10 = 0 := by omega
        have hone := run_str_one (P := Tryz.prog) (src := 22) (dst := 9) Tryz.underlying22 Tryz.underlying5 Tryz.underlying9 48 (by omega) (by omega) wr
        have hmk : Kept _ := ⟨hm⟩
        clear hm
        go_wp2
        go_roundw
        case rel =>
          have hst := dig_step hkl.out hk1 hn
          refine ⟨k / 10, UInt8.ofNat (48 + k % 10) :: l, by omega, by simpa using hst.2, ⟨by simpa using hst.1⟩, by go_num, ⟨?_⟩, ?_, hbel.alloc hbel.size _⟩
          · have := hkd.out
            rw [dig_pos hk1] at this
            simpa using this
          · rw [hmk.out]
            exact str_cons _ _
        case measure => simp [intOf]; omega
      · have hneg : (0 : Int) < (k : Int) % 10 := by omega
        have hone := run_str_one (P := Tryz.prog) (src := 22) (dst := 9) Tryz.underlying22 Tryz.underlying5 Tryz.underlying9 (48 + (k : Int) % 10) (by omega) (by omega) wr
        clear hm
        go_wp2
        go_roundw
        case rel =>
          have hst := dig_step hkl.out hk1 hn
          refine ⟨k / 10, UInt8.ofNat (48 + k % 10) :: l, by omega, by simpa using hst.2, ⟨by simpa using hst.1⟩, by go_num, ⟨?_⟩, ?_, hbel.alloc hbel.size _⟩
          · have := hkd.out
            rw [dig_pos hk1] at this
            simpa using this
          · rw [UInt8.ofNat_add]
            exact str_cons _ _
        case measure => simp [intOf]; omega

theorem bytesV_set' (l : List UInt8) (i : Nat) (u : UInt8) : (bytesV l).set i (.int .u8 u.toNat) = bytesV (l.set i u) := by
  unfold bytesV
  rw [List.map_set]
/-! ### A row turned round in place -/
def Rev (i : Nat) (L l : List UInt8) : Prop := l.length = L.length ∧ ∀ t, t < L.length → l[t]? = if t < i ∨ L.length ≤ t + i then L[L.length - 1 - t]? else L[t]?
theorem rev_start (L : List UInt8) : Rev 0 L L := ⟨rfl, fun t ht => by simp; omega⟩
theorem rev_step {i j : Nat} {L l : List UInt8} (h : Rev i L l) (hij : i < j) (hn : i + j + 1 = L.length) : Rev (i + 1) L ((l.set i (l.getD j 0)).set j (l.getD i 0)) := by
  obtain ⟨hl, h⟩ := h
  refine ⟨by simpa using hl, fun t ht => ?_⟩
  have hi := h i (by omega)
  have hj := h j (by omega)
  rw [if_neg (by omega)] at hi hj
  have gi : l.getD i 0 = L[i]'(by omega) := by
    rw [List.getD_eq_getElem?_getD, hi, List.getElem?_eq_getElem (by omega)]; rfl
  have gj : l.getD j 0 = L[j]'(by omega) := by
    rw [List.getD_eq_getElem?_getD, hj, List.getElem?_eq_getElem (by omega)]; rfl
  rw [gi, gj]
  by_cases htj : t = j
  · subst htj
    rw [List.getElem?_set_self (by simp; omega), if_pos (by omega), List.getElem?_eq_getElem (by omega)]
    congr 2
    omega
  · rw [List.getElem?_set_ne (by omega)]
    by_cases hti : t = i
    · subst hti
      rw [List.getElem?_set_self (by omega), if_pos (by omega), List.getElem?_eq_getElem (by omega)]
      congr 2
      omega
    · rw [List.getElem?_set_ne (by omega), h t ht]
      by_cases hc : t < i ∨ L.length ≤ t + i
      · rw [if_pos hc, if_pos (by omega)]
      · rw [if_neg hc, if_neg (by omega)]
theorem rev_end {i : Nat} {L l : List UInt8} (h : Rev i L l) (hn : L.length ≤ 2 * i + 1) : l = L.reverse := by
  obtain ⟨hl, h⟩ := h
  apply List.ext_getElem? 
  intro t
  by_cases ht : t < L.length
  · rw [h t ht, List.getElem?_reverse ht]
    split
    · rfl
    · have : L.length - 1 - t = t := by omega
      rw [this]
  · rw [List.getElem?_eq_none (by omega), List.getElem?_eq_none (by simp; omega)]

set_option maxHeartbeats 1600000 in
theorem formatInt_pos (n : Nat) (h0 : 1 ≤ n) (hn : n ≤ 9223372036854775807) (w : World) : Calls Tryz.prog 47 #[.int .i64 n] w fun e w' => e = .returned (.string ⟨(dig n).toArray⟩) ∧ Below w.heap.size w w' := by
  have hd1 : ((n : Int) == 0) = false := by simp; omega
  have hd2 : decide ((n : Int) < 0) = false := decide_eq_false (by omega)
  go_enter Tryz.func47, Tryz.ntmps47
  go_wp2
  go_loopw [3, 4, 5] (fun out x _ wr => ∃ (k g cap : Nat) (l : List UInt8), k ≤ 9223372036854775807 ∧ l.length ≤ 64 ∧ Kept (k * 2 ^ l.length ≤ n) ∧ x = .int .i64 k ∧ out = .slice (some ⟨g, 0, none⟩) l.length cap ∧ wr.ownsRow w.heap.size 5 1 (.slice (some ⟨g, 0, none⟩) l.length cap) l.length (bytesV l) ∧ Kept (dig k ++ l.reverse = dig n) ∧ Below w.heap.size w wr)
    (fun _ x _ _ => (intOf x).toNat)
  case atStart => exact ⟨n, _, 0, [], hn, by simp, ⟨by simp⟩, rfl, rfl, World.ownsRow_made _ _ _ (Nat.le_refl _) (by decide) rfl, ⟨by simp⟩, (Below.refl _ _).alloc (Nat.le_refl _) _⟩
  case round =>
    obtain ⟨k, g, cap, l, hk, hl, hkl, rfl, rfl, hown, hkd, hbel⟩ := hrel
    have hg : w.heap.size ≤ g := (ownsRow_parts hown).1
    by_cases hz : k = 0
    · have hdz : ((k : Int) != 0) = false := by simp; omega
      have hzk : Kept _ := ⟨hz⟩
      clear hz hkl
      have hlen : 1 ≤ l.length := by
        have e := congrArg List.length hkd.out
        rw [hzk.out, dig_zero, dig_pos h0] at e
        simp at e
        omega
      go_wp2
      obtain ⟨wo, rfl⟩ : ∃ wo : World, wo = wr := ⟨_, rfl⟩
      go_loopw [6, 7] (fun i j wr => ∃ (a b : Nat) (r : List UInt8), a + b + 1 = l.length ∧ i = .int .i64 a ∧ j = .int .i64 b ∧ Kept (Rev a l r) ∧ wr.ownsRow w.heap.size 5 1 (.slice (some ⟨g, 0, none⟩) l.length cap) l.length (bytesV r) ∧ Below w.heap.size w wr)
        (fun _ j _ => (intOf j).toNat)
      case atStart => exact ⟨0, l.length - 1, l, by omega, rfl, by go_num, ⟨rev_start l⟩, hown, hbel⟩
      case round =>
        obtain ⟨a, b, r, hab, rfl, rfl, hrev, hown2, hbel2⟩ := hrel
        by_cases hlt : a < b
        · have hd : decide ((a : Int) < b) = true := decide_eq_true (by omega)
          have hrl : r.length = l.length := hrev.out.1
          have hca : wr.cell? ⟨g, a, none⟩ = some (.int .u8 (r.getD a 0).toNat) := by
            rw [hown2.cellAt a (by omega), bytesV, List.getElem?_map, List.getElem?_eq_getElem (by omega)]
            simp [List.getD_eq_getElem?_getD, List.getElem?_eq_getElem (show a < r.length by omega)]
          have hcb : wr.cell? ⟨g, b, none⟩ = some (.int .u8 (r.getD b 0).toNat) := by
            rw [hown2.cellAt b (by omega), bytesV, List.getElem?_map, List.getElem?_eq_getElem (by omega)]
            simp [List.getD_eq_getElem?_getD, List.getElem?_eq_getElem (show b < r.length by omega)]
          have hfa := hown2.frozenAt a
          have hfb := hown2.frozenAt b
          go_wp2
          go_region
          go_wp2
          go_roundw
          case rel =>
            refine ⟨a + 1, b - 1, (r.set a (r.getD b 0)).set b (r.getD a 0), by omega, by go_num, by go_num, ⟨rev_step hrev.out hlt hab⟩, ?_, ((hbel2.setCell hg _).setCell hg _).drew⟩
            have o1 := (hown2.stored a (.int .u8 (r.getD b 0).toNat)).1
            have o2 := (o1.stored b (.int .u8 (r.getD a 0).toNat)).1
            rw [bytesV_set', bytesV_set'] at o2
            exact o2.drew
          case measure => simp [intOf]; omega
        · have hd : decide ((a : Int) < b) = false := decide_eq_false (by omega)
          have hr : r = l.reverse := rev_end hrev.out (by omega)
          have hfin : l.reverse = dig n := by
            have := hkd.out
            rw [hzk.out, dig_zero] at this
            simpa using this
          rw [hr, hfin] at hown2
          have hconv := run_str_of_row (P := Tryz.prog) (src := 22) (dst := 9) Tryz.underlying22 Tryz.underlying5 Tryz.underlying9 hown2
          clear hr hfin
          go_wp2
          go_ret
          exact ⟨rfl, hbel2⟩
    · have hdz : ((k : Int) != 0) = true := by simp; omega
      have hk1 : 1 ≤ k := by omega
      clear hz
      go_wp2_with (at_builtin; refine wpl_push elemB rfl (.tmp 22) (.tmp 26) rfl rfl (hown.alloc _) rfl (heap_alloc_new _ _) rfl (by omega) ?_; intro g' cap' w1 hown1 hgrow1 hat)
      have hb1 := below_push hbel hgrow1 hg (Nat.le_refl _)
      clear hgrow1 hat
      go_wp2
      go_roundw
      case rel =>
        have hst := dig_step hkl.out hk1 (by omega)
        refine ⟨k / 10, g', cap', l ++ [UInt8.ofNat (48 + k % 10)], by omega, by simpa using hst.2, ⟨by simpa using hst.1⟩, by go_num, by simp, ?_, ⟨?_⟩, hb1⟩
        · rw [bytesV_append, ← bytesV_one _ (by omega)]
          simpa using hown1
        · have := hkd.out
          rw [dig_pos hk1] at this
          simpa using this
      case measure => simp [intOf]; omega
set_option maxHeartbeats 1600000 in
theorem formatInt_neg (n : Nat) (h0 : 1 ≤ n) (hn : n ≤ 9223372036854775808) (w : World) : Calls Tryz.prog 47 #[.int .i64 (-(n : Int))] w fun e w' => e = .returned (.string ⟨(45 :: dig n).toArray⟩) ∧ Below w.heap.size w w' := by
  have hd1 : (-(n : Int) == 0) = false := by simp; omega
  have hd2 : 0 < n := h0
  go_enter Tryz.func47, Tryz.ntmps47
  go_wp2
  go_loopw [3, 4, 5] (fun out x _ wr => ∃ (k g cap : Nat) (l : List UInt8), k ≤ 9223372036854775808 ∧ l.length ≤ 64 ∧ Kept (k * 2 ^ l.length ≤ n) ∧ x = .int .i64 (-(k : Int)) ∧ out = .slice (some ⟨g, 0, none⟩) l.length cap ∧ wr.ownsRow w.heap.size 5 1 (.slice (some ⟨g, 0, none⟩) l.length cap) l.length (bytesV l) ∧ Kept (dig k ++ l.reverse = dig n) ∧ Below w.heap.size w wr)
    (fun _ x _ _ => (-(intOf x)).toNat)
  case atStart => exact ⟨n, _, 0, [], hn, by simp, ⟨by simp⟩, rfl, rfl, World.ownsRow_made _ _ _ (Nat.le_refl _) (by decide) rfl, ⟨by simp⟩, (Below.refl _ _).alloc (Nat.le_refl _) _⟩
  case round =>
    obtain ⟨k, g, cap, l, hk, hl, hkl, rfl, rfl, hown, hkd, hbel⟩ := hrel
    have hg : w.heap.size ≤ g := (ownsRow_parts hown).1
    by_cases hz : k = 0
    · have hdz : (-(k : Int) != 0) = false := by simp; omega
      have hzk : Kept _ := ⟨hz⟩
      clear hz hkl
      have hlen : 1 ≤ l.length := by
        have e := congrArg List.length hkd.out
        rw [hzk.out, dig_zero, dig_pos h0] at e
        simp at e
        omega
      go_wp2_with (at_builtin; refine wpl_push elemB rfl (.tmp 30) (.tmp 31) rfl rfl (hown.alloc _) rfl (heap_alloc_new _ _) rfl (by omega) ?_; intro g' cap' w1 hown1 hgrow1 hat; have hb1 := below_push hbel hgrow1 hg (Nat.le_refl _); have hg1 := (ownsRow_parts hown1).1; clear hgrow1 hat hown; rw [show [Value.int .u8 45] = bytesV [45] from rfl, ← bytesV_append] at hown1)
      clear hbel hg
      have hg := hg1
      clear hg1
      obtain ⟨L, hL⟩ : ∃ L, L = l ++ [45] := ⟨_, rfl⟩
      have hLl : Kept (l.length + 1 = L.length) := ⟨by rw [hL]; simp⟩
      have hLk : Kept _ := ⟨hL⟩
      rw [← hL] at hown1
      clear hL
      obtain ⟨wo, rfl⟩ : ∃ wo : World, wo = wr := ⟨_, rfl⟩
      go_loopw [6, 7] (fun i j wr => ∃ (a b : Nat) (r : List UInt8), a + b + 1 = (l.length + 1) ∧ i = .int .i64 a ∧ j = .int .i64 b ∧ Kept (Rev a L r) ∧ wr.ownsRow w.heap.size 5 1 (.slice (some ⟨g', 0, none⟩) (l.length + 1) cap') (l.length + 1) (bytesV r) ∧ Below w.heap.size w wr)
        (fun _ j _ => (intOf j).toNat)
      case atStart => exact ⟨0, l.length, L, by omega, rfl, by go_num, ⟨rev_start L⟩, hown1, hb1⟩
      case round =>
        obtain ⟨a, b, r, hab, rfl, rfl, hrev, hown2, hbel2⟩ := hrel
        by_cases hlt : a < b
        · have hd : decide ((a : Int) < b) = true := decide_eq_true (by omega)
          have hrl : r.length = l.length + 1 := by rw [hrev.out.1, ← hLl.out]
          have hca : wr.cell? ⟨g', a, none⟩ = some (.int .u8 (r.getD a 0).toNat) := by
            rw [hown2.cellAt a (by omega), bytesV, List.getElem?_map, List.getElem?_eq_getElem (by omega)]
            simp [List.getD_eq_getElem?_getD, List.getElem?_eq_getElem (show a < r.length by omega)]
          have hcb : wr.cell? ⟨g', b, none⟩ = some (.int .u8 (r.getD b 0).toNat) := by
            rw [hown2.cellAt b (by omega), bytesV, List.getElem?_map, List.getElem?_eq_getElem (by omega)]
            simp [List.getD_eq_getElem?_getD, List.getElem?_eq_getElem (show b < r.length by omega)]
          have hfa := hown2.frozenAt a
          have hfb := hown2.frozenAt b
          go_wp2
          go_region
          go_wp2
          go_roundw
          case rel =>
            refine ⟨a + 1, b - 1, (r.set a (r.getD b 0)).set b (r.getD a 0), by omega, by go_num, by go_num, ⟨rev_step hrev.out hlt (by have := hLl.out; omega)⟩, ?_, ((hbel2.setCell hg _).setCell hg _).drew⟩
            have o1 := (hown2.stored a (.int .u8 (r.getD b 0).toNat)).1
            have o2 := (o1.stored b (.int .u8 (r.getD a 0).toNat)).1
            rw [bytesV_set', bytesV_set'] at o2
            exact o2.drew
          case measure => simp [intOf]; omega
        · have hd : decide ((a : Int) < b) = false := decide_eq_false (by omega)
          have hr : r = L.reverse := rev_end hrev.out (by have := hLl.out; omega)
          have hfin : L.reverse = 45 :: dig n := by
            have := hkd.out
            rw [hzk.out, dig_zero] at this
            rw [hLk.out]
            simpa using this
          rw [hr, hfin] at hown2
          have hconv := run_str_of_row (P := Tryz.prog) (src := 22) (dst := 9) Tryz.underlying22 Tryz.underlying5 Tryz.underlying9 hown2
          clear hr hfin
          go_wp2
          go_ret
          exact ⟨rfl, hbel2⟩
    · have hdz : (-(k : Int) != 0) = true := by simp; omega
      have htm := neg_tmod10 k
      have htd := neg_tdiv10 k
      have hk1 : 1 ≤ k := by omega
      clear hz
      by_cases hm : k % 10 = 0
      · have hm' : (k : Int) % 10 = 0 := by omega
        have hmk : Kept _ := ⟨hm⟩
        clear hm
        go_wp2_with (at_builtin; refine wpl_push elemB rfl (.tmp 22) (.tmp 26) rfl rfl (hown.alloc _) rfl (heap_alloc_new _ _) rfl (by omega) ?_; intro g' cap' w1 hown1 hgrow1 hat)
        have hb1 := below_push hbel hgrow1 hg (Nat.le_refl _)
        clear hgrow1 hat
        go_wp2
        go_roundw
        case rel =>
          have hst := dig_step hkl.out hk1 (by omega)
          refine ⟨k / 10, g', cap', l ++ [UInt8.ofNat (48 + k % 10)], by omega, by simpa using hst.2, ⟨by simpa using hst.1⟩, by go_num, by simp, ?_, ⟨?_⟩, hb1⟩
          · rw [bytesV_append, ← bytesV_one _ (by omega), hmk.out]
            simpa using hown1
          · have := hkd.out
            rw [dig_pos hk1] at this
            simpa using this
        case measure => simp [intOf]; omega
      · have hneg : (0 : Int) < (k : Int) % 10 := by omega
        clear hm
        go_wp2_with (at_builtin; refine wpl_push elemB rfl (.tmp 22) (.tmp 26) rfl rfl (hown.alloc _) rfl (heap_alloc_new _ _) rfl (by omega) ?_; intro g' cap' w1 hown1 hgrow1 hat)
        have hb1 := below_push hbel hgrow1 hg (Nat.le_refl _)
        clear hgrow1 hat
        go_wp2
        go_roundw
        case rel =>
          have hst := dig_step hkl.out hk1 (by omega)
          refine ⟨k / 10, g', cap', l ++ [UInt8.ofNat (48 + k % 10)], by omega, by simpa using hst.2, ⟨by simpa using hst.1⟩, by go_num, by simp, ?_, ⟨?_⟩, hb1⟩
          · rw [bytesV_append, ← bytesV_one _ (by omega)]
            simpa using hown1
          · have := hkd.out
            rw [dig_pos hk1] at this
            simpa using this
        case measure => simp [intOf]; omega

/-! ### Both together -/
theorem formatIntS_any (n : Int) (h1 : -9223372036854775808 ≤ n) (h2 : n ≤ 9223372036854775807) (w : World) : Calls Tryz.prog 52 #[.int .i64 n] w fun e w' => e = .returned (.string ⟨(fmtI n).toArray⟩) ∧ Below w.heap.size w w' := by
  by_cases h0 : n = 0
  · subst h0
    have e : fmtI 0 = [48] := rfl
    rw [e]
    go_enter Tryz.func52, Tryz.ntmps52
    go_wp2
    go_ret
    exact ⟨rfl, Below.refl _ _⟩
  · by_cases hn : n < 0
    · obtain ⟨k, rfl⟩ : ∃ k : Nat, n = -(k : Int) := ⟨n.natAbs, by omega⟩
      have e : fmtI (-(k : Int)) = 45 :: dig k := by unfold fmtI; rw [if_neg h0, if_pos hn, Int.natAbs_neg, Int.natAbs_natCast]
      rw [e]
      exact formatIntS_neg k (by omega) (by omega) w
    · obtain ⟨k, rfl⟩ := Int.eq_ofNat_of_zero_le (show 0 ≤ n by omega)
      have e : fmtI (k : Int) = dig k := by unfold fmtI; rw [if_neg h0, if_neg hn, Int.natAbs_natCast]
      rw [e]
      exact formatIntS_pos k (by omega) (by omega) w
theorem formatInt_any (n : Int) (h1 : -9223372036854775808 ≤ n) (h2 : n ≤ 9223372036854775807) (w : World) : Calls Tryz.prog 47 #[.int .i64 n] w fun e w' => e = .returned (.string ⟨(fmtI n).toArray⟩) ∧ Below w.heap.size w w' := by
  by_cases h0 : n = 0
  · subst h0
    have e : fmtI 0 = [48] := rfl
    rw [e]
    go_enter Tryz.func47, Tryz.ntmps47
    go_wp2
    go_ret
    exact ⟨rfl, Below.refl _ _⟩
  · by_cases hn : n < 0
    · obtain ⟨k, rfl⟩ : ∃ k : Nat, n = -(k : Int) := ⟨n.natAbs, by omega⟩
      have e : fmtI (-(k : Int)) = 45 :: dig k := by unfold fmtI; rw [if_neg h0, if_pos hn, Int.natAbs_neg, Int.natAbs_natCast]
      rw [e]
      exact formatInt_neg k (by omega) (by omega) w
    · obtain ⟨k, rfl⟩ := Int.eq_ofNat_of_zero_le (show 0 ≤ n by omega)
      have e : fmtI (k : Int) = dig k := by unfold fmtI; rw [if_neg h0, if_neg hn, Int.natAbs_natCast]
      rw [e]
      exact formatInt_pos k (by omega) (by omega) w
end Go.Proofs.YtpebiacdkfpnpaaGreat
