/- Contracts of LeastRotation. Conditions: words of at most 2^25 letters. -/
import Derived.Test.YtbghnllflfcfhaaCycA
import Derived.Test.YtbghnllflfcfhaaWordE
namespace Go.Proofs.Ytbghnllflfcfhaa
open Go.RowKit

/-- A slice of ints of the call's own and one value more are handed back, in new memory. -/
theorem RetI2.own {w w' : World} {l : List Int} {v x : Value} (ho : OwnI w' w.heap.size v l) (hb : Below w.heap.size w w') : RetI2 w l x (.returned (.tuple #[v, x])) w' := ⟨v, rfl, ho, hb⟩
/-- The place of the least one among the turns by 0 to k. -/
def lrAt (l : List Int) : Nat → Nat
  | 0 => 0
  | k + 1 => match decide (cmpW (rotL l (k + 1)) (rotL l (lrAt l k)) < 0) with
    | true => k + 1
    | false => lrAt l k
theorem lrAt_le (l : List Int) (k : Nat) : lrAt l k ≤ k := by
  induction k with
  | zero => exact Nat.le_refl _
  | succ k ih => unfold lrAt; split <;> omega
theorem rotL_zero (l : List Int) : rotL l 0 = l := by simp [rotL]
theorem own_turn {w : World} {B : Nat} {v : Value} {l : List Int} (h : OwnI w B v l) : OwnI w B v (rotL l (lrAt l 0)) := by rw [show lrAt l 0 = 0 from rfl, rotL_zero]; exact h
theorem rotK_nat {k n : Nat} (h : k < n) : rotK (k : Int) n = k := by
  unfold rotK
  rw [← Int.natCast_emod, Nat.mod_eq_of_lt h]; rfl
set_option maxHeartbeats 1600000 in
theorem leastRotation_any (v : Value) (l : List Int) (w : World) (h : Ints w v l) (hn : l.length ≤ 33554432) :
    Calls Try.prog 64 #[v] w (RetI2 w (rotL l (lrAt l (l.length - 1))) (.int .i64 (lrAt l (l.length - 1)))) := by
  obtain ⟨b1, off1, cap1, rfl, hb1, hcap1⟩ := h.form
  have hrg := h.range
  go_enter Try.func64, Try.ntmps64
  go_wp2_with fail
  refine (copyInts_any _ _ _ h (by omega)).mono ?_
  rintro e w1 ⟨v1, rfl, o1, hB⟩
  have oS := own_turn o1
  clear o1
  go_wp2
  go_loopw [4, 5, 6, 7] (fun best at_ i _ wr => ∃ (j : Nat), i = .int .i64 ((j : Int) + 1) ∧ j ≤ l.length - 1 ∧ at_ = .int .i64 (lrAt l j) ∧ OwnI wr w.heap.size best (rotL l (lrAt l j)) ∧ Below w.heap.size w wr)
    (fun _ _ i _ _ => l.length - (intOf i).toNat)
  case atStart => exact ⟨0, rfl, by omega, rfl, oS, hB⟩
  case round =>
    obtain ⟨j, rfl, hj, rfl, o1, hbel⟩ := hrel
    by_cases hlt : j + 1 < l.length
    · have hjl : (j : Int) + 1 < (l.length : Int) := by omega
      have hrot := rotateWord_any _ _ ((j : Int) + 1) wr (h.keep hbel) (by omega)
      rw [show ((j : Int) + 1) = ((j + 1 : Nat) : Int) by simp, rotK_nat hlt, show ((j + 1 : Nat) : Int) = (j : Int) + 1 by simp] at hrot
      have HR := Lib.hid hrot
      clear hrot
      go_wp2_with fail
      refine (HR.out).mono ?_
      rintro e w2 ⟨v2, rfl, o2, hb⟩
      replace o1 := o1.keep hb
      replace o2 := o2.base hbel.size
      replace hbel := hbel.trans (hb.mono hbel.size)
      clear hb
      have hcw := compareWords_any _ _ _ _ _ o2.ints o1.ints (by rw [rotL_length]; omega) (by rw [rotL_length]; omega)
      obtain ⟨y, hy⟩ : ∃ y, y = cmpW (rotL l (j + 1)) (rotL l (lrAt l j)) := ⟨_, rfl⟩
      rw [← hy] at hcw
      have HC := Lib.hid hcw
      clear hcw
      go_wp2_with fail
      refine (HC.out).mono ?_
      rintro e w3 ⟨rfl, hb⟩
      replace o1 := o1.keep hb
      replace o2 := o2.keep hb
      replace hbel := hbel.trans (hb.mono hbel.size)
      clear hb
      by_cases hy0 : y < 0
      · have hst : lrAt l (j + 1) = j + 1 := by
          have hd : decide (cmpW (rotL l (j + 1)) (rotL l (lrAt l j)) < 0) = true := decide_eq_true (by rw [← hy]; exact hy0)
          simp only [lrAt, hd]
        have hsk := Lib.hid hst
        clear hst hy
        go_wp2
        go_roundw
        case rel => exact ⟨j + 1, by simp, by omega, by rw [hsk.out]; simp, by rw [hsk.out]; exact o2, hbel⟩
        case measure => simp [intOf]; omega
      · have hst : lrAt l (j + 1) = lrAt l j := by
          have hd : decide (cmpW (rotL l (j + 1)) (rotL l (lrAt l j)) < 0) = false := decide_eq_false (by rw [← hy]; exact hy0)
          simp only [lrAt, hd]
        have hsk := Lib.hid hst
        have hy1 : 0 ≤ y := by omega
        clear hst hy hy0
        go_wp2
        go_roundw
        case rel => exact ⟨j + 1, by simp, by omega, by rw [hsk.out], by rw [hsk.out]; exact o1, hbel⟩
        case measure => simp [intOf]; omega
    · have hje : j = l.length - 1 := by omega
      have hjk := Lib.hid hje
      have hjl : (l.length : Int) ≤ (j : Int) + 1 := by omega
      clear hje
      go_wp2
      go_ret2
      rw [← hjk.out]
      exact RetI2.own o1 hbel
set_option maxHeartbeats 1600000 in
theorem leastRotationS_any (v : Value) (l : List Int) (w : World) (h : Ints w v l) (hn : l.length ≤ 33554432) :
    Calls Try.prog 65 #[v] w (RetI2 w (rotL l (lrAt l (l.length - 1))) (.int .i64 (lrAt l (l.length - 1)))) := by
  obtain ⟨b1, off1, cap1, rfl, hb1, hcap1⟩ := h.form
  have hrg := h.range
  go_enter Try.func65, Try.ntmps65
  go_wp2_with (at_builtin; refine wpl_app elemI rfl (.tmp 8) (.tmp 9) rfl rfl (World.ownsRow_made _ _ _ (Nat.le_refl _) (by decide) rfl) rfl (by simp [intsV]) (h.keep ((Below.refl _ _).alloc (Nat.le_refl _) _)).news (intsV_one _) (by omega) ?_; intro g1 c1 w1 hown1 hgrow1 hat1; simp only [Nat.zero_add, List.nil_append] at hown1; have hB := below_push (Below.refl _ _) hgrow1 (Nat.le_refl _) (Nat.le_refl _))
  have o1 : OwnI w1 w.heap.size (.slice (some ⟨g1, 0, none⟩) l.length c1) l := ⟨g1, c1, rfl, hown1, hrg⟩
  have oS := own_turn o1
  clear o1
  go_wp2
  go_loopw [4, 5, 6, 7] (fun best at_ i _ wr => ∃ (j : Nat), i = .int .i64 ((j : Int) + 1) ∧ j ≤ l.length - 1 ∧ at_ = .int .i64 (lrAt l j) ∧ OwnI wr w.heap.size best (rotL l (lrAt l j)) ∧ Below w.heap.size w wr)
    (fun _ _ i _ _ => l.length - (intOf i).toNat)
  case atStart => exact ⟨0, rfl, by omega, rfl, oS, hB⟩
  case round =>
    obtain ⟨j, rfl, hj, rfl, o1, hbel⟩ := hrel
    by_cases hlt : j + 1 < l.length
    · have hjl : (j : Int) + 1 < (l.length : Int) := by omega
      have hrot := rotateWordS_any _ _ ((j : Int) + 1) wr (h.keep hbel) ⟨by omega, by omega⟩ (by omega)
      rw [show ((j : Int) + 1) = ((j + 1 : Nat) : Int) by simp, rotK_nat hlt, show ((j + 1 : Nat) : Int) = (j : Int) + 1 by simp] at hrot
      have HR := Lib.hid hrot
      clear hrot
      go_wp2_with fail
      refine (HR.out).mono ?_
      rintro e w2 ⟨v2, rfl, o2, hb⟩
      replace o1 := o1.keep hb
      replace o2 := o2.base hbel.size
      replace hbel := hbel.trans (hb.mono hbel.size)
      clear hb
      have hcw := compareWordsS_any _ _ _ _ _ o2.ints o1.ints (by rw [rotL_length]; omega) (by rw [rotL_length]; omega)
      obtain ⟨y, hy⟩ : ∃ y, y = cmpW (rotL l (j + 1)) (rotL l (lrAt l j)) := ⟨_, rfl⟩
      rw [← hy] at hcw
      have HC := Lib.hid hcw
      clear hcw
      go_wp2_with fail
      refine (HC.out).mono ?_
      rintro e w3 ⟨rfl, hb⟩
      replace o1 := o1.keep hb
      replace o2 := o2.keep hb
      replace hbel := hbel.trans (hb.mono hbel.size)
      clear hb
      by_cases hy0 : y < 0
      · have hst : lrAt l (j + 1) = j + 1 := by
          have hd : decide (cmpW (rotL l (j + 1)) (rotL l (lrAt l j)) < 0) = true := decide_eq_true (by rw [← hy]; exact hy0)
          simp only [lrAt, hd]
        have hsk := Lib.hid hst
        clear hst hy
        go_wp2
        go_roundw
        case rel => exact ⟨j + 1, by simp, by omega, by rw [hsk.out]; simp, by rw [hsk.out]; exact o2, hbel⟩
        case measure => simp [intOf]; omega
      · have hst : lrAt l (j + 1) = lrAt l j := by
          have hd : decide (cmpW (rotL l (j + 1)) (rotL l (lrAt l j)) < 0) = false := decide_eq_false (by rw [← hy]; exact hy0)
          simp only [lrAt, hd]
        have hsk := Lib.hid hst
        have hy1 : 0 ≤ y := by omega
        clear hst hy hy0
        go_wp2
        go_roundw
        case rel => exact ⟨j + 1, by simp, by omega, by rw [hsk.out], by rw [hsk.out]; exact o1, hbel⟩
        case measure => simp [intOf]; omega
    · have hje : j = l.length - 1 := by omega
      have hjk := Lib.hid hje
      have hjl : (l.length : Int) ≤ (j : Int) + 1 := by omega
      clear hje
      go_wp2
      go_ret2
      rw [← hjk.out]
      exact RetI2.own o1 hbel
end Go.Proofs.Ytbghnllflfcfhaa
