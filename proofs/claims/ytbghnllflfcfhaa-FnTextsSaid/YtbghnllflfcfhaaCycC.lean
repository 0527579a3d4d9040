/- Contracts of CyclicCore. Conditions: words of at most 2^26 letters. -/
import Derived.Test.YtbghnllflfcfhaaCycB
namespace Go.Proofs.Ytbghnllflfcfhaa
open Go.RowKit

/-- Whether the letters at k from both ends cancel. -/
def strip (c : List Int) (k : Nat) : Bool := decide (2 * k + 2 ≤ c.length) && inv (c.getD k 0) (c.getD (c.length - 1 - k) 0)
def coreGo (c : List Int) : Nat → Nat → Nat
  | 0, k => k
  | f + 1, k => match strip c k with
    | true => coreGo c f (k + 1)
    | false => k
/-- How many letters go at each end. -/
def coreN (c : List Int) : Nat := coreGo c c.length 0
def coreP (c : List Int) : List Int := c.take (coreN c)
def coreX (c : List Int) : List Int := (c.take (c.length - coreN c)).drop (coreN c)
theorem coreGo_yes {c : List Int} {f k : Nat} (h : strip c k = true) : coreGo c (f + 1) k = coreGo c f (k + 1) := by simp [coreGo, h]
theorem coreGo_no {c : List Int} {f k : Nat} (h : strip c k = false) : coreGo c f k = k := by
  cases f with
  | zero => rfl
  | succ f => simp [coreGo, h]
theorem coreGo_le (c : List Int) : ∀ f k, 2 * k ≤ c.length → 2 * coreGo c f k ≤ c.length := by
  intro f
  induction f with
  | zero => intro k h; exact h
  | succ f ih =>
    intro k h
    unfold coreGo
    cases hs : strip c k with
    | true =>
      simp only [strip, Bool.and_eq_true, decide_eq_true_eq] at hs
      exact ih (k + 1) (by omega)
    | false => exact h
theorem coreN_le (c : List Int) : 2 * coreN c ≤ c.length := coreGo_le c _ 0 (by omega)
theorem coreX_length (c : List Int) : (coreX c).length = c.length - 2 * coreN c := by
  have := coreN_le c
  simp only [coreX, List.length_drop, List.length_take]; omega
theorem coreP_length (c : List Int) : (coreP c).length = coreN c := by
  have := coreN_le c
  simp only [coreP, List.length_take]; omega
/-- Two slices of ints of the call's own, apart from one another, are handed back. -/
def RetII (w : World) (l1 l2 : List Int) (e : Ending) (w' : World) : Prop := ∃ v1 v2, e = .returned (.tuple #[v1, v2]) ∧ OwnI w' w.heap.size v1 l1 ∧ OwnI w' w.heap.size v2 l2 ∧ Kept (v1.ownBlock ≠ v2.ownBlock) ∧ Below w.heap.size w w'
set_option maxRecDepth 20000 in
set_option maxHeartbeats 1600000 in
theorem cyclicCore_any (v : Value) (l : List Int) (w : World) (h : Ints w v l) (hn : l.length ≤ 67108864) :
    Calls Try.prog 56 #[v] w (RetII w (coreX (red l)) (coreP (red l))) := by
  have hcn := red_length l
  obtain ⟨c, hc⟩ : ∃ c, c = red l := ⟨_, rfl⟩
  have hcr := reduceLetters_any _ _ _ h (by omega)
  rw [← hc] at hcr hcn ⊢
  have HR := Lib.hid hcr
  clear hcr hc
  go_enter Try.func56, Try.ntmps56
  go_wp2_with fail
  refine (HR.out).mono ?_
  rintro e w1 ⟨v1, rfl, o1, hB⟩
  obtain ⟨g, cap, rfl, hown, hcI⟩ := o1
  have hpar := ownsRow_parts hown
  have hIc : Ints w1 (.slice (some ⟨g, 0, none⟩) c.length cap) c := OwnI.ints (B := w.heap.size) ⟨g, cap, rfl, hown, hcI⟩
  have hcap : c.length ≤ cap := hpar.2.2.1
  have hgb : g < w1.heap.size := hpar.2.1
  have hcell : ∀ i (hi : i < c.length), w1.cell? ⟨g, i, none⟩ = some (.int .i64 c[i]) := fun i hi => by
    rw [hown.cellAt i (by omega), intsV, List.getElem?_map, List.getElem?_eq_getElem hi]; rfl
  have H := Lib.hid hcell
  clear hcell hpar
  go_wp2
  go_loopw [5, 6] (fun fr to wr => ∃ (k m n : Nat), wr = w1.drewN n ∧ fr = .int .i64 k ∧ to = .int .i64 m ∧ Kept (m + k = c.length) ∧ k ≤ m ∧ m ≤ c.length ∧ Kept (coreN c = coreGo c (c.length - k) k))
    (fun _ to _ => (intOf to).toNat)
  case atStart => exact ⟨0, c.length, 0, rfl, rfl, rfl, ⟨by omega⟩, by omega, by omega, ⟨rfl⟩⟩
  case round =>
    obtain ⟨k, m, n, rfl, rfl, rfl, hmk, hkm, hml, hgo⟩ := hrel
    by_cases h2 : k + 2 ≤ m
    · obtain ⟨m, rfl⟩ : ∃ m', m = m' + 1 := ⟨m - 1, by omega⟩
      have hd : decide ((2 : Int) ≤ (m : Int) + 1 - k) = true := decide_eq_true (by omega)
      have e1 : w1.cell? ⟨g, k, none⟩ = some (.int .i64 c[k]) := H.out k (by omega)
      have e2 : w1.cell? ⟨g, m, none⟩ = some (.int .i64 c[m]) := H.out m (by omega)
      have hs : strip c k = inv c[k] c[m] := by
        have h3 : decide (2 * k + 2 ≤ c.length) = true := decide_eq_true (by have := hmk.out; omega)
        have h4 : c.length - 1 - k = m := by have := hmk.out; omega
        simp [strip, h3, h4, List.getD_eq_getElem?_getD, List.getElem?_eq_getElem (show k < c.length by omega), List.getElem?_eq_getElem (show m < c.length by omega)]
      have hir : I64 c[k] := hcI _ (List.getElem_mem (by omega))
      cases hi : inv c[k] c[m] with
      | true =>
        rw [hi] at hs
        have hk2 : Kept (coreN c = coreGo c (c.length - (k + 1)) (k + 1)) := ⟨by
          rw [hgo.out, show c.length - k = (c.length - (k + 1)) + 1 by omega, coreGo_yes hs]⟩
        have hca := areInverse_any c[k] c[m] hir
        rw [hi] at hca
        have HA := Lib.hid hca
        clear hca hi hs hgo
        go_wp2
        go_quiet ((go_at_call 76; exact quiet2 HA.out))
        go_wp2
        go_roundw
        case rel => exact ⟨k + 1, m, n + nq, rfl, by go_num, by go_num, ⟨by have := hmk.out; omega⟩, by omega, by omega, hk2⟩
        case measure => simp [intOf]
      | false =>
        rw [hi] at hs
        have hca := areInverse_any c[k] c[m] hir
        rw [hi] at hca
        have HA := Lib.hid hca
        clear hca hi
        have hk2 : Kept (coreN c = k) := ⟨by rw [hgo.out, coreGo_no hs]⟩
        have hX : Kept (coreX c = (c.take (m + 1)).drop k ∧ coreP c = c.take k) := ⟨by
          have e : c.length - k = m + 1 := by have := hmk.out; omega
          simp only [coreX, coreP, hk2.out, e, and_self]⟩
        have hc1 := hIc.cut k (m + 1) (by omega) (by omega) (cap - k) (by omega)
        have hc2 := hIc.cut 0 k (by omega) (by omega) cap (by omega)
        clear hs hgo
        have hck : ¬ cap = k := by omega
        have hkc : k ≤ cap := by omega
        have hm0 : (0 : Int) ≤ (m : Int) + 1 := by omega
        have hm1 : (m : Int) + 1 ≤ (cap : Int) := by omega
        simp only [Nat.add_zero, Nat.sub_zero, List.drop_zero, Nat.zero_add] at hc1 hc2
        go_wp2
        go_quiet ((go_at_call 76; exact quiet2 HA.out))
        go_wp2
        have hq : Below w1.heap.size w1 (w1.drewN (n + nq)).drew := (below_drewN _ (Below.refl _ _)).drew
        go_region_law (first
          | (go_simp; go_at_call 89; refine (copyInts_any _ _ _ (hc1.keep hq) (by simp only [List.length_drop, List.length_take]; omega)).mono ?_; rintro e w2 ⟨v3, rfl, o3, hb⟩; have hB2 := hq.trans (hb.mono hq.size); clear hb)
          | (go_simp; go_at_call 89; refine (copyInts_any _ _ _ (hc2.keep hB2) (by simp only [List.length_take]; omega)).mono ?_; rintro e w3 ⟨v4, rfl, o4, hb⟩; have hne := own_ne o3 o4; replace o3 := o3.keep hb; have hB3 := hB2.trans (hb.mono hB2.size)))
        all_goals
          go_wp2
          go_ret2
          rw [hX.out.1, hX.out.2]
          exact ⟨v3, v4, rfl, o3.base hB.size, o4.base (Nat.le_trans hB.size hB2.size), ⟨hne.symm⟩, hB.trans (hB3.mono hB.size)⟩
    · have hd : decide ((2 : Int) ≤ (m : Int) - k) = false := decide_eq_false (by omega)
      have hs : strip c k = false := by
        have : decide (2 * k + 2 ≤ c.length) = false := decide_eq_false (by have := hmk.out; omega)
        simp only [strip, this, Bool.false_and]
      have hk2 : Kept (coreN c = k) := ⟨by rw [hgo.out, coreGo_no hs]⟩
      have hX : Kept (coreX c = (c.take (m)).drop k ∧ coreP c = c.take k) := ⟨by
        have e : c.length - k = m := by have := hmk.out; omega
        simp only [coreX, coreP, hk2.out, e, and_self]⟩
      have hc1 := hIc.cut k (m) (by omega) (by omega) (cap - k) (by omega)
      have hc2 := hIc.cut 0 k (by omega) (by omega) cap (by omega)
      clear hs hgo
      by_cases hck : cap = k
      · obtain rfl : k = 0 := by have := hmk.out; omega
        obtain rfl : m = 0 := by have := hmk.out; omega
        subst hck
        have hc1' : Ints w1 (.slice (some ⟨g, 0, none⟩) 0 0) ((c.take 0).drop 0) := hc1
        have hc2' : Ints w1 (.slice (some ⟨g, 0, none⟩) 0 0) (c.take 0) := hc2
        clear hd hc1 hc2
        go_wp2
        go_quiet (fail)
        go_wp2
        have hq : Below w1.heap.size w1 (w1.drewN (n + nq)).drew := (below_drewN _ (Below.refl _ _)).drew
        go_region_law (first
          | (go_simp; go_at_call 89; refine (copyInts_any _ _ _ (hc1'.keep hq) (by simp)).mono ?_; rintro e w2 ⟨v3, rfl, o3, hb⟩; have hB2 := hq.trans (hb.mono hq.size); clear hb)
          | (go_simp; go_at_call 89; refine (copyInts_any _ _ _ (hc2'.keep hB2) (by simp)).mono ?_; rintro e w3 ⟨v4, rfl, o4, hb⟩; have hne := own_ne o3 o4; replace o3 := o3.keep hb; have hB3 := hB2.trans (hb.mono hB2.size)))
        all_goals
          go_wp2
          go_ret2
          rw [hX.out.1, hX.out.2]
          exact ⟨v3, v4, rfl, o3.base hB.size, o4.base (Nat.le_trans hB.size hB2.size), ⟨hne.symm⟩, hB.trans (hB3.mono hB.size)⟩
      have hkc : k ≤ cap := by omega
      have hmc : m ≤ cap := by omega
      simp only [Nat.add_zero, Nat.sub_zero, List.drop_zero, Nat.zero_add] at hc1 hc2
      go_wp2
      go_quiet (fail)
      go_wp2
      have hq : Below w1.heap.size w1 (w1.drewN (n + nq)).drew := (below_drewN _ (Below.refl _ _)).drew
      go_region_law (first
        | (go_simp; go_at_call 89; refine (copyInts_any _ _ _ (hc1.keep hq) (by simp only [List.length_drop, List.length_take]; omega)).mono ?_; rintro e w2 ⟨v3, rfl, o3, hb⟩; have hB2 := hq.trans (hb.mono hq.size); clear hb)
        | (go_simp; go_at_call 89; refine (copyInts_any _ _ _ (hc2.keep hB2) (by simp only [List.length_take]; omega)).mono ?_; rintro e w3 ⟨v4, rfl, o4, hb⟩; have hne := own_ne o3 o4; replace o3 := o3.keep hb; have hB3 := hB2.trans (hb.mono hB2.size)))
      all_goals
        go_wp2
        go_ret2
        rw [hX.out.1, hX.out.2]
        exact ⟨v3, v4, rfl, o3.base hB.size, o4.base (Nat.le_trans hB.size hB2.size), ⟨hne.symm⟩, hB.trans (hB3.mono hB.size)⟩
end Go.Proofs.Ytbghnllflfcfhaa
