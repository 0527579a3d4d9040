/- Contracts of AreWords. Conditions: at most 2^20 letters and words in all. -/
import Derived.Test.YtopelbcikbkdbaaListB
namespace Go.Proofs.Ytopelbcikbkdbaa
open Go.RowKit

theorem areW_all {rank : Int} {ls : List (List Int)} (h1 : 1 ≤ rank ∧ rank ≤ 3) (h2 : ls.length ≤ 6) (h3 : (ls.take ls.length).all (isWord rank) = true) : areW rank ls = decide (totL ls < 40) := by
  rw [List.take_length] at h3
  simp only [areW, h1, h2, h3, and_self, decide_true, Bool.true_and]
theorem areW_at {rank : Int} {ls : List (List Int)} {k : Nat} (h : k < ls.length) (h3 : isWord rank ls[k] = false) : areW rank ls = false := by
  have : ls.all (isWord rank) = false := by
    rw [Bool.eq_false_iff]
    intro e
    rw [List.all_eq_true] at e
    rw [e _ (List.getElem_mem h)] at h3
    cases h3
  simp only [areW, this, Bool.false_and, Bool.and_false]
theorem areW_rank {rank : Int} {ls : List (List Int)} (h : ¬ (1 ≤ rank ∧ rank ≤ 3)) : areW rank ls = false := by
  simp only [areW, decide_eq_false h, Bool.false_and]
theorem areW_len {rank : Int} {ls : List (List Int)} (h : ¬ ls.length ≤ 6) : areW rank ls = false := by
  simp only [areW, decide_eq_false h, Bool.false_and, Bool.and_false]
theorem all_snoc {p : List Int → Bool} {ls : List (List Int)} {k : Nat} (h : (ls.take k).all p = true) (hk : k < ls.length) (h2 : p ls[k] = true) : (ls.take (k + 1)).all p = true := by
  rw [List.take_succ_eq_append_getElem hk, List.all_append, h]; simp [h2]
set_option maxHeartbeats 800000 in
theorem areWords_any (rank : Int) (v : Value) (ls : List (List Int)) (w : World) (h : Rows2 w v ls) (hn : ls.length ≤ 1048576) (hlen : totL ls ≤ 1048576) :
    Calls Try.prog 23 #[.int .i64 rank, v] w (RetV w (.bool (areW rank ls))) := by
  have htl := fun W (hW : Below w.heap.size w W) => totalLength_any v ls W (h.keep hW) hn hlen
  obtain ⟨b, off, cap, rfl, hc, hb, hcell⟩ := h
  have H := Lib.hid hcell
  have HT := Lib.hid htl
  clear hcell htl
  by_cases hr : 1 ≤ rank ∧ rank ≤ 3
  case neg =>
    have hr2 : rank < 1 ∨ 3 < rank := by omega
    rw [areW_rank hr]
    clear hr
    go_enter Try.func23, Try.ntmps23
    go_wp2_with fail
    refine (within_no hr2 _).mono ?_
    rintro e w' ⟨rfl, rfl⟩
    go_wp2
    go_ret
    exact ⟨rfl, Below.refl _ _⟩
  by_cases h6 : ls.length ≤ 6
  case neg =>
    have h7 : (6 : Int) < (ls.length : Int) := by omega
    rw [areW_len h6]
    go_enter Try.func23, Try.ntmps23
    go_wp2_with fail
    refine (within_yes hr.1 hr.2 _).mono ?_
    rintro e w' ⟨rfl, rfl⟩
    clear hr
    go_wp2
    go_ret
    exact ⟨rfl, Below.refl _ _⟩
  have h7 : (ls.length : Int) ≤ 6 := by omega
  have HR := Lib.hid hr
  clear hr
  go_enter Try.func23, Try.ntmps23
  go_wp2_with fail
  refine (within_yes HR.out.1 HR.out.2 _).mono ?_
  rintro e w' ⟨rfl, rfl⟩
  go_wp2
  go_loopw [6, 17] (fun _ i wr => ∃ k : Nat, k ≤ ls.length ∧ i = .int .i64 k ∧ Kept ((ls.take k).all (isWord rank) = true) ∧ Below w.heap.size w wr) (fun _ i _ => ls.length - (intOf i).toNat)
  case atStart => exact ⟨0, by omega, rfl, ⟨rfl⟩, Below.refl _ _⟩
  case round =>
    obtain ⟨k, hk, rfl, hall, hbel⟩ := hrel
    by_cases hlt : k < ls.length
    · obtain ⟨x, d, i⟩ := H.out k hlt
      have c1 := (hbel.cell (p := ⟨b, off + k, none⟩) hb).trans d
      have hrow := totL_row hlt
      have hq := isWord_any rank x ls[k] wr (i.keep hbel) (by omega)
      obtain ⟨y, hy⟩ : ∃ y, y = isWord rank ls[k] := ⟨_, rfl⟩
      rw [← hy] at hq
      have HQ := Lib.hid hq
      have hkl : (k : Int) < (ls.length : Int) := by omega
      obtain ⟨p, o, c, rfl, _⟩ := i.form
      clear d i hrow hq
      cases y with
      | true =>
        have hst : Kept ((ls.take (k + 1)).all (isWord rank) = true) := ⟨all_snoc hall.out hlt hy.symm⟩
        clear hy
        go_wp2_with fail
        refine (HQ.out).mono ?_
        rintro e w2 ⟨rfl, hb2⟩
        go_wp2
        go_roundw
        case rel => exact ⟨k + 1, by omega, by go_num, hst, hbel.trans (hb2.mono hbel.size)⟩
        case measure => simp [intOf]; omega
      | false =>
        have hst : Kept (areW rank ls = false) := ⟨areW_at hlt hy.symm⟩
        clear hy
        go_wp2_with fail
        refine (HQ.out).mono ?_
        rintro e w2 ⟨rfl, hb2⟩
        go_wp2
        go_ret
        rw [hst.out]
        exact ⟨rfl, hbel.trans (hb2.mono hbel.size)⟩
    · obtain rfl : k = ls.length := by omega
      have hst : Kept (areW rank ls = decide (((totL ls : Nat) : Int) < 40)) := ⟨by
        rw [areW_all HR.out h6 hall.out]
        exact decide_eq_decide.2 (by omega)⟩
      obtain ⟨t, ht⟩ : ∃ t, t = totL ls := ⟨_, rfl⟩
      have hq := HT.out wr hbel
      rw [← ht] at hq hst
      have HQ := Lib.hid hq
      clear hq ht
      go_wp2_with fail
      refine (HQ.out).mono ?_
      rintro e w2 ⟨rfl, hb2⟩
      go_wp2
      go_ret
      rw [hst.out]
      exact ⟨rfl, hbel.trans (hb2.mono hbel.size)⟩
set_option maxHeartbeats 800000 in
theorem areWordsS_any (rank : Int) (v : Value) (ls : List (List Int)) (w : World) (h : Rows2 w v ls) (hn : ls.length ≤ 1048576) (hlen : totL ls ≤ 1048576) :
    Calls Try.prog 22 #[.int .i64 rank, v] w (RetV w (.bool (areW rank ls))) := by
  have htl := fun W (hW : Below w.heap.size w W) => totalLengthS_any v ls W (h.keep hW) hn hlen
  obtain ⟨b, off, cap, rfl, hc, hb, hcell⟩ := h
  have H := Lib.hid hcell
  have HT := Lib.hid htl
  clear hcell htl
  go_enter Try.func22, Try.ntmps22
  go_wp2
  go_loopw [5] (fun i wr => ∃ k : Nat, k ≤ ls.length ∧ i = .int .i64 k ∧ Kept ((ls.take k).all (isWord rank) = true) ∧ Below w.heap.size w wr) (fun i _ => ls.length - (intOf i).toNat)
  case atStart => exact ⟨0, by omega, rfl, ⟨rfl⟩, Below.refl _ _⟩
  case round =>
    obtain ⟨k, hk, rfl, hall, hbel⟩ := hrel
    by_cases hlt : k < ls.length
    · obtain ⟨x, d, i⟩ := H.out k hlt
      have c1 := (hbel.cell (p := ⟨b, off + k, none⟩) hb).trans d
      have hrow := totL_row hlt
      have hq := isWordS_any rank x ls[k] wr (i.keep hbel) (by omega)
      obtain ⟨y, hy⟩ : ∃ y, y = isWord rank ls[k] := ⟨_, rfl⟩
      rw [← hy] at hq
      have HQ := Lib.hid hq
      have hkl : (k : Int) < (ls.length : Int) := by omega
      obtain ⟨p, o, c, rfl, _⟩ := i.form
      clear d i hrow hq
      cases y with
      | true =>
        have hst : Kept ((ls.take (k + 1)).all (isWord rank) = true) := ⟨all_snoc hall.out hlt hy.symm⟩
        clear hy
        go_wp2_with fail
        refine (HQ.out).mono ?_
        rintro e w2 ⟨rfl, hb2⟩
        go_wp2
        go_roundw
        case rel => exact ⟨k + 1, by omega, by go_num, hst, hbel.trans (hb2.mono hbel.size)⟩
        case measure => simp [intOf]; omega
      | false =>
        have hst : Kept (areW rank ls = false) := ⟨areW_at hlt hy.symm⟩
        clear hy
        go_wp2_with fail
        refine (HQ.out).mono ?_
        rintro e w2 ⟨rfl, hb2⟩
        go_wp2
        go_ret
        rw [hst.out]
        exact ⟨rfl, hbel.trans (hb2.mono hbel.size)⟩
    · obtain rfl : k = ls.length := by omega
      by_cases hr : 1 ≤ rank ∧ rank ≤ 3
      case neg =>
        have hr2 : rank < 1 ∨ 3 < rank := by omega
        have hst : Kept (areW rank ls = false) := ⟨areW_rank hr⟩
        clear hr
        go_wp2_with fail
        refine (l1In_no hr2 _).mono ?_
        rintro e w' ⟨rfl, rfl⟩
        go_wp2
        go_ret
        rw [hst.out]
        exact ⟨rfl, hbel⟩
      by_cases h6 : ls.length ≤ 6
      case neg =>
        have h7 : (6 : Int) < (ls.length : Int) := by omega
        have hst : Kept (areW rank ls = false) := ⟨areW_len h6⟩
        go_wp2_with fail
        refine (l1In_yes hr.1 hr.2 _).mono ?_
        rintro e w' ⟨rfl, rfl⟩
        clear hr
        go_wp2
        go_ret
        rw [hst.out]
        exact ⟨rfl, hbel⟩
      have h7 : (ls.length : Int) ≤ 6 := by omega
      have hst : Kept (areW rank ls = decide (((totL ls : Nat) : Int) < 40)) := ⟨by
        rw [areW_all hr h6 hall.out]
        exact decide_eq_decide.2 (by omega)⟩
      obtain ⟨t, ht⟩ : ∃ t, t = totL ls := ⟨_, rfl⟩
      have hq := HT.out wr hbel
      rw [← ht] at hq hst
      have HQ := Lib.hid hq
      have HR := Lib.hid hr
      clear hq ht hr
      go_wp2_with fail
      refine (l1In_yes HR.out.1 HR.out.2 _).mono ?_
      rintro e w' ⟨rfl, rfl⟩
      go_wp2_with fail
      refine (HQ.out).mono ?_
      rintro e w2 ⟨rfl, hb2⟩
      go_wp2
      go_ret
      rw [hst.out]
      exact ⟨rfl, hbel.trans (hb2.mono hbel.size)⟩
end Go.Proofs.Ytopelbcikbkdbaa
