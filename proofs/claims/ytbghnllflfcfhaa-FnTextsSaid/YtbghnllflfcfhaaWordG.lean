/- Contracts of FormatWord. Conditions: words of at most 2^26 letters. -/
import Derived.Test.YtbghnllflfcfhaaArgs
import Derived.Test.YtbghnllflfcfhaaWithin
namespace Go.Proofs.Ytbghnllflfcfhaa
open Go.RowKit

/-- A letter of some alphabet. -/
def letOk (x : Int) : Bool := decide (x ≠ 0 ∧ -3 ≤ x ∧ x ≤ 3)
/-- The byte of a letter: a, b, c, and A, B, C for their inverses. -/
def chr (x : Int) : UInt8 := match decide (x < 0) with
  | true => UInt8.ofNat (64 - x).toNat
  | false => UInt8.ofNat (96 + x).toNat
theorem letterText_one (x : Int) (h : x = 1 ∨ x = 2 ∨ x = 3 ∨ x = -1 ∨ x = -2 ∨ x = -3) (w : World) : Calls Try.prog 80 #[.int .i64 x] w fun e w' => e = .returned (.string ⟨#[chr x]⟩) ∧ w = w' := by
  rcases h with rfl | rfl | rfl | rfl | rfl | rfl
  all_goals
    go_enter Try.func80, Try.ntmps80
    go_wp2
    go_ret
    exact ⟨rfl, rfl⟩
theorem letterText_none (x : Int) (h : x < -3 ∨ x = 0 ∨ 3 < x) (w : World) : Calls Try.prog 80 #[.int .i64 x] w fun e w' => e = .returned (.string ⟨#[]⟩) ∧ w = w' := by
  rcases h with h | rfl | h
  all_goals
    go_enter Try.func80, Try.ntmps80
    go_wp2
    go_ret
    exact ⟨rfl, rfl⟩
/-- The text of a word: 1 for the empty one, nothing where a number is no letter. -/
def fmtW (l : List Int) : List UInt8 := match l, l.all letOk with
  | [], _ => [49]
  | _ :: _, true => l.map chr
  | _ :: _, false => []
theorem fmtW_bad {l : List Int} {k : Nat} (h : k < l.length) (h1 : letOk l[k] = false) : fmtW l = [] := by
  have : l.all letOk = false := by
    rw [List.all_eq_false]
    exact ⟨l[k], List.getElem_mem h, by simp [h1]⟩
  cases l with
  | nil => simp at h
  | cons a l => simp only [fmtW, this]
theorem fmtW_good {l : List Int} (h0 : 0 < l.length) (h : ∀ x ∈ l, letOk x = true) : fmtW l = l.map chr := by
  have : l.all letOk = true := by rw [List.all_eq_true]; exact h
  cases l with
  | nil => simp at h0
  | cons a l => simp only [fmtW, this]
theorem str_snoc (l : List UInt8) (b : UInt8) : Value.string (⟨l.toArray⟩ ++ ⟨#[b]⟩) = .string ⟨(l ++ [b]).toArray⟩ := congrArg Value.string (ByteArray.mk_append_mk l [b])
set_option maxHeartbeats 800000 in
theorem formatWord_any (v : Value) (l : List Int) (w : World) (h : Ints w v l) (hn : l.length ≤ 134217728) :
    Calls Try.prog 44 #[v] w (RetV w (.string ⟨(fmtW l).toArray⟩)) := by
  obtain ⟨b, off, cap, rfl, hc, hb, hcell, hrg⟩ := h
  have H := Lib.hid hcell
  clear hcell
  by_cases h0 : l.length = 0
  · obtain rfl : l = [] := List.length_eq_zero_iff.1 h0
    go_enter Try.func44, Try.ntmps44
    go_wp2
    go_ret
    exact ⟨rfl, Below.refl _ _⟩
  have hpos : 0 < l.length := by omega
  have hd0 : ((l.length : Int) == 0) = false := beq_eq_false_iff_ne.2 (by omega)
  clear h0
  go_enter Try.func44, Try.ntmps44
  go_wp2
  go_loop [3, 12, 5, 6] (fun s i _ _ => ∃ k : Nat, k ≤ l.length ∧ i = .int .i64 k ∧ s = .string ⟨((l.map chr).take k).toArray⟩ ∧ Kept (∀ x ∈ l.take k, letOk x = true)) (fun _ i _ _ => l.length - (intOf i).toNat)
  case atStart => exact ⟨0, by omega, rfl, rfl, ⟨by simp⟩⟩
  case round =>
    obtain ⟨k, hk, rfl, rfl, hkk⟩ := hrel
    by_cases hlt : k < l.length
    · have hkl : (k : Int) < (l.length : Int) := by omega
      have e1 : w.cell? ⟨b, off + k, none⟩ = some (.int .i64 l[k]) := H.out k hlt
      obtain ⟨x, hx⟩ : ∃ x, x = l[k] := ⟨_, rfl⟩
      rw [← hx] at e1
      cases ho : letOk x with
      | true =>
        have hcl := letterText_one x (by simp only [letOk, decide_eq_true_eq] at ho; omega)
        have HL := Lib.hid hcl
        have hk2 : Kept (∀ x ∈ l.take (k + 1), letOk x = true) := ⟨by
          rw [List.take_succ_eq_append_getElem hlt]
          intro y hy
          rcases List.mem_append.1 hy with hy | hy
          · exact hkk.out y hy
          · simp at hy; rw [hy, ← hx]; exact ho⟩
        have hst : Kept ((l.map chr).take (k + 1) = (l.map chr).take k ++ [chr x]) := ⟨by rw [List.take_succ_eq_append_getElem (by simpa using hlt), hx]; simp⟩
        have hcat := run_add_lists (P := Try.prog) ((l.map chr).take k) [chr x] (by simp; omega) w
        clear hcl hkk ho hx
        go_wp2_with (go_at_call 80; refine (HL.out _).mono ?_; rintro e w' ⟨rfl, rfl⟩)
        go_round
        case rel =>
          refine ⟨k + 1, by omega, by go_num, ?_, hk2⟩
          rw [hst.out]
        case measure => simp [intOf]; omega
      | false =>
        have hcl := letterText_none x (by simp only [letOk, decide_eq_false_iff_not] at ho; omega)
        have HL := Lib.hid hcl
        have hk2 : Kept (fmtW l = []) := ⟨fmtW_bad hlt (by rw [← hx]; exact ho)⟩
        clear hcl hkk ho hx
        go_wp2_with (go_at_call 80; refine (HL.out _).mono ?_; rintro e w' ⟨rfl, rfl⟩)
        go_ret
        exact ⟨by rw [hk2.out]; rfl, Below.refl _ _⟩
    · obtain rfl : k = l.length := by omega
      have hk2 : Kept (fmtW l = (l.map chr).take l.length) := ⟨by
        have := hkk.out
        rw [List.take_length] at this
        rw [fmtW_good hpos this, List.take_of_length_le (by simp)]⟩
      clear hkk
      go_wp2
      go_ret
      exact ⟨by rw [hk2.out]; rfl, Below.refl _ _⟩
theorem l2Char_one (x : Int) (h : x = 1 ∨ x = 2 ∨ x = 3 ∨ x = -1 ∨ x = -2 ∨ x = -3) (w : World) : Calls Try.prog 83 #[.int .i64 x] w (RetV w (.string ⟨#[chr x]⟩)) := by
  rcases h with rfl | rfl | rfl | rfl | rfl | rfl
  all_goals
    go_enter Try.func83, Try.ntmps83
    go_wp2
    go_ret
    exact ⟨rfl, (Below.refl _ _).alloc (Nat.le_refl _) _⟩
theorem l2Letter_any (x : Int) (w : World) : Calls Try.prog 82 #[.int .i64 x] w fun e w' => e = .returned (.bool (letOk x)) ∧ w = w' := by
  by_cases h0 : x = 0
  · subst h0
    go_enter Try.func82, Try.ntmps82
    go_wp2
    go_ret
    exact ⟨rfl, rfl⟩
  · have hd : (x != 0) = true := by simp [h0]
    have e : letOk x = decide (-3 ≤ x ∧ x ≤ 3) := by simp [letOk, h0]
    rw [e]
    clear e h0
    obtain ⟨b, hb⟩ : ∃ b, b = decide (-3 ≤ x ∧ x ≤ 3) := ⟨_, rfl⟩
    have hc := l1In_any x (-3) 3
    rw [← hb] at hc ⊢
    have HC := Lib.hid hc
    clear hc hb
    go_enter Try.func82, Try.ntmps82
    go_wp2_with (go_at_call 77; refine (HC.out _).mono ?_; rintro e w' ⟨rfl, rfl⟩)
    go_ret
    exact ⟨rfl, rfl⟩
set_option maxHeartbeats 800000 in
theorem formatWordS_any (v : Value) (l : List Int) (w : World) (h : Ints w v l) (hn : l.length ≤ 134217728) :
    Calls Try.prog 46 #[v] w (RetV w (.string ⟨(fmtW l).toArray⟩)) := by
  obtain ⟨b, off, cap, rfl, hc, hb, hcell, hrg⟩ := h
  have H := Lib.hid hcell
  clear hcell
  go_enter Try.func46, Try.ntmps46
  go_wp2
  go_loopw [3, 4] (fun s i wr => ∃ k : Nat, k ≤ l.length ∧ i = .int .i64 k ∧ s = .string ⟨((l.map chr).take k).toArray⟩ ∧ Kept (∀ x ∈ l.take k, letOk x = true) ∧ Below w.heap.size w wr) (fun _ i _ => l.length - (intOf i).toNat)
  case atStart => exact ⟨0, by omega, rfl, rfl, ⟨by simp⟩, Below.refl _ _⟩
  case round =>
    obtain ⟨k, hk, rfl, rfl, hkk, hbel⟩ := hrel
    by_cases hlt : k < l.length
    · have hkl : (k : Int) < (l.length : Int) := by omega
      have e1 : wr.cell? ⟨b, off + k, none⟩ = some (.int .i64 l[k]) := (hbel.cell (p := ⟨b, off + k, none⟩) hb).trans (H.out k hlt)
      obtain ⟨x, hx⟩ : ∃ x, x = l[k] := ⟨_, rfl⟩
      rw [← hx] at e1
      have hlet := l2Letter_any x
      cases ho : letOk x with
      | true =>
        rw [ho] at hlet
        have HA := Lib.hid hlet
        have hcl := l2Char_one x (by simp only [letOk, decide_eq_true_eq] at ho; omega)
        have HL := Lib.hid hcl
        have hk2 : Kept (∀ x ∈ l.take (k + 1), letOk x = true) := ⟨by
          rw [List.take_succ_eq_append_getElem hlt]
          intro y hy
          rcases List.mem_append.1 hy with hy | hy
          · exact hkk.out y hy
          · simp at hy; rw [hy, ← hx]; exact ho⟩
        have hst : Kept ((l.map chr).take (k + 1) = (l.map chr).take k ++ [chr x]) := ⟨by rw [List.take_succ_eq_append_getElem (by simpa using hlt), hx]; simp⟩
        clear hcl hkk ho hx hlet
        go_wp2_with (go_at_call 82; refine (HA.out _).mono ?_; rintro e w' ⟨rfl, rfl⟩)
        refine (HL.out _).mono ?_
        rintro e w1 ⟨rfl, hb1⟩
        have hcat := run_add_lists (P := Try.prog) ((l.map chr).take k) [chr x] (by simp; omega) w1
        have hb2 := hbel.trans (hb1.mono hbel.size)
        clear hb1
        go_wp2
        go_roundw
        case rel =>
          refine ⟨k + 1, by omega, by go_num, ?_, hk2, hb2⟩
          rw [hst.out]
        case measure => simp [intOf]; omega
      | false =>
        rw [ho] at hlet
        have HA := Lib.hid hlet
        have hk2 : Kept (fmtW l = []) := ⟨fmtW_bad hlt (by rw [← hx]; exact ho)⟩
        clear hkk ho hx hlet
        go_wp2_with (go_at_call 82; refine (HA.out _).mono ?_; rintro e w' ⟨rfl, rfl⟩)
        go_ret
        exact ⟨by rw [hk2.out]; rfl, hbel⟩
    · obtain rfl : k = l.length := by omega
      by_cases h0 : l.length = 0
      · obtain rfl : l = [] := List.length_eq_zero_iff.1 h0
        go_wp2
        go_ret
        exact ⟨rfl, hbel⟩
      have hk2 : Kept (fmtW l = (l.map chr).take l.length) := ⟨by
        have := hkk.out
        rw [List.take_length] at this
        rw [fmtW_good (by omega) this, List.take_of_length_le (by simp)]⟩
      have hl0 : 0 < l.length := by omega
      have hne : ((l.map chr).take l.length).isEmpty = false := by
        cases l with
        | nil => simp at hl0
        | cons a l => rfl
      clear hkk h0
      go_wp2
      go_ret
      exact ⟨by rw [hk2.out]; rfl, hbel⟩
end Go.Proofs.Ytbghnllflfcfhaa
