/- Contracts of CompareWords. Conditions: words of at most 2^26 letters. -/
import Derived.Test.YtbghnllflfcfhaaArgs
import Derived.Test.YtbghnllflfcfhaaWordMath
import Derived.Test.YtbghnllflfcfhaaCmp
namespace Go.Proofs.Ytbghnllflfcfhaa
open Go.RowKit

/-- The order of letters: by size, the positive one first; the least int last. -/
def cmpLetter (a b : Int) : Int :=
  if a = b then 0 else if a = -9223372036854775808 then 1 else if b = -9223372036854775808 then -1
  else if a.natAbs < b.natAbs then -1 else if b.natAbs < a.natAbs then 1 else cmpI b a
theorem cmpLetter_same (a : Int) : cmpLetter a a = 0 := by simp [cmpLetter]
theorem cmpLetter_small {a b : Int} (ha : a ≠ -9223372036854775808) (hb : b ≠ -9223372036854775808) (h : a.natAbs < b.natAbs) : cmpLetter a b = -1 := by
  have : a ≠ b := by intro e; subst e; omega
  simp [cmpLetter, this, ha, hb, h]
theorem cmpLetter_big {a b : Int} (ha : a ≠ -9223372036854775808) (hb : b ≠ -9223372036854775808) (h : b.natAbs < a.natAbs) : cmpLetter a b = 1 := by
  have : a ≠ b := by intro e; subst e; omega
  have h2 : ¬ a.natAbs < b.natAbs := by omega
  simp [cmpLetter, this, ha, hb, h, h2]
theorem cmpLetter_neg {a b : Int} (ha : a ≠ -9223372036854775808) (hb : b ≠ -9223372036854775808) (h : b.natAbs = a.natAbs) : cmpLetter a b = cmpI b a := by
  by_cases e : a = b
  · subst e; rw [cmpLetter_same, cmpI_eq]
  · simp [cmpLetter, e, ha, hb, h]
theorem compareInts_lt {a b : Int} (h : a < b) (w : World) : Calls Try.prog 84 #[.int .i64 a, .int .i64 b] w fun e w' => e = .returned (.int .i64 (-1)) ∧ w = w' := by
  rw [← cmpI_lt h]; exact compareInts_any a b w
theorem compareInts_gt {a b : Int} (h : b < a) (w : World) : Calls Try.prog 84 #[.int .i64 a, .int .i64 b] w fun e w' => e = .returned (.int .i64 1) ∧ w = w' := by
  rw [← cmpI_gt h]; exact compareInts_any a b w
theorem compareInts_same {a b : Int} (h : a = b) (w : World) : Calls Try.prog 84 #[.int .i64 a, .int .i64 b] w fun e w' => e = .returned (.int .i64 0) ∧ w = w' := by
  subst h; have := compareInts_any a a w; rwa [cmpI_eq] at this
theorem compareLetters_any (a b : Int) (ha : I64 a) (hb : I64 b) (w : World) : Calls Try.prog 85 #[.int .i64 a, .int .i64 b] w fun e w' => e = .returned (.int .i64 (cmpLetter a b)) ∧ w = w' := by
  by_cases h1 : a = b
  · subst h1
    rw [cmpLetter_same]
    have hd : (a == a) = true := by simp
    go_enter Try.func85, Try.ntmps85
    go_wp2
    go_ret
    exact ⟨rfl, rfl⟩
  by_cases h2 : a = -9223372036854775808
  · subst h2
    have e : cmpLetter (-9223372036854775808) b = 1 := by simp [cmpLetter, h1]
    rw [e]
    have hd : ((-9223372036854775808 : Int) == b) = false := by simp [h1]
    clear e
    go_enter Try.func85, Try.ntmps85
    go_wp2
    go_ret
    exact ⟨rfl, rfl⟩
  by_cases h3 : b = -9223372036854775808
  · subst h3
    have e : cmpLetter a (-9223372036854775808) = -1 := by simp [cmpLetter, h2]
    rw [e]
    have hd : (a == -9223372036854775808) = false := by simp [h2]
    clear e
    go_enter Try.func85, Try.ntmps85
    go_wp2
    go_ret
    exact ⟨rfl, rfl⟩
  have hd1 : (a == b) = false := by simp [h1]
  have hd2 : (a == -9223372036854775808) = false := by simp [h2]
  have hd3 : (b == -9223372036854775808) = false := by simp [h3]
  obtain ⟨ha1, ha2⟩ := ha
  obtain ⟨hb1, hb2⟩ := hb
  have hw1 : wrap64 (-a) = -a := by unfold wrap64; omega
  have hw2 : wrap64 (-b) = -b := by unfold wrap64; omega
  by_cases hs : a.natAbs < b.natAbs
  · rw [cmpLetter_small h2 h3 hs]
    clear h1 h2 h3
    go_enter Try.func85, Try.ntmps85
    go_wp2_with fail
    all_goals
      refine (compareInts_lt (by omega) _).mono ?_
      rintro e w' ⟨rfl, rfl⟩
      go_wp2
      go_ret
      exact ⟨rfl, rfl⟩
  by_cases hg : b.natAbs < a.natAbs
  · rw [cmpLetter_big h2 h3 hg]
    clear h1 h2 h3
    go_enter Try.func85, Try.ntmps85
    go_wp2_with fail
    all_goals
      refine (compareInts_gt (by omega) _).mono ?_
      rintro e w' ⟨rfl, rfl⟩
      go_wp2
      go_ret
      exact ⟨rfl, rfl⟩
  have hn : b.natAbs = a.natAbs := by omega
  rw [cmpLetter_neg h2 h3 hn]
  have hnk := Lib.hid hn
  clear h1 h2 h3 hn hs hg
  go_enter Try.func85, Try.ntmps85
  go_wp2_with fail
  all_goals
    refine (compareInts_same (by have := hnk.out; omega) _).mono ?_
    rintro e w' ⟨rfl, rfl⟩
    go_wp2_with fail
    refine (compareInts_any _ _ _).mono ?_
    rintro e w' ⟨rfl, rfl⟩
    go_wp2
    go_ret
    exact ⟨rfl, rfl⟩
set_option maxHeartbeats 1600000 in
theorem l2Order_any (a b : Int) (ha : I64 a) (hb : I64 b) (w : World) : Calls Try.prog 88 #[.int .i64 a, .int .i64 b] w fun e w' => e = .returned (.int .i64 (cmpLetter a b)) ∧ w = w' := by
  obtain ⟨ha1, ha2⟩ := ha
  obtain ⟨hb1, hb2⟩ := hb
  by_cases h1 : a = b
  · subst h1
    rw [cmpLetter_same]
    have hd : (a == a) = true := by simp
    go_enter Try.func88, Try.ntmps88
    go_wp2
    all_goals
      go_ret
      exact ⟨rfl, rfl⟩
  by_cases h2 : a = -9223372036854775808
  · subst h2
    have e : cmpLetter (-9223372036854775808) b = 1 := by simp [cmpLetter, h1]
    rw [e]
    have hd : ((-9223372036854775808 : Int) == b) = false := by simp [h1]
    have hw : wrap64 9223372036854775808 = -9223372036854775808 := by unfold wrap64; omega
    clear e
    go_enter Try.func88, Try.ntmps88
    go_wp2
    all_goals
      go_ret
      exact ⟨rfl, rfl⟩
  have hw1 : wrap64 (-a) = -a := by unfold wrap64; omega
  have hd1 : (a == b) = false := by simp [h1]
  by_cases h3 : b = -9223372036854775808
  · subst h3
    have e : cmpLetter a (-9223372036854775808) = -1 := by simp [cmpLetter, h2]
    rw [e]
    have hw : wrap64 9223372036854775808 = -9223372036854775808 := by unfold wrap64; omega
    have hd2 : (-a == -9223372036854775808) = false := by simp; omega
    clear e
    go_enter Try.func88, Try.ntmps88
    go_wp2
    all_goals
      go_ret
      exact ⟨rfl, rfl⟩
  have hw2 : wrap64 (-b) = -b := by unfold wrap64; omega
  by_cases hs : a.natAbs < b.natAbs
  · rw [cmpLetter_small h2 h3 hs]
    have hd3 : (-a == b) = false := by simp; omega
    have hd4 : (-a == -b) = false := by simp; omega
    have hd5 : (a == -b) = false := by simp; omega
    clear h1 h2 h3
    go_enter Try.func88, Try.ntmps88
    go_wp2
    all_goals
      go_ret
      exact ⟨rfl, rfl⟩
  by_cases hg : b.natAbs < a.natAbs
  · rw [cmpLetter_big h2 h3 hg]
    have hd3 : (-a == b) = false := by simp; omega
    have hd4 : (-a == -b) = false := by simp; omega
    have hd5 : (a == -b) = false := by simp; omega
    clear h1 h2 h3
    go_enter Try.func88, Try.ntmps88
    go_wp2
    all_goals
      go_ret
      exact ⟨rfl, rfl⟩
  rw [cmpLetter_neg h2 h3 (by omega)]
  have hd3 : (-a == b) = true := by simp; omega
  have hd4 : (-a == -b) = false := by simp; omega
  have hd5 : (a == -b) = true := by simp; omega
  by_cases hl : a < b
  · rw [cmpI_gt hl]
    have hl1 : a < 0 := by omega
    have hl2 : 0 < b := by omega
    have hl3 : b ≤ -a := by omega
    have hl4 : -a ≤ b := by omega
    clear h1 h2 h3 hs hg
    go_enter Try.func88, Try.ntmps88
    go_wp2
    all_goals
      go_ret
      exact ⟨rfl, rfl⟩
  · have hl' : b < a := by omega
    rw [cmpI_lt hl']
    have hl1 : b < 0 := by omega
    have hl2 : 0 < a := by omega
    have hl3 : a ≤ -b := by omega
    have hl4 : -b ≤ a := by omega
    clear h1 h2 h3 hs hg hl
    go_enter Try.func88, Try.ntmps88
    go_wp2
    all_goals
      go_ret
      exact ⟨rfl, rfl⟩

/-- A contract that leaves the world alone, met in a region of quiet operations whose world has drawn before. -/
theorem quiet2 {P : Program} {f : FuncId} {args : Array Value} {w : World} {n m : Nat} {v : Value} (h : ∀ w, Calls P f args w fun e w' => e = .returned v ∧ w = w') :
    Calls P f args (w.drewN (n + m)) fun e w'' => e = .returned v ∧ ∃ k, w'' = w.drewN (n + k) := (h _).mono fun _ _ ⟨he, hw⟩ => ⟨he, m, hw.symm⟩
/-- The order of words of one length. -/
def cmpL : List Int → List Int → Int
  | a :: l, b :: m => match decide (cmpLetter a b = 0) with
    | true => cmpL l m
    | false => cmpLetter a b
  | _, _ => 0
/-- The order of words. -/
def cmpW (l1 l2 : List Int) : Int := match decide (l1.length < l2.length), decide (l2.length < l1.length) with
  | true, _ => -1
  | false, true => 1
  | false, false => cmpL l1 l2
theorem cmpW_lt {l1 l2 : List Int} (h : l1.length < l2.length) : cmpW l1 l2 = -1 := by simp [cmpW, h]
theorem cmpW_gt {l1 l2 : List Int} (h : l2.length < l1.length) : cmpW l1 l2 = 1 := by
  have : ¬ l1.length < l2.length := by omega
  simp [cmpW, h, this]
theorem cmpW_eq {l1 l2 : List Int} (h : l1.length = l2.length) : cmpW l1 l2 = cmpL l1 l2 := by simp [cmpW, h]
theorem cmpL_skip {l1 l2 : List Int} {k : Nat} (h1 : k < l1.length) (h2 : k < l2.length) (h : cmpLetter l1[k] l2[k] = 0) : cmpL (l1.drop k) (l2.drop k) = cmpL (l1.drop (k + 1)) (l2.drop (k + 1)) := by
  rw [List.drop_eq_getElem_cons h1, List.drop_eq_getElem_cons h2]; simp [cmpL, h]
theorem cmpL_stop {l1 l2 : List Int} {k : Nat} (h1 : k < l1.length) (h2 : k < l2.length) (h : cmpLetter l1[k] l2[k] ≠ 0) : cmpL (l1.drop k) (l2.drop k) = cmpLetter l1[k] l2[k] := by
  rw [List.drop_eq_getElem_cons h1, List.drop_eq_getElem_cons h2]; simp [cmpL, h]
theorem cmpL_end {l1 l2 : List Int} {k : Nat} (h1 : l1.length ≤ k) : cmpL (l1.drop k) (l2.drop k) = 0 := by
  rw [List.drop_eq_nil_of_le h1]; rfl
theorem cmpL_range (l1 l2 : List Int) : cmpL l1 l2 = -1 ∨ cmpL l1 l2 = 0 ∨ cmpL l1 l2 = 1 := by
  induction l1 generalizing l2 with
  | nil => simp [cmpL]
  | cons a l ih =>
    cases l2 with
    | nil => simp [cmpL]
    | cons b m =>
      unfold cmpL
      split
      · exact ih m
      · unfold cmpLetter cmpI; repeat' split
        all_goals omega

theorem compareWords_any (v1 v2 : Value) (l1 l2 : List Int) (w : World) (h1 : Ints w v1 l1) (h2 : Ints w v2 l2) (hn1 : l1.length ≤ 134217728) (hn2 : l2.length ≤ 134217728) :
    Calls Try.prog 48 #[v1, v2] w (RetV w (.int .i64 (cmpW l1 l2))) := by
  obtain ⟨b1, off1, cap1, rfl, hc1, hb1, hcell1, hr1⟩ := h1
  obtain ⟨b2, off2, cap2, rfl, hc2, hb2, hcell2, hr2⟩ := h2
  have H1 := Lib.hid hcell1
  have H2 := Lib.hid hcell2
  clear hcell1 hcell2
  by_cases hl : l1.length < l2.length
  · rw [cmpW_lt hl]
    have hli : (l1.length : Int) < (l2.length : Int) := by omega
    have hd : ((l1.length : Int) != (l2.length : Int)) = true := by simp; omega
    go_enter Try.func48, Try.ntmps48
    go_wp2_with (go_at_call 84; refine (compareInts_lt (by omega) _).mono ?_; rintro e w' ⟨rfl, rfl⟩)
    go_ret
    exact ⟨rfl, Below.refl _ _⟩
  by_cases hg : l2.length < l1.length
  · rw [cmpW_gt hg]
    have hli : (l2.length : Int) < (l1.length : Int) := by omega
    have hd : ((l1.length : Int) != (l2.length : Int)) = true := by simp; omega
    go_enter Try.func48, Try.ntmps48
    go_wp2_with (go_at_call 84; refine (compareInts_gt (by omega) _).mono ?_; rintro e w' ⟨rfl, rfl⟩)
    go_ret
    exact ⟨rfl, Below.refl _ _⟩
  have hll : l1.length = l2.length := by omega
  have hlk : Kept _ := ⟨hll⟩
  have hl2 : l1.length ≤ l2.length := by omega
  rw [cmpW_eq hll]
  rw [← hll]
  clear hl hg hll
  go_enter Try.func48, Try.ntmps48
  go_wp2_with (go_at_call 84; refine (compareInts_same rfl _).mono ?_; rintro e w' ⟨rfl, rfl⟩)
  go_loopw [18, 6, 7] (fun i _ _ wr => ∃ k : Nat, k ≤ l1.length ∧ i = .int .i64 k ∧ Kept (cmpL l1 l2 = cmpL (l1.drop k) (l2.drop k)) ∧ ∃ n, wr = w.drewN n) (fun i _ _ _ => l1.length - (intOf i).toNat)
  case atStart => exact ⟨0, by omega, rfl, ⟨by simp⟩, 0, rfl⟩
  case round =>
    obtain ⟨k, hk, rfl, hkk, n, rfl⟩ := hrel
    by_cases hlt : k < l1.length
    · have hlt2 : k < l2.length := by omega
      have hkl : (k : Int) < (l1.length : Int) := by omega
      have e1 : w.cell? ⟨b1, off1 + k, none⟩ = some (.int .i64 l1[k]) := H1.out k hlt
      have e2 : w.cell? ⟨b2, off2 + k, none⟩ = some (.int .i64 l2[k]) := H2.out k hlt2
      have r1 : I64 l1[k] := hr1 _ (List.getElem_mem hlt)
      have r2 : I64 l2[k] := hr2 _ (List.getElem_mem hlt2)
      by_cases he : cmpLetter l1[k] l2[k] = 0
      · have hk2 : Kept (cmpL l1 l2 = cmpL (l1.drop (k + 1)) (l2.drop (k + 1))) := ⟨by rw [hkk.out, cmpL_skip hlt hlt2 he]⟩
        have hc := compareLetters_any l1[k] l2[k] r1 r2
        rw [he] at hc
        have HC := Lib.hid hc
        clear he hkk hc
        go_wp2
        go_quiet ((go_at_call 85; exact quiet2 HC.out))
        go_wp2
        go_roundw
        case rel => exact ⟨k + 1, by omega, by go_num, hk2, n + nq, rfl⟩
        case measure => simp [intOf]; omega
      · have hk2 : Kept (cmpL l1 l2 = cmpLetter l1[k] l2[k]) := ⟨by rw [hkk.out, cmpL_stop hlt hlt2 he]⟩
        have hc := compareLetters_any l1[k] l2[k] r1 r2
        obtain ⟨y, hy⟩ : ∃ y, y = cmpLetter l1[k] l2[k] := ⟨_, rfl⟩
        rw [← hy] at hc hk2 he
        have hd : (y != 0) = true := by simp [he]
        have HC := Lib.hid hc
        clear he hkk hy hc
        go_wp2
        go_quiet ((go_at_call 85; exact quiet2 HC.out))
        go_wp2
        go_ret
        exact ⟨by rw [hk2.out]; rfl, below_drewN _ (Below.refl _ _)⟩
    · obtain rfl : k = l1.length := by omega
      have hk2 : Kept (cmpL l1 l2 = 0) := ⟨by rw [hkk.out, cmpL_end (Nat.le_refl _)]⟩
      go_wp2
      go_ret
      exact ⟨by rw [hk2.out]; rfl, below_drewN _ (Below.refl _ _)⟩

theorem compareWordsS_any (v1 v2 : Value) (l1 l2 : List Int) (w : World) (h1 : Ints w v1 l1) (h2 : Ints w v2 l2) (hn1 : l1.length ≤ 134217728) (hn2 : l2.length ≤ 134217728) :
    Calls Try.prog 52 #[v1, v2] w (RetV w (.int .i64 (cmpW l1 l2))) := by
  obtain ⟨b1, off1, cap1, rfl, hc1, hb1, hcell1, hr1⟩ := h1
  obtain ⟨b2, off2, cap2, rfl, hc2, hb2, hcell2, hr2⟩ := h2
  have H1 := Lib.hid hcell1
  have H2 := Lib.hid hcell2
  clear hcell1 hcell2
  by_cases hl : l1.length < l2.length
  · rw [cmpW_lt hl]
    have hli : (l1.length : Int) < (l2.length : Int) := by omega
    have hd : ((l1.length : Int) != (l2.length : Int)) = true := by simp; omega
    go_enter Try.func52, Try.ntmps52
    go_wp2
    go_ret
    exact ⟨rfl, Below.refl _ _⟩
  by_cases hg : l2.length < l1.length
  · rw [cmpW_gt hg]
    have hli : (l2.length : Int) < (l1.length : Int) := by omega
    have hd : ((l1.length : Int) != (l2.length : Int)) = true := by simp; omega
    go_enter Try.func52, Try.ntmps52
    go_wp2
    go_ret
    exact ⟨rfl, Below.refl _ _⟩
  have hll : l1.length = l2.length := by omega
  have hlk : Kept _ := ⟨hll⟩
  have hl2 : l1.length ≤ l2.length := by omega
  rw [cmpW_eq hll]
  rw [← hll]
  clear hl hg hll
  go_enter Try.func52, Try.ntmps52
  go_wp2
  go_loopw [5, 6] (fun i _ wr => ∃ k : Nat, k ≤ l1.length ∧ i = .int .i64 k ∧ Kept (cmpL l1 l2 = cmpL (l1.drop k) (l2.drop k)) ∧ ∃ n, wr = w.drewN n) (fun i _ _ => l1.length - (intOf i).toNat)
  case atStart => exact ⟨0, by omega, rfl, ⟨by simp⟩, 0, rfl⟩
  case round =>
    obtain ⟨k, hk, rfl, hkk, n, rfl⟩ := hrel
    by_cases hlt : k < l1.length
    · have hlt2 : k < l2.length := by omega
      have hkl : (k : Int) < (l1.length : Int) := by omega
      have e1 : w.cell? ⟨b1, off1 + k, none⟩ = some (.int .i64 l1[k]) := H1.out k hlt
      have e2 : w.cell? ⟨b2, off2 + k, none⟩ = some (.int .i64 l2[k]) := H2.out k hlt2
      have r1 : I64 l1[k] := hr1 _ (List.getElem_mem hlt)
      have r2 : I64 l2[k] := hr2 _ (List.getElem_mem hlt2)
      by_cases he : cmpLetter l1[k] l2[k] = 0
      · have hk2 : Kept (cmpL l1 l2 = cmpL (l1.drop (k + 1)) (l2.drop (k + 1))) := ⟨by rw [hkk.out, cmpL_skip hlt hlt2 he]⟩
        have hc := l2Order_any l1[k] l2[k] r1 r2
        rw [he] at hc
        have HC := Lib.hid hc
        clear he hkk hc
        go_wp2
        go_quiet ((go_at_call 88; exact quiet2 HC.out))
        go_wp2
        go_roundw
        case rel => exact ⟨k + 1, by omega, by go_num, hk2, n + nq, rfl⟩
        case measure => simp [intOf]; omega
      · have hk2 : Kept (cmpL l1 l2 = cmpLetter l1[k] l2[k]) := ⟨by rw [hkk.out, cmpL_stop hlt hlt2 he]⟩
        have hc := l2Order_any l1[k] l2[k] r1 r2
        obtain ⟨y, hy⟩ : ∃ y, y = cmpLetter l1[k] l2[k] := ⟨_, rfl⟩
        rw [← hy] at hc hk2 he
        have hd : (y != 0) = true := by simp [he]
        have HC := Lib.hid hc
        clear he hkk hy hc
        go_wp2
        go_quiet ((go_at_call 88; exact quiet2 HC.out))
        go_wp2
        go_ret
        exact ⟨by rw [hk2.out]; rfl, below_drewN _ (Below.refl _ _)⟩
    · obtain rfl : k = l1.length := by omega
      have hk2 : Kept (cmpL l1 l2 = 0) := ⟨by rw [hkk.out, cmpL_end (Nat.le_refl _)]⟩
      go_wp2
      go_ret
      exact ⟨by rw [hk2.out]; rfl, below_drewN _ (Below.refl _ _)⟩
end Go.Proofs.Ytbghnllflfcfhaa
