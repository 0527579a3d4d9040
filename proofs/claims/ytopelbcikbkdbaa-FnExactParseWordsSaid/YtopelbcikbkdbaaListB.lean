/- Contracts of TotalLength, EqualWordLists, AreWords. Conditions: at most 2^20 letters and words in all. -/
import Derived.Test.YtopelbcikbkdbaaListA
import Derived.Test.YtopelbcikbkdbaaWithin
import Derived.Test.YtopelbcikbkdbaaWordF
namespace Go.Proofs.Ytopelbcikbkdbaa
open Go.RowKit

theorem totalLength_any (v : Value) (ls : List (List Int)) (w : World) (h : Rows2 w v ls) (hn : ls.length ≤ 1048576) (hlen : totL ls ≤ 1048576) :
    Calls Try.prog 18 #[v] w (RetV w (.int .i64 (totL ls : Nat))) := by
  obtain ⟨b, off, cap, rfl, hc, hb, hcell⟩ := h
  have H := Lib.hid hcell
  clear hcell
  go_enter Try.func18, Try.ntmps18
  go_wp2
  go_loopw [3, 5, 8] (fun n _ i wr => ∃ k t : Nat, k ≤ ls.length ∧ i = .int .i64 k ∧ n = .int .i64 t ∧ Kept (t = totL (ls.take k)) ∧ wr = w) (fun _ _ i _ => ls.length - (intOf i).toNat)
  case atStart => exact ⟨0, 0, by omega, rfl, rfl, ⟨by simp [totL]⟩, rfl⟩
  case round =>
    obtain ⟨k, t, hk, rfl, rfl, ht, rfl⟩ := hrel
    by_cases hlt : k < ls.length
    · obtain ⟨x, d, i⟩ := H.out k hlt
      obtain ⟨p, o, c, rfl, _⟩ := i.form
      have hkl : (k : Int) < (ls.length : Int) := by omega
      have h1 := totL_take hlt
      have h2 := totL_mono (ls := ls) (k + 1)
      have h3 := ht.out
      have hst : Kept (t + ls[k].length = totL (ls.take (k + 1))) := ⟨by omega⟩
      have hb : t + ls[k].length ≤ 1048576 := by omega
      obtain ⟨m, hm⟩ : ∃ m, m = ls[k].length := ⟨_, rfl⟩
      rw [← hm] at hb hst d
      clear h1 h2 h3 hm i
      go_wp2
      go_roundw
      case rel => exact ⟨k + 1, t + m, by omega, by go_num, by go_num, hst, by first | rfl | trivial⟩
      case measure => simp [intOf]; omega
    · obtain rfl : k = ls.length := by omega
      have hst : Kept (t = totL ls) := ⟨by rw [ht.out, List.take_length]⟩
      go_wp2
      go_ret
      rw [← hst.out]
      exact ⟨rfl, Below.refl _ _⟩
theorem totalLengthS_any (v : Value) (ls : List (List Int)) (w : World) (h : Rows2 w v ls) (hn : ls.length ≤ 1048576) (hlen : totL ls ≤ 1048576) :
    Calls Try.prog 16 #[v] w (RetV w (.int .i64 (totL ls : Nat))) := by
  obtain ⟨b, off, cap, rfl, hc, hb, hcell⟩ := h
  have H := Lib.hid hcell
  clear hcell
  go_enter Try.func16, Try.ntmps16
  go_wp2
  go_loopw [3, 4] (fun n i wr => ∃ k t : Nat, k ≤ ls.length ∧ i = .int .i64 k ∧ n = .int .i64 t ∧ Kept (t = totL (ls.take k)) ∧ wr = w) (fun _ i _ => ls.length - (intOf i).toNat)
  case atStart => exact ⟨0, 0, by omega, rfl, rfl, ⟨by simp [totL]⟩, rfl⟩
  case round =>
    obtain ⟨k, t, hk, rfl, rfl, ht, rfl⟩ := hrel
    by_cases hlt : k < ls.length
    · obtain ⟨x, d, i⟩ := H.out k hlt
      obtain ⟨p, o, c, rfl, _⟩ := i.form
      have hkl : (k : Int) < (ls.length : Int) := by omega
      have h1 := totL_take hlt
      have h2 := totL_mono (ls := ls) (k + 1)
      have h3 := ht.out
      have hst : Kept (t + ls[k].length = totL (ls.take (k + 1))) := ⟨by omega⟩
      have hb : t + ls[k].length ≤ 1048576 := by omega
      obtain ⟨m, hm⟩ : ∃ m, m = ls[k].length := ⟨_, rfl⟩
      rw [← hm] at hb hst d
      clear h1 h2 h3 hm i
      go_wp2
      go_roundw
      case rel => exact ⟨k + 1, t + m, by omega, by go_num, by go_num, hst, by first | rfl | trivial⟩
      case measure => simp [intOf]; omega
    · obtain rfl : k = ls.length := by omega
      have hst : Kept (t = totL ls) := ⟨by rw [ht.out, List.take_length]⟩
      go_wp2
      go_ret
      rw [← hst.out]
      exact ⟨rfl, Below.refl _ _⟩
def eqLL (a b : List (List Int)) : Bool := a == b
theorem eqLL_len {a b : List (List Int)} (h : a.length ≠ b.length) : eqLL a b = false := by
  simp only [eqLL, beq_eq_false_iff_ne]; intro e; exact h (by rw [e])
theorem eqLL_at {a b : List (List Int)} {k : Nat} (h1 : k < a.length) (h2 : k < b.length) (h : eqL a[k] b[k] = false) : eqLL a b = false := by
  simp only [eqLL, beq_eq_false_iff_ne]
  intro e
  subst e
  simp [eqL] at h
theorem eqLL_all {a b : List (List Int)} (hl : a.length = b.length) (h : a.take a.length = b.take a.length) : eqLL a b = true := by
  rw [List.take_length, hl, List.take_length] at h
  simp [eqLL, h]
theorem takeLL {a b : List (List Int)} {k : Nat} (h : a.take k = b.take k) (h1 : k < a.length) (h2 : k < b.length) (he : eqL a[k] b[k] = true) : a.take (k + 1) = b.take (k + 1) := by
  have : a[k] = b[k] := by simpa [eqL] using he
  rw [List.take_succ_eq_append_getElem h1, List.take_succ_eq_append_getElem h2, h, this]
/-- The list holds words of the rank, few and short enough for a graph. -/
def areW (rank : Int) (ls : List (List Int)) : Bool := decide (1 ≤ rank ∧ rank ≤ 3) && (decide (ls.length ≤ 6) && (ls.all (isWord rank) && decide (totL ls < 40)))

theorem equalWordLists_any (v1 v2 : Value) (l1 l2 : List (List Int)) (w : World) (h1 : Rows2 w v1 l1) (h2 : Rows2 w v2 l2) (hn1 : l1.length ≤ 1048576) (ht1 : totL l1 ≤ 1048576) :
    Calls Try.prog 21 #[v1, v2] w (RetV w (.bool (eqLL l1 l2))) := by
  obtain ⟨b1, off1, cap1, rfl, hc1, hb1, hcell1⟩ := h1
  obtain ⟨b2, off2, cap2, rfl, hc2, hb2, hcell2⟩ := h2
  have H1 := Lib.hid hcell1
  have H2 := Lib.hid hcell2
  clear hcell1 hcell2
  by_cases hne : l1.length = l2.length
  case neg =>
    have hn : ((l1.length : Int) != (l2.length : Int)) = true := by simp only [bne_iff_ne]; omega
    rw [eqLL_len hne]
    go_enter Try.func21, Try.ntmps21
    go_wp2
    go_ret
    exact ⟨rfl, Below.refl _ _⟩
  have hn : ((l1.length : Int) != (l2.length : Int)) = false := by simp only [bne_eq_false_iff_eq]; omega
  have HN := Lib.hid hne
  clear hne
  go_enter Try.func21, Try.ntmps21
  go_wp2
  go_loopw [5, 13] (fun _ i wr => ∃ k : Nat, k ≤ l1.length ∧ i = .int .i64 k ∧ Kept (l1.take k = l2.take k) ∧ Below w.heap.size w wr) (fun _ i _ => l1.length - (intOf i).toNat)
  case atStart => exact ⟨0, by omega, rfl, ⟨rfl⟩, Below.refl _ _⟩
  case round =>
    obtain ⟨k, hk, rfl, htk, hbel⟩ := hrel
    by_cases hlt : k < l1.length
    · have hlt2 : k < l2.length := by rw [← HN.out]; exact hlt
      obtain ⟨x1, d1, i1⟩ := H1.out k hlt
      obtain ⟨x2, d2, i2⟩ := H2.out k hlt2
      have c1 := (hbel.cell (p := ⟨b1, off1 + k, none⟩) hb1).trans d1
      have c2 := (hbel.cell (p := ⟨b2, off2 + k, none⟩) hb2).trans d2
      have hrow := totL_row hlt
      have hq := equalWords_any x1 x2 l1[k] l2[k] wr.drew ((i1.keep hbel).keep (Below.refl _ _).drew) ((i2.keep hbel).keep (Below.refl _ _).drew) (by omega)
      obtain ⟨y, hy⟩ : ∃ y, y = eqL l1[k] l2[k] := ⟨_, rfl⟩
      rw [← hy] at hq
      have hkl : (k : Int) < (l1.length : Int) := by omega
      have hkl2 : (k : Int) < (l2.length : Int) := by omega
      obtain ⟨p1, o1, k1, rfl, _⟩ := i1.form
      obtain ⟨p2, o2, k2, rfl, _⟩ := i2.form
      have HQ := Lib.hid hq
      clear d1 d2 i1 i2 hrow hq
      cases y with
      | true =>
        have hst : Kept (l1.take (k + 1) = l2.take (k + 1)) := ⟨takeLL htk.out hlt hlt2 hy.symm⟩
        clear hy
        go_wp2
        go_region_law (go_simp; go_at_call 50; refine (HQ.out).mono ?_; rintro e w2 ⟨rfl, hb⟩)
        all_goals
          go_wp2
          go_roundw
          case rel => exact ⟨k + 1, by omega, by go_num, hst, hbel.drew.trans (hb.mono hbel.drew.size)⟩
          case measure => simp [intOf]; omega
      | false =>
        have hst : Kept (eqLL l1 l2 = false) := ⟨eqLL_at hlt hlt2 hy.symm⟩
        clear hy
        go_wp2
        go_region_law (go_simp; go_at_call 50; refine (HQ.out).mono ?_; rintro e w2 ⟨rfl, hb⟩)
        all_goals
          go_wp2
          go_ret
          rw [hst.out]
          exact ⟨rfl, hbel.drew.trans (hb.mono hbel.drew.size)⟩
    · obtain rfl : k = l1.length := by omega
      have hst : Kept (eqLL l1 l2 = true) := ⟨eqLL_all HN.out htk.out⟩
      go_wp2
      go_ret
      rw [hst.out]
      exact ⟨rfl, hbel⟩

theorem equalWordListsS_any (v1 v2 : Value) (l1 l2 : List (List Int)) (w : World) (h1 : Rows2 w v1 l1) (h2 : Rows2 w v2 l2) (hn1 : l1.length ≤ 1048576) (ht1 : totL l1 ≤ 1048576) :
    Calls Try.prog 20 #[v1, v2] w (RetV w (.bool (eqLL l1 l2))) := by
  obtain ⟨b1, off1, cap1, rfl, hc1, hb1, hcell1⟩ := h1
  obtain ⟨b2, off2, cap2, rfl, hc2, hb2, hcell2⟩ := h2
  have H1 := Lib.hid hcell1
  have H2 := Lib.hid hcell2
  clear hcell1 hcell2
  by_cases hne : l1.length = l2.length
  case neg =>
    have hn : ((l1.length : Int) != (l2.length : Int)) = true := by simp only [bne_iff_ne]; omega
    rw [eqLL_len hne]
    go_enter Try.func20, Try.ntmps20
    go_wp2
    go_ret
    exact ⟨rfl, Below.refl _ _⟩
  have hn : ((l1.length : Int) != (l2.length : Int)) = false := by simp only [bne_eq_false_iff_eq]; omega
  have HN := Lib.hid hne
  clear hne
  go_enter Try.func20, Try.ntmps20
  go_wp2
  go_loopw [5] (fun i wr => ∃ k : Nat, k ≤ l1.length ∧ i = .int .i64 k ∧ Kept (l1.take k = l2.take k) ∧ Below w.heap.size w wr) (fun i _ => l1.length - (intOf i).toNat)
  case atStart => exact ⟨0, by omega, rfl, ⟨rfl⟩, Below.refl _ _⟩
  case round =>
    obtain ⟨k, hk, rfl, htk, hbel⟩ := hrel
    by_cases hlt : k < l1.length
    · have hlt2 : k < l2.length := by rw [← HN.out]; exact hlt
      obtain ⟨x1, d1, i1⟩ := H1.out k hlt
      obtain ⟨x2, d2, i2⟩ := H2.out k hlt2
      have c1 := (hbel.cell (p := ⟨b1, off1 + k, none⟩) hb1).trans d1
      have c2 := (hbel.cell (p := ⟨b2, off2 + k, none⟩) hb2).trans d2
      have hrow := totL_row hlt
      have hq := equalWordsS_any x1 x2 l1[k] l2[k] wr.drew ((i1.keep hbel).keep (Below.refl _ _).drew) ((i2.keep hbel).keep (Below.refl _ _).drew) (by omega)
      obtain ⟨y, hy⟩ : ∃ y, y = eqL l1[k] l2[k] := ⟨_, rfl⟩
      rw [← hy] at hq
      have hkl : (k : Int) < (l1.length : Int) := by omega
      have hkl2 : (k : Int) < (l2.length : Int) := by omega
      obtain ⟨p1, o1, k1, rfl, _⟩ := i1.form
      obtain ⟨p2, o2, k2, rfl, _⟩ := i2.form
      have HQ := Lib.hid hq
      clear d1 d2 i1 i2 hrow hq
      cases y with
      | true =>
        have hst : Kept (l1.take (k + 1) = l2.take (k + 1)) := ⟨takeLL htk.out hlt hlt2 hy.symm⟩
        clear hy
        go_wp2
        go_region_law (go_simp; go_at_call 49; refine (HQ.out).mono ?_; rintro e w2 ⟨rfl, hb⟩)
        all_goals
          go_wp2
          go_roundw
          case rel => exact ⟨k + 1, by omega, by go_num, hst, hbel.drew.trans (hb.mono hbel.drew.size)⟩
          case measure => simp [intOf]; omega
      | false =>
        have hst : Kept (eqLL l1 l2 = false) := ⟨eqLL_at hlt hlt2 hy.symm⟩
        clear hy
        go_wp2
        go_region_law (go_simp; go_at_call 49; refine (HQ.out).mono ?_; rintro e w2 ⟨rfl, hb⟩)
        all_goals
          go_wp2
          go_ret
          rw [hst.out]
          exact ⟨rfl, hbel.drew.trans (hb.mono hbel.drew.size)⟩
    · obtain rfl : k = l1.length := by omega
      have hst : Kept (eqLL l1 l2 = true) := ⟨eqLL_all HN.out htk.out⟩
      go_wp2
      go_ret
      rw [hst.out]
      exact ⟨rfl, hbel⟩
end Go.Proofs.Ytopelbcikbkdbaa
