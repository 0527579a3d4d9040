/- Contracts of EqualWords, CommutatorOf, ConjugateWord, DoCommute. Conditions: words of at most 2^24 letters. -/
import Derived.Test.YtbghnllflfcfhaaWordB
import Derived.Test.YtbghnllflfcfhaaArgs
namespace Go.Proofs.Ytbghnllflfcfhaa
open Go.RowKit

/-- Whether two lists are the same. -/
def eqL (l1 l2 : List Int) : Bool := l1 == l2
theorem eqL_len {l1 l2 : List Int} (h : l1.length ≠ l2.length) : eqL l1 l2 = false := by
  simp only [eqL, beq_eq_false_iff_ne, ne_eq]
  exact fun e => h (by rw [e])
theorem eqL_at {l1 l2 : List Int} {k : Nat} (h1 : k < l1.length) (h2 : k < l2.length) (h : l1[k] ≠ l2[k]) : eqL l1 l2 = false := by
  simp only [eqL, beq_eq_false_iff_ne, ne_eq]
  rintro rfl
  exact h rfl
theorem eqL_all {l1 l2 : List Int} (hl : l1.length = l2.length) (h : l1.take l1.length = l2.take l1.length) : eqL l1 l2 = true := by
  rw [List.take_length, hl, List.take_length] at h
  simp [eqL, h]
theorem take_same {l1 l2 : List Int} {k : Nat} (h : l1.take k = l2.take k) (h1 : k < l1.length) (h2 : k < l2.length) (he : l1[k] = l2[k]) : l1.take (k + 1) = l2.take (k + 1) := by
  rw [List.take_succ_eq_append_getElem h1, List.take_succ_eq_append_getElem h2, h, he]

theorem equalWords_any (v1 v2 : Value) (l1 l2 : List Int) (w : World) (h1 : Ints w v1 l1) (h2 : Ints w v2 l2) (hn1 : l1.length ≤ 134217728) :
    Calls Try.prog 53 #[v1, v2] w (RetV w (.bool (eqL l1 l2))) := by
  obtain ⟨b1, off1, cap1, rfl, hc1, hb1, hcell1, _⟩ := h1
  obtain ⟨b2, off2, cap2, rfl, hc2, hb2, hcell2, _⟩ := h2
  have H1 := Lib.hid hcell1
  have H2 := Lib.hid hcell2
  clear hcell1 hcell2
  by_cases hl : l1.length = l2.length
  case neg =>
    rw [eqL_len hl]
    have hd : ((l1.length : Int) != (l2.length : Int)) = true := by simp; omega
    go_enter Try.func53, Try.ntmps53
    go_wp2
    go_ret
    exact ⟨rfl, Below.refl _ _⟩
  have hlk : Kept _ := ⟨hl⟩
  have hl2 : l1.length ≤ l2.length := by omega
  rw [← hl]
  clear hl
  go_enter Try.func53, Try.ntmps53
  go_wp2
  go_loopw [13, 5] (fun i _ wr => ∃ k : Nat, k ≤ l1.length ∧ i = .int .i64 k ∧ Kept (l1.take k = l2.take k) ∧ ∃ n, wr = w.drewN n) (fun i _ _ => l1.length - (intOf i).toNat)
  case atStart => exact ⟨0, by omega, rfl, ⟨by simp⟩, 0, rfl⟩
  case round =>
    obtain ⟨k, hk, rfl, hkk, n, rfl⟩ := hrel
    by_cases hlt : k < l1.length
    · have hlt2 : k < l2.length := by omega
      have hkl : (k : Int) < (l1.length : Int) := by omega
      have e1 : w.cell? ⟨b1, off1 + k, none⟩ = some (.int .i64 l1[k]) := H1.out k hlt
      have e2 : w.cell? ⟨b2, off2 + k, none⟩ = some (.int .i64 l2[k]) := H2.out k hlt2
      by_cases he : l1[k] = l2[k]
      · have hk2 : Kept _ := ⟨take_same hkk.out hlt hlt2 he⟩
        have hd : (l1[k] != l2[k]) = false := by simp [he]
        clear he hkk
        go_wp2
        go_quiet (fail)
        go_wp2
        go_roundw
        case rel => exact ⟨k + 1, by omega, by go_num, hk2, n + nq, rfl⟩
        case measure => simp [intOf]; omega
      · rw [eqL_at hlt hlt2 he]
        have hd : (l1[k] != l2[k]) = true := by simp [he]
        clear he hkk
        go_wp2
        go_quiet (fail)
        go_wp2
        go_ret
        exact ⟨rfl, below_drewN _ (below_drewN _ (Below.refl _ _))⟩
    · obtain rfl : k = l1.length := by omega
      have hall : eqL l1 l2 = true := eqL_all hlk.out hkk.out
      go_wp2
      go_ret
      exact ⟨by rw [hall]; rfl, below_drewN _ (Below.refl _ _)⟩
theorem equalWordsS_any (v1 v2 : Value) (l1 l2 : List Int) (w : World) (h1 : Ints w v1 l1) (h2 : Ints w v2 l2) (hn1 : l1.length ≤ 134217728) :
    Calls Try.prog 54 #[v1, v2] w (RetV w (.bool (eqL l1 l2))) := by
  obtain ⟨b1, off1, cap1, rfl, hc1, hb1, hcell1, _⟩ := h1
  obtain ⟨b2, off2, cap2, rfl, hc2, hb2, hcell2, _⟩ := h2
  have H1 := Lib.hid hcell1
  have H2 := Lib.hid hcell2
  clear hcell1 hcell2
  by_cases hl : l1.length = l2.length
  case neg =>
    rw [eqL_len hl]
    have hd : ((l1.length : Int) != (l2.length : Int)) = true := by simp; omega
    go_enter Try.func54, Try.ntmps54
    go_wp2
    go_ret
    exact ⟨rfl, Below.refl _ _⟩
  have hlk : Kept _ := ⟨hl⟩
  have hl2 : l1.length ≤ l2.length := by omega
  rw [← hl]
  clear hl
  go_enter Try.func54, Try.ntmps54
  go_wp2
  go_loopw [5] (fun i wr => ∃ k : Nat, k ≤ l1.length ∧ i = .int .i64 k ∧ Kept (l1.take k = l2.take k) ∧ ∃ n, wr = w.drewN n) (fun i _ => l1.length - (intOf i).toNat)
  case atStart => exact ⟨0, by omega, rfl, ⟨by simp⟩, 0, rfl⟩
  case round =>
    obtain ⟨k, hk, rfl, hkk, n, rfl⟩ := hrel
    by_cases hlt : k < l1.length
    · have hlt2 : k < l2.length := by omega
      have hkl : (k : Int) < (l1.length : Int) := by omega
      have e1 : w.cell? ⟨b1, off1 + k, none⟩ = some (.int .i64 l1[k]) := H1.out k hlt
      have e2 : w.cell? ⟨b2, off2 + k, none⟩ = some (.int .i64 l2[k]) := H2.out k hlt2
      by_cases he : l1[k] = l2[k]
      · have hk2 : Kept _ := ⟨take_same hkk.out hlt hlt2 he⟩
        have hd : (l1[k] != l2[k]) = false := by simp [he]
        clear he hkk
        go_wp2
        go_quiet (fail)
        go_wp2
        go_roundw
        case rel => exact ⟨k + 1, by omega, by go_num, hk2, n + nq, rfl⟩
        case measure => simp [intOf]; omega
      · rw [eqL_at hlt hlt2 he]
        have hd : (l1[k] != l2[k]) = true := by simp [he]
        clear he hkk
        go_wp2
        go_quiet (fail)
        go_wp2
        go_ret
        exact ⟨rfl, below_drewN _ (below_drewN _ (Below.refl _ _))⟩
    · obtain rfl : k = l1.length := by omega
      have hall : eqL l1 l2 = true := eqL_all hlk.out hkk.out
      go_wp2
      go_ret
      exact ⟨by rw [hall]; rfl, below_drewN _ (Below.refl _ _)⟩

theorem comm_red (a b : List Int) : red (red (a ++ b) ++ red (invW a ++ invW b)) = red (a ++ b ++ invW a ++ invW b) := by
  rw [red_append_red, red_red_append]; simp
theorem commutatorOf_any (v1 v2 : Value) (l1 l2 : List Int) (w : World) (h1 : Ints w v1 l1) (h2 : Ints w v2 l2) (hn1 : l1.length ≤ 16777216) (hn2 : l2.length ≤ 16777216) :
    Calls Try.prog 29 #[v1, v2] w (RetI w (red (l1 ++ l2 ++ invW l1 ++ invW l2))) := by
  obtain ⟨b1, off1, cap1, rfl, hb1, hcap1⟩ := h1.form
  obtain ⟨b2, off2, cap2, rfl, hb2, hcap2⟩ := h2.form
  go_enter Try.func29, Try.ntmps29
  go_wp2_with fail
  refine (invertWord_any _ _ _ h1 (by omega)).mono ?_
  rintro e w1 ⟨v3, rfl, o3, hb⟩
  have i1 := h1.keep hb
  have i2 := h2.keep hb
  have hB := hb
  clear hb
  go_wp2_with fail
  refine (invertWord_any _ _ _ i2 (by omega)).mono ?_
  rintro e w2 ⟨v4, rfl, o4, hb⟩
  replace i1 := i1.keep hb
  replace i2 := i2.keep hb
  replace o3 := o3.keep hb
  replace hB := hB.trans (hb.mono hB.size)
  clear hb
  obtain ⟨g3, c3, rfl, _⟩ := id o3
  obtain ⟨g4, c4, rfl, _⟩ := id o4
  have hR := rows2_four 22 i1 i2 o3.ints o4.ints
  have hc := product_any _ _ _ hR (by simp) (by simp [invW_length]; omega)
  go_wp2_with fail
  refine hc.mono ?_
  rintro e w5 ⟨v5, rfl, hr⟩
  go_wp2
  go_ret
  have hr : RetI _ _ (.returned v5) w5 := ⟨v5, rfl, hr⟩
  simpa using RetI.from (hB.alloc hB.size _) hr
theorem commutatorOfS_any (v1 v2 : Value) (l1 l2 : List Int) (w : World) (h1 : Ints w v1 l1) (h2 : Ints w v2 l2) (hn1 : l1.length ≤ 16777216) (hn2 : l2.length ≤ 16777216) :
    Calls Try.prog 30 #[v1, v2] w (RetI w (red (l1 ++ l2 ++ invW l1 ++ invW l2))) := by
  go_enter Try.func30, Try.ntmps30
  go_wp2_with fail
  refine (multiplyWordsS_any _ _ _ _ _ h1 h2 (by omega) (by omega)).mono ?_
  rintro e w1 ⟨v3, rfl, o3, hb⟩
  have i1 := h1.keep hb
  have i2 := h2.keep hb
  have hB := hb
  clear hb
  go_wp2_with fail
  refine (invertWordS_any _ _ _ i1 (by omega)).mono ?_
  rintro e w2 ⟨v4, rfl, o4, hb⟩
  replace i2 := i2.keep hb
  replace o3 := o3.keep hb
  replace hB := hB.trans (hb.mono hB.size)
  clear hb
  go_wp2_with fail
  refine (invertWordS_any _ _ _ i2 (by omega)).mono ?_
  rintro e w3 ⟨v5, rfl, o5, hb⟩
  replace o3 := o3.keep hb
  replace o4 := o4.keep hb
  replace hB := hB.trans (hb.mono hB.size)
  clear hb
  have n1 := red_length (l1 ++ l2)
  have n2 := red_length (invW l1 ++ invW l2)
  simp only [List.length_append, invW_length] at n1 n2
  have N1 := Lib.hid n1
  have N2 := Lib.hid n2
  clear n1 n2
  go_wp2_with fail
  refine (multiplyWordsS_any _ _ _ _ _ o4.ints o5.ints (by rw [invW_length]; omega) (by rw [invW_length]; omega)).mono ?_
  rintro e w4 ⟨v6, rfl, o6, hb⟩
  replace o3 := o3.keep hb
  replace hB := hB.trans (hb.mono hB.size)
  clear hb
  go_wp2_with fail
  refine (multiplyWordsS_any _ _ _ _ _ o3.ints o6.ints (by have := N1.out; omega) (by have := N2.out; omega)).mono ?_
  rintro e w5 ⟨v7, rfl, o7, hb⟩
  go_wp2
  go_ret
  rw [← comm_red]
  exact RetI.from hB ⟨v7, rfl, o7, hb⟩
theorem conj_red (a b : List Int) : red (red (invW b ++ a) ++ b) = red (invW b ++ a ++ b) := by rw [red_red_append]
theorem conjugateWord_any (v1 v2 : Value) (l1 l2 : List Int) (w : World) (h1 : Ints w v1 l1) (h2 : Ints w v2 l2) (hn1 : l1.length ≤ 16777216) (hn2 : l2.length ≤ 16777216) :
    Calls Try.prog 31 #[v1, v2] w (RetI w (red (invW l2 ++ l1 ++ l2))) := by
  obtain ⟨b1, off1, cap1, rfl, hb1, hcap1⟩ := h1.form
  obtain ⟨b2, off2, cap2, rfl, hb2, hcap2⟩ := h2.form
  go_enter Try.func31, Try.ntmps31
  go_wp2_with fail
  refine (invertWord_any _ _ _ h2 (by omega)).mono ?_
  rintro e w1 ⟨v3, rfl, o3, hb⟩
  have i1 := h1.keep hb
  have i2 := h2.keep hb
  have hB := hb
  clear hb
  obtain ⟨g3, c3, rfl, _⟩ := id o3
  have hR := rows2_three 22 o3.ints i1 i2
  have hc := product_any _ _ _ hR (by simp) (by simp [invW_length]; omega)
  go_wp2_with fail
  refine hc.mono ?_
  rintro e w5 ⟨v5, rfl, hr⟩
  go_wp2
  go_ret
  have hr : RetI _ _ (.returned v5) w5 := ⟨v5, rfl, hr⟩
  simpa using RetI.from (hB.alloc hB.size _) hr
theorem conjugateWordS_any (v1 v2 : Value) (l1 l2 : List Int) (w : World) (h1 : Ints w v1 l1) (h2 : Ints w v2 l2) (hn1 : l1.length ≤ 16777216) (hn2 : l2.length ≤ 16777216) :
    Calls Try.prog 32 #[v1, v2] w (RetI w (red (invW l2 ++ l1 ++ l2))) := by
  go_enter Try.func32, Try.ntmps32
  go_wp2_with fail
  refine (invertWordS_any _ _ _ h2 (by omega)).mono ?_
  rintro e w1 ⟨v3, rfl, o3, hb⟩
  have i1 := h1.keep hb
  have i2 := h2.keep hb
  have hB := hb
  clear hb
  have n1 := red_length (invW l2 ++ l1)
  simp only [List.length_append, invW_length] at n1
  have N1 := Lib.hid n1
  clear n1
  go_wp2_with fail
  refine (multiplyWordsS_any _ _ _ _ _ o3.ints i1 (by rw [invW_length]; omega) (by omega)).mono ?_
  rintro e w2 ⟨v4, rfl, o4, hb⟩
  replace i2 := i2.keep hb
  replace hB := hB.trans (hb.mono hB.size)
  clear hb
  go_wp2_with fail
  refine (multiplyWordsS_any _ _ _ _ _ o4.ints i2 (by have := N1.out; omega) (by omega)).mono ?_
  rintro e w5 ⟨v7, rfl, o7, hb⟩
  go_wp2
  go_ret
  rw [← conj_red]
  exact RetI.from hB ⟨v7, rfl, o7, hb⟩
theorem doCommute_any (v1 v2 : Value) (l1 l2 : List Int) (w : World) (h1 : Ints w v1 l1) (h2 : Ints w v2 l2) (hn1 : l1.length ≤ 16777216) (hn2 : l2.length ≤ 16777216) :
    Calls Try.prog 41 #[v1, v2] w (RetV w (.bool (eqL (red (l1 ++ l2)) (red (l2 ++ l1))))) := by
  obtain ⟨b1, off1, cap1, rfl, hb1, hcap1⟩ := h1.form
  obtain ⟨b2, off2, cap2, rfl, hb2, hcap2⟩ := h2.form
  have hR := rows2_two 22 h1 h2
  have hc := product_any _ _ _ hR (by simp) (by simp; omega)
  have hl12 : red [l1, l2].flatten = red (l1 ++ l2) := by simp
  rw [hl12] at hc
  clear hl12
  go_enter Try.func41, Try.ntmps41
  go_wp2_with fail
  refine hc.mono ?_
  rintro e w1 ⟨v3, rfl, o3, hb⟩
  have hB := ((Below.refl w.heap.size w).alloc (Nat.le_refl _) (.cells #[.slice (some ⟨b1, off1, none⟩) l1.length cap1, .slice (some ⟨b2, off2, none⟩) l2.length cap2] 22 (0, 0))).trans (hb.mono (by simp))
  clear hc hR hb
  have i1 := h1.keep hB
  have i2 := h2.keep hB
  have hR := rows2_two 22 i2 i1
  have hc := product_any _ _ _ hR (by simp) (by simp; omega)
  have hl12 : red [l2, l1].flatten = red (l2 ++ l1) := by simp
  rw [hl12] at hc
  clear hl12
  go_wp2_with fail
  refine hc.mono ?_
  rintro e w2 ⟨v4, rfl, o4, hb⟩
  replace o3 := (o3.keep ((Below.refl w1.heap.size w1).alloc (Nat.le_refl _) (.cells #[.slice (some ⟨b2, off2, none⟩) l2.length cap2, .slice (some ⟨b1, off1, none⟩) l1.length cap1] 22 (0, 0)))).keep hb
  replace hB := (hB.alloc hB.size (.cells #[.slice (some ⟨b2, off2, none⟩) l2.length cap2, .slice (some ⟨b1, off1, none⟩) l1.length cap1] 22 (0, 0))).trans (hb.mono (by have := hB.size; simp; omega))
  clear hc hR hb i1 i2
  have n1 := red_length (l1 ++ l2)
  simp only [List.length_append] at n1
  have N1 := Lib.hid n1
  clear n1
  go_wp2_with fail
  refine (equalWords_any _ _ _ _ _ o3.ints o4.ints (by have := N1.out; omega)).mono ?_
  rintro e w3 ⟨rfl, hb⟩
  go_wp2
  go_ret
  exact ⟨rfl, hB.trans (hb.mono hB.size)⟩
theorem doCommuteS_any (v1 v2 : Value) (l1 l2 : List Int) (w : World) (h1 : Ints w v1 l1) (h2 : Ints w v2 l2) (hn1 : l1.length ≤ 16777216) (hn2 : l2.length ≤ 16777216) :
    Calls Try.prog 42 #[v1, v2] w (RetV w (.bool (eqL (red (l1 ++ l2)) (red (l2 ++ l1))))) := by
  go_enter Try.func42, Try.ntmps42
  go_wp2_with fail
  refine (multiplyWordsS_any _ _ _ _ _ h1 h2 (by omega) (by omega)).mono ?_
  rintro e w1 ⟨v3, rfl, o3, hb⟩
  have i1 := h1.keep hb
  have i2 := h2.keep hb
  have hB := hb
  clear hb
  go_wp2_with fail
  refine (multiplyWordsS_any _ _ _ _ _ i2 i1 (by omega) (by omega)).mono ?_
  rintro e w2 ⟨v4, rfl, o4, hb⟩
  replace o3 := o3.keep hb
  replace hB := hB.trans (hb.mono hB.size)
  clear hb
  have n1 := red_length (l1 ++ l2)
  simp only [List.length_append] at n1
  have N1 := Lib.hid n1
  clear n1
  go_wp2_with fail
  refine (equalWordsS_any _ _ _ _ _ o3.ints o4.ints (by have := N1.out; omega)).mono ?_
  rintro e w3 ⟨rfl, hb⟩
  go_wp2
  go_ret
  exact ⟨rfl, hB.trans (hb.mono hB.size)⟩
end Go.Proofs.Ytbghnllflfcfhaa
