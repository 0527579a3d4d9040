/- Contracts of AreConjugate. Conditions: words of at most 2^22 letters. -/
import Derived.Test.YtbghnllflfcfhaaCycE
namespace Go.Proofs.Ytbghnllflfcfhaa
open Go.RowKit

set_option maxHeartbeats 1600000 in
theorem areConjugate_any (va vb : Value) (la lb : List Int) (w : World) (ha : Ints w va la) (hb : Ints w vb lb) (na : la.length ≤ 4194304) (nb : lb.length ≤ 4194304) :
    Calls Try.prog 60 #[va, vb] w (RetI2 w (conjW la lb) (.bool (conjOk la lb))) := by
  have hca := cyclicCore_any va la w ha (by omega)
  have hcb : ∀ W, Ints W vb lb → Calls Try.prog 56 #[vb] W (RetII W (coreX (red lb)) (coreP (red lb))) := fun W h => cyclicCore_any vb lb W h (by omega)
  have hlen := red_length la
  have hlen2 := red_length lb
  have hs1 := @conj_len la lb
  have hs2 := @conj_nil la lb
  have hs3 := @conj_no la lb
  have hs4 : ∀ k, _ → _ → _ → _ := fun k => @conj_yes la lb k
  have hat : conjAt la lb = conjK (coreX (red la)) (coreX (red lb)) := rfl
  obtain ⟨at_, hat0⟩ : ∃ n, n = conjAt la lb := ⟨_, rfl⟩
  obtain ⟨x, hx⟩ : ∃ c, c = coreX (red la) := ⟨_, rfl⟩
  obtain ⟨p, hp⟩ : ∃ p, p = coreP (red la) := ⟨_, rfl⟩
  obtain ⟨y, hy⟩ : ∃ c, c = coreX (red lb) := ⟨_, rfl⟩
  obtain ⟨q, hq⟩ : ∃ p, p = coreP (red lb) := ⟨_, rfl⟩
  have hxl : x.length ≤ 4194304 := by rw [hx, coreX_length]; omega
  have hyl : y.length ≤ 4194304 := by rw [hy, coreX_length]; omega
  have hpl : p.length ≤ 4194304 := by have := coreN_le (red la); rw [hp, coreP_length]; omega
  have hql : q.length ≤ 4194304 := by have := coreN_le (red lb); rw [hq, coreP_length]; omega
  rw [← hx, ← hp] at hca
  rw [← hy, ← hq] at hcb
  rw [← hx, ← hy, ← hat0] at hat
  rw [← hx, ← hy] at hs1
  rw [← hx, ← hy] at hs2
  rw [← hx, ← hat0] at hs3
  rw [← hx, ← hy, ← hp, ← hq, ← hat0] at hs4
  have HA := Lib.hid hca
  have HB := Lib.hid hcb
  have H1 := Lib.hid hs1
  have H2 := Lib.hid hs2
  have H3 := Lib.hid hs3
  have H4 := Lib.hid hs4
  have HT := Lib.hid hat
  clear hca hcb hs1 hs2 hs3 hs4 hat hx hp hy hq hat0 hlen hlen2
  go_enter Try.func60, Try.ntmps60
  go_wp2_with fail
  refine (HA.out).mono ?_
  rintro e w1 ⟨v1, v2, rfl, o1, o2, _, hB⟩
  go_wp2_with fail
  refine (HB.out _ (hb.keep hB)).mono ?_
  rintro e w2 ⟨v3, v4, rfl, o3, o4, _, hB2⟩
  have i1 := o1.ints.keep hB2
  have i2 := o2.ints.keep hB2
  have i3 := o3.ints
  have i4 := o4.ints
  replace hB := hB.trans (hB2.mono hB.size)
  obtain ⟨b1, off1, cap1, rfl, hb1, hcap1⟩ := i1.form
  obtain ⟨b2, off2, cap2, rfl, hb2, hcap2⟩ := i2.form
  obtain ⟨b3, off3, cap3, rfl, hb3, hcap3⟩ := i3.form
  clear o1 o2 o3 o4 hB2 ha hb
  by_cases hne : x.length = y.length
  case neg =>
    have hn2 : ((x.length : Int) != (y.length : Int)) = true := by simp only [bne_iff_ne]; omega
    go_wp2
    go_ret2
    rw [(H1.out hne).1, (H1.out hne).2]
    exact RetI2.mk rfl (World.ownsRow_made _ _ _ hB.size (by decide) rfl) (by simp) (hB.alloc hB.size _)
  have hn2 : ((x.length : Int) != (y.length : Int)) = false := by simp only [bne_eq_false_iff_eq]; omega
  have HN := Lib.hid hne
  clear hne
  by_cases hx0 : x.length = 0
  case pos =>
    have hy0 : ((x.length : Int) == 0) = true := by simp only [beq_iff_eq]; omega
    have HX := Lib.hid hx0
    clear hx0
    go_wp2
    go_ret2
    rw [(H2.out HN.out HX.out).1, (H2.out HN.out HX.out).2]
    exact RetI2.mk rfl (World.ownsRow_made _ _ _ hB.size (by decide) rfl) (by simp) (hB.alloc hB.size _)
  have hx1 : ((x.length : Int) == 0) = false := by simp only [beq_eq_false_iff_ne]; omega
  go_wp2
  go_loopw [10, 33] (fun _ fr wr => ∃ (k : Nat), fr = .int .i64 k ∧ k ≤ x.length ∧ Kept (at_ = conjGo x y (x.length - k) k) ∧ Below w2.heap.size w2 wr)
    (fun _ fr _ => x.length - (intOf fr).toNat)
  case atStart => exact ⟨0, rfl, by omega, ⟨HT.out⟩, Below.refl _ _⟩
  case round =>
    obtain ⟨k, rfl, hk, hgo, hbel⟩ := hrel
    by_cases hlt : k < x.length
    · have hlI : (k : Int) < (x.length : Int) := by omega
      have j1 := i1.keep hbel
      have j2 := i2.keep hbel
      have j3 := i3.keep hbel
      have j4 := i4.keep hbel
      have hrot := rotateWord_any _ _ (k : Int) wr j1 (by omega)
      have HR := Lib.hid hrot
      clear hrot
      go_wp2_with fail
      refine (HR.out).mono ?_
      rintro e w3 ⟨v5, rfl, o5, hb⟩
      replace j1 := j1.keep hb
      replace j2 := j2.keep hb
      replace j3 := j3.keep hb
      replace j4 := j4.keep hb
      have hbel2 := hbel.trans (hb.mono hbel.size)
      clear hb
      have hew := equalWords_any _ _ _ _ _ o5.ints j3 (by rw [rotL_length]; omega)
      obtain ⟨t, ht⟩ : ∃ t, t = eqL (rotL x (rotK (k : Int) x.length)) y := ⟨_, rfl⟩
      rw [← ht] at hew
      have HE := Lib.hid hew
      clear hew
      go_wp2_with fail
      refine (HE.out).mono ?_
      rintro e w4 ⟨rfl, hb⟩
      replace j1 := j1.keep hb
      replace j2 := j2.keep hb
      replace j4 := j4.keep hb
      replace hbel2 := hbel2.trans (hb.mono hbel2.size)
      clear hb o5 j3
      cases t with
      | true =>
        have hz : Kept (conjW la lb = red (p ++ x.take k ++ invW q) ∧ conjOk la lb = true) := ⟨H4.out k HN.out (by rw [hgo.out, show x.length - k = (x.length - k - 1) + 1 by omega, conjGo_yes ht.symm]) hlt⟩
        clear hgo ht
        have hcut := j1.cut 0 k (by omega) (by omega) cap1 (by omega)
        simp only [Nat.add_zero, Nat.sub_zero, List.drop_zero] at hcut
        have hdc2 : k ≤ cap1 := by omega
        have hR := (Below.refl w4.heap.size w4).drew
        go_wp2
        go_region_law (first
          | (go_simp; go_at_call 21; refine (invertWord_any _ _ _ (j4.keep hR) (by omega)).mono ?_; rintro e w5 ⟨v6, rfl, o6, hb⟩; have hR2 := hR.trans (hb.mono hR.size); clear hb; obtain ⟨g5, c5, rfl, _⟩ := id o6; have hR3 := rows2_three 22 (j2.keep hR2) (hcut.keep hR2) o6.ints; have hpr := product_any _ _ _ hR3 (by simp) (by simp [invW_length]; omega))
          | (go_simp; go_at_call 69; refine hpr.mono ?_; rintro e w6 ⟨v6, rfl, hr⟩))
        all_goals
          go_wp2
          go_ret2
          rw [hz.out.1, hz.out.2]
          have hBt := hB.trans ((hbel2.trans (hR2.mono hbel2.size)).mono hB.size)
          have hr' : RetI _ _ (.returned v6) w6 := ⟨v6, rfl, hr⟩
          obtain ⟨v7, hv, ho, hbt⟩ := RetI.from (hBt.alloc hBt.size _) hr'
          cases hv
          have ho2 : OwnI w6 w.heap.size v6 (red (p ++ x.take k ++ invW q)) := by
            rw [List.append_assoc]
            simpa using ho
          exact ⟨v6, rfl, ho2, hbt⟩
      | false =>
        have hk2 : Kept (at_ = conjGo x y (x.length - (k + 1)) (k + 1)) := ⟨by rw [hgo.out, show x.length - k = (x.length - (k + 1)) + 1 by omega, conjGo_no ht.symm]⟩
        clear hgo ht
        go_wp2
        go_roundw
        case rel => exact ⟨k + 1, by go_num, by omega, hk2, hbel2⟩
        case measure => simp [intOf]; omega
    · obtain rfl : k = x.length := by omega
      have hz : Kept (conjW la lb = [] ∧ conjOk la lb = false) := ⟨H3.out hx0 (by rw [hgo.out, Nat.sub_self]; rfl)⟩
      clear hgo
      go_wp2
      go_ret2
      rw [hz.out.1, hz.out.2]
      have hBB := hB.trans (hbel.mono hB.size)
      exact RetI2.mk rfl (World.ownsRow_made _ _ _ hBB.size (by decide) rfl) (by simp) (hBB.alloc hBB.size _)
set_option maxHeartbeats 1600000 in
theorem areConjugateS_any (va vb : Value) (la lb : List Int) (w : World) (ha : Ints w va la) (hb : Ints w vb lb) (na : la.length ≤ 4194304) (nb : lb.length ≤ 4194304) :
    Calls Try.prog 61 #[va, vb] w (RetI2 w (conjW la lb) (.bool (conjOk la lb))) := by
  have hca := cyclicCoreS_any va la w ha (by omega)
  have hcb : ∀ W, Ints W vb lb → Calls Try.prog 57 #[vb] W (RetII W (coreX (red lb)) (coreP (red lb))) := fun W h => cyclicCoreS_any vb lb W h (by omega)
  have hlen := red_length la
  have hlen2 := red_length lb
  have hs1 := @conj_len la lb
  have hs2 := @conj_nil la lb
  have hs3 := @conj_no la lb
  have hs4 : ∀ k, _ → _ → _ → _ := fun k => @conj_yes la lb k
  have hat : conjAt la lb = conjK (coreX (red la)) (coreX (red lb)) := rfl
  obtain ⟨at_, hat0⟩ : ∃ n, n = conjAt la lb := ⟨_, rfl⟩
  obtain ⟨x, hx⟩ : ∃ c, c = coreX (red la) := ⟨_, rfl⟩
  obtain ⟨p, hp⟩ : ∃ p, p = coreP (red la) := ⟨_, rfl⟩
  obtain ⟨y, hy⟩ : ∃ c, c = coreX (red lb) := ⟨_, rfl⟩
  obtain ⟨q, hq⟩ : ∃ p, p = coreP (red lb) := ⟨_, rfl⟩
  have hxl : x.length ≤ 4194304 := by rw [hx, coreX_length]; omega
  have hyl : y.length ≤ 4194304 := by rw [hy, coreX_length]; omega
  have hpl : p.length ≤ 4194304 := by have := coreN_le (red la); rw [hp, coreP_length]; omega
  have hql : q.length ≤ 4194304 := by have := coreN_le (red lb); rw [hq, coreP_length]; omega
  rw [← hx, ← hp] at hca
  rw [← hy, ← hq] at hcb
  rw [← hx, ← hy, ← hat0] at hat
  rw [← hx, ← hy] at hs1
  rw [← hx, ← hy] at hs2
  rw [← hx, ← hat0] at hs3
  rw [← hx, ← hy, ← hp, ← hq, ← hat0] at hs4
  have HA := Lib.hid hca
  have HB := Lib.hid hcb
  have H1 := Lib.hid hs1
  have H2 := Lib.hid hs2
  have H3 := Lib.hid hs3
  have H4 := Lib.hid hs4
  have HT := Lib.hid hat
  clear hca hcb hs1 hs2 hs3 hs4 hat hx hp hy hq hat0 hlen hlen2
  go_enter Try.func61, Try.ntmps61
  go_wp2_with fail
  refine (HA.out).mono ?_
  rintro e w1 ⟨v1, v2, rfl, o1, o2, _, hB⟩
  go_wp2_with fail
  refine (HB.out _ (hb.keep hB)).mono ?_
  rintro e w2 ⟨v3, v4, rfl, o3, o4, _, hB2⟩
  have i1 := o1.ints.keep hB2
  have i2 := o2.ints.keep hB2
  have i3 := o3.ints
  have i4 := o4.ints
  replace hB := hB.trans (hB2.mono hB.size)
  obtain ⟨b1, off1, cap1, rfl, hb1, hcap1⟩ := i1.form
  obtain ⟨b2, off2, cap2, rfl, hb2, hcap2⟩ := i2.form
  obtain ⟨b3, off3, cap3, rfl, hb3, hcap3⟩ := i3.form
  clear o1 o2 o3 o4 hB2 ha hb
  by_cases hne : x.length = y.length
  case neg =>
    have hn2 : ((x.length : Int) != (y.length : Int)) = true := by simp only [bne_iff_ne]; omega
    go_wp2
    go_ret2
    rw [(H1.out hne).1, (H1.out hne).2]
    exact RetI2.mk rfl (World.ownsRow_made _ _ _ hB.size (by decide) rfl) (by simp) (hB.alloc hB.size _)
  have hn2 : ((x.length : Int) != (y.length : Int)) = false := by simp only [bne_eq_false_iff_eq]; omega
  have HN := Lib.hid hne
  clear hne
  by_cases hx0 : x.length = 0
  case pos =>
    have hy0 : ((x.length : Int) == 0) = true := by simp only [beq_iff_eq]; omega
    have HX := Lib.hid hx0
    clear hx0
    go_wp2
    go_ret2
    rw [(H2.out HN.out HX.out).1, (H2.out HN.out HX.out).2]
    exact RetI2.mk rfl (World.ownsRow_made _ _ _ hB.size (by decide) rfl) (by simp) (hB.alloc hB.size _)
  have hx1 : ((x.length : Int) == 0) = false := by simp only [beq_eq_false_iff_ne]; omega
  go_wp2
  go_loopw [10] (fun fr wr => ∃ (k : Nat), fr = .int .i64 k ∧ k ≤ x.length ∧ Kept (at_ = conjGo x y (x.length - k) k) ∧ Below w2.heap.size w2 wr)
    (fun fr _ => x.length - (intOf fr).toNat)
  case atStart => exact ⟨0, rfl, by omega, ⟨HT.out⟩, Below.refl _ _⟩
  case round =>
    obtain ⟨k, rfl, hk, hgo, hbel⟩ := hrel
    by_cases hlt : k < x.length
    · have hlI : (k : Int) < (x.length : Int) := by omega
      have j1 := i1.keep hbel
      have j2 := i2.keep hbel
      have j3 := i3.keep hbel
      have j4 := i4.keep hbel
      have hrot := rotateWordS_any _ _ (k : Int) wr j1 (by constructor <;> omega) (by omega)
      have HR := Lib.hid hrot
      clear hrot
      go_wp2_with fail
      refine (HR.out).mono ?_
      rintro e w3 ⟨v5, rfl, o5, hb⟩
      replace j1 := j1.keep hb
      replace j2 := j2.keep hb
      replace j3 := j3.keep hb
      replace j4 := j4.keep hb
      have hbel2 := hbel.trans (hb.mono hbel.size)
      clear hb
      have hew := equalWordsS_any _ _ _ _ _ o5.ints j3 (by rw [rotL_length]; omega)
      obtain ⟨t, ht⟩ : ∃ t, t = eqL (rotL x (rotK (k : Int) x.length)) y := ⟨_, rfl⟩
      rw [← ht] at hew
      have HE := Lib.hid hew
      clear hew
      go_wp2_with fail
      refine (HE.out).mono ?_
      rintro e w4 ⟨rfl, hb⟩
      replace j1 := j1.keep hb
      replace j2 := j2.keep hb
      replace j4 := j4.keep hb
      replace hbel2 := hbel2.trans (hb.mono hbel2.size)
      clear hb o5 j3
      cases t with
      | true =>
        have hz : Kept (conjW la lb = red (p ++ x.take k ++ invW q) ∧ conjOk la lb = true) := ⟨H4.out k HN.out (by rw [hgo.out, show x.length - k = (x.length - k - 1) + 1 by omega, conjGo_yes ht.symm]) hlt⟩
        clear hgo ht
        have hcut := j1.cut 0 k (by omega) (by omega) cap1 (by omega)
        simp only [Nat.add_zero, Nat.sub_zero, List.drop_zero] at hcut
        have hdc2 : k ≤ cap1 := by omega
        have hl6 := red_length (p ++ x.take k)
        simp only [List.length_append, List.length_take] at hl6
        have HL := Lib.hid hl6
        clear hl6
        go_wp2_with fail
        refine (multiplyWordsS_any _ _ _ _ _ j2 hcut (by omega) (by rw [List.length_take]; omega)).mono ?_
        rintro e w5 ⟨v6, rfl, o6, hb⟩
        have hcur := hb
        clear hb
        go_wp2_with fail
        refine (invertWordS_any _ _ _ (j4.keep hcur) (by omega)).mono ?_
        rintro e w6 ⟨v5, rfl, o5, hb⟩
        replace hcur := hcur.trans (hb.mono hcur.size)
        replace o6 := o6.keep hb
        clear hb
        go_wp2_with fail
        refine (multiplyWordsS_any _ _ _ _ _ o6.ints o5.ints (by have := HL.out; omega) (by rw [invW_length]; omega)).mono ?_
        rintro e w7 ⟨v7, rfl, o7, hb⟩
        go_wp2
        go_ret2
        rw [hz.out.1, hz.out.2, ← red3]
        have hBt := hB.trans ((hbel2.trans (hcur.mono hbel2.size)).mono hB.size)
        exact ⟨v7, rfl, o7.base hBt.size, hBt.trans (hb.mono hBt.size)⟩
      | false =>
        have hk2 : Kept (at_ = conjGo x y (x.length - (k + 1)) (k + 1)) := ⟨by rw [hgo.out, show x.length - k = (x.length - (k + 1)) + 1 by omega, conjGo_no ht.symm]⟩
        clear hgo ht
        go_wp2
        go_roundw
        case rel => exact ⟨k + 1, by go_num, by omega, hk2, hbel2⟩
        case measure => simp [intOf]; omega
    · obtain rfl : k = x.length := by omega
      have hz : Kept (conjW la lb = [] ∧ conjOk la lb = false) := ⟨H3.out hx0 (by rw [hgo.out, Nat.sub_self]; rfl)⟩
      clear hgo
      go_wp2
      go_ret2
      rw [hz.out.1, hz.out.2]
      have hBB := hB.trans (hbel.mono hB.size)
      exact RetI2.mk rfl (World.ownsRow_made _ _ _ hBB.size (by decide) rfl) (by simp) (hBB.alloc hBB.size _)
end Go.Proofs.Ytbghnllflfcfhaa
