/- Contract of the reference's CyclicCore. Conditions: words of at most 2^26 letters. -/
import Derived.Test.YtbghnllflfcfhaaCycC
namespace Go.Proofs.Ytbghnllflfcfhaa
open Go.RowKit

theorem inv_ends {x y : Int} (hx : I64 x) (hy : I64 y) : inv x y = (decide (x = neg y) && decide (x ≠ neg x)) := by
  obtain ⟨h1, h2⟩ := hx
  obtain ⟨h3, h4⟩ := hy
  rw [Bool.eq_iff_iff]
  simp only [inv, Bool.and_eq_true, decide_eq_true_eq]
  unfold neg
  split <;> split <;> omega
theorem strip_eq {c : List Int} {k m : Nat} (hm : m + 2 + 2 * k = c.length) (h1 : k < c.length) (h2 : k + (m + 1) < c.length) : strip c k = inv c[k] c[k + (m + 1)] := by
  have h3 : decide (2 * k + 2 ≤ c.length) = true := decide_eq_true (by omega)
  have h4 : c.length - 1 - k = k + (m + 1) := by omega
  simp [strip, h3, h4, List.getD_eq_getElem?_getD, List.getElem?_eq_getElem h1, List.getElem?_eq_getElem h2]
set_option maxRecDepth 20000 in
set_option maxHeartbeats 3200000 in
theorem cyclicCoreS_any (v : Value) (l : List Int) (w : World) (h : Ints w v l) (hn : l.length ≤ 67108864) :
    Calls Try.prog 57 #[v] w (RetII w (coreX (red l)) (coreP (red l))) := by
  have hcn := red_length l
  obtain ⟨c, hc⟩ : ∃ c, c = red l := ⟨_, rfl⟩
  have hcr := reduceLettersS_any _ _ _ h (by omega)
  rw [← hc] at hcr hcn ⊢
  have HR := Lib.hid hcr
  clear hcr hc
  go_enter Try.func57, Try.ntmps57
  go_wp2_with fail
  refine (HR.out).mono ?_
  rintro e w1 ⟨v1, rfl, o1, hB⟩
  obtain ⟨g, cap, rfl, hown, hcI⟩ := o1
  have hpar := ownsRow_parts hown
  have hIc : Ints w1 (.slice (some ⟨g, 0, none⟩) c.length cap) c := OwnI.ints (B := w.heap.size) ⟨g, cap, rfl, hown, hcI⟩
  have hcap : c.length ≤ cap := hpar.2.2.1
  have hgb : g < w1.heap.size := hpar.2.1
  have hcell : ∀ i (hi : i < c.length), w1.cell? ⟨g, i, none⟩ = some (.int .i64 c[i]) := fun i hi => by
    rw [hown.cellAt i (by omega), intsV, List.getElem?_map, List.getElem?_eq_getElem hi]; rfl
  have H := Lib.hid hcell
  clear hcell hpar
  go_wp2
  go_loopw [4, 5] (fun x p wr => ∃ (k m g2 cap2 : Nat), x = .slice (some ⟨g, k, none⟩) m (cap - k) ∧ Kept (m + 2 * k = c.length) ∧ m ≤ c.length ∧ k ≤ c.length ∧ m ≤ cap - k ∧ p = .slice (some ⟨g2, 0, none⟩) k cap2 ∧ wr.ownsRow w1.heap.size 3 1 (.slice (some ⟨g2, 0, none⟩) k cap2) k (intsV (c.take k)) ∧ Kept (coreN c = coreGo c (c.length - k) k) ∧ Below w1.heap.size w1 wr)
    (fun x _ _ => match x with | .slice _ n _ => n | _ => 0)
  case atStart => exact ⟨0, c.length, _, 0, rfl, ⟨by omega⟩, by omega, by omega, by omega, rfl, World.ownsRow_made _ _ _ (Nat.le_refl _) (by decide) rfl, ⟨rfl⟩, (Below.refl _ _).alloc (Nat.le_refl _) _⟩
  case round =>
    obtain ⟨k, m, g2, cap2, rfl, hmk, hmc, hkc, hmcap, rfl, hown2, hgo, hbel⟩ := hrel
    have hg2 : w1.heap.size ≤ g2 := (ownsRow_parts hown2).1
    by_cases h2 : 2 ≤ m
    · obtain ⟨m, rfl⟩ : ∃ m', m = m' + 2 := ⟨m - 2, by omega⟩
      have hd : decide ((1 : Int) < (m : Int) + 2) = true := decide_eq_true (by omega)
      have h1 : k < c.length := by have := hmk.out; omega
      have h3 : k + (m + 1) < c.length := by have := hmk.out; omega
      have e1 : wr.cell? ⟨g, k, none⟩ = some (.int .i64 c[k]) := (hbel.cell (p := ⟨g, k, none⟩) hgb).trans (H.out k h1)
      have e2 : wr.cell? ⟨g, k + (m + 1), none⟩ = some (.int .i64 c[k + (m + 1)]) := (hbel.cell (p := ⟨g, k + (m + 1), none⟩) hgb).trans (H.out _ h3)
      have hs := strip_eq (k := k) (m := m) (by have := hmk.out; omega) h1 h3
      have hx1 : I64 c[k] := hcI _ (List.getElem_mem h1)
      have hx2 : I64 c[k + (m + 1)] := hcI _ (List.getElem_mem h3)
      rw [inv_ends hx1 hx2] at hs
      obtain ⟨x, hx⟩ : ∃ x, x = c[k] := ⟨_, rfl⟩
      obtain ⟨y, hy⟩ : ∃ y, y = c[k + (m + 1)] := ⟨_, rfl⟩
      rw [← hx] at e1 hx1 hs
      rw [← hy] at e2 hx2 hs
      have hw1 := wrap_neg hx1
      have hw2 := wrap_neg hx2
      cases hq1 : decide (x = neg y) with
      | false =>
        rw [hq1, Bool.false_and] at hs
        have hd1 : (x == neg y) = false := by rw [← hq1]; rfl
        clear hq1 hx hy hx1 hx2
        have hk2 : Kept (coreN c = k) := ⟨by rw [hgo.out, coreGo_no hs]⟩
        have hX : Kept (coreX c = (c.take (c.length - k)).drop k ∧ coreP c = c.take k) := ⟨by
          simp only [coreX, coreP, hk2.out, and_self]⟩
        have hlX : Kept (((c.take (c.length - k)).drop k).length = m + 2) := ⟨by have := hmk.out; simp only [List.length_drop, List.length_take]; omega⟩
        have hIx : Ints w1 (.slice (some ⟨g, k, none⟩) (m + 2) (cap - k)) ((c.take (c.length - k)).drop k) := by
          have := hIc.cut k (c.length - k) (by have := hmk.out; omega) (by omega) (cap - k) (by omega)
          rw [Nat.zero_add, show c.length - k - k = m + 2 by have := hmk.out; omega] at this
          exact this
        clear hs hgo
        go_wp2
        go_quiet (fail)
        have hown2 := ownsRow_drewN nq hown2
        have hbel := below_drewN nq hbel
        have hbq := hbel.alloc hbel.size (Obj.cells #[] 3)
        go_wp2_with (at_builtin; refine wpl_app elemI rfl (.tmp 46) (.tmp 47) rfl rfl (World.ownsRow_made _ _ _ (Nat.le_refl _) (by decide) rfl) rfl (by rw [intsV_length, Nat.mul_one]; exact hlX.out) (hIx.keep hbq).news (intsV_one _) (by omega) ?_; intro g3 c3 w3 hown3 hgrow3 hat3; simp only [Nat.zero_add, List.nil_append] at hown3)
        have hb3 := below_push (Below.refl _ _) hgrow3 (Nat.le_refl _) (Nat.le_refl _)
        have ho2 := ownsRow_keep hown2 hb3
        have hlt2 := (ownsRow_parts hown2).2.1
        have hne3 : g3 ≠ g2 := by
          have h0 := (ownsRow_parts hown3).1
          intro e; subst e; omega
        go_ret2
        rw [hX.out.1, hX.out.2]
        exact ⟨.slice (some ⟨g3, 0, none⟩) (m + 2) c3, .slice (some ⟨g2, 0, none⟩) k cap2, rfl, ⟨g3, c3, by rw [hlX.out], by rw [hlX.out]; exact ownsRow_base hown3 (Nat.le_trans hB.size hbel.size), fun x hx => hcI x (List.mem_of_mem_take (List.mem_of_mem_drop hx))⟩, ⟨g2, cap2, by rw [List.length_take, Nat.min_eq_left hkc], by rw [List.length_take, Nat.min_eq_left hkc]; exact ownsRow_base ho2 hB.size, fun x hx => hcI x (List.mem_of_mem_take hx)⟩, ⟨by simpa [Value.ownBlock] using hne3⟩, hB.trans ((hbel.trans (hb3.mono hbel.size)).mono hB.size)⟩
      | true =>
        rw [hq1, Bool.true_and] at hs
        have hd1 : (x == neg y) = true := by rw [← hq1]; rfl
        cases hq2 : decide (x ≠ neg x) with
        | false =>
          rw [hq2] at hs
          have hd2 : (x != neg x) = false := by simp only [ne_eq, decide_eq_false_iff_not, Decidable.not_not] at hq2; rw [bne_eq_false_iff_eq]; exact hq2
          clear hq1 hq2 hx hy hx1 hx2
          have hk2 : Kept (coreN c = k) := ⟨by rw [hgo.out, coreGo_no hs]⟩
          have hX : Kept (coreX c = (c.take (c.length - k)).drop k ∧ coreP c = c.take k) := ⟨by
            simp only [coreX, coreP, hk2.out, and_self]⟩
          have hlX : Kept (((c.take (c.length - k)).drop k).length = m + 2) := ⟨by have := hmk.out; simp only [List.length_drop, List.length_take]; omega⟩
          have hIx : Ints w1 (.slice (some ⟨g, k, none⟩) (m + 2) (cap - k)) ((c.take (c.length - k)).drop k) := by
            have := hIc.cut k (c.length - k) (by have := hmk.out; omega) (by omega) (cap - k) (by omega)
            rw [Nat.zero_add, show c.length - k - k = m + 2 by have := hmk.out; omega] at this
            exact this
          clear hs hgo
          go_wp2
          go_quiet (fail)
          have hown2 := ownsRow_drewN nq hown2
          have hbel := below_drewN nq hbel
          have hbq := hbel.alloc hbel.size (Obj.cells #[] 3)
          go_wp2_with (at_builtin; refine wpl_app elemI rfl (.tmp 46) (.tmp 47) rfl rfl (World.ownsRow_made _ _ _ (Nat.le_refl _) (by decide) rfl) rfl (by rw [intsV_length, Nat.mul_one]; exact hlX.out) (hIx.keep hbq).news (intsV_one _) (by omega) ?_; intro g3 c3 w3 hown3 hgrow3 hat3; simp only [Nat.zero_add, List.nil_append] at hown3)
          have hb3 := below_push (Below.refl _ _) hgrow3 (Nat.le_refl _) (Nat.le_refl _)
          have ho2 := ownsRow_keep hown2 hb3
          have hlt2 := (ownsRow_parts hown2).2.1
          have hne3 : g3 ≠ g2 := by
            have h0 := (ownsRow_parts hown3).1
            intro e; subst e; omega
          go_ret2
          rw [hX.out.1, hX.out.2]
          exact ⟨.slice (some ⟨g3, 0, none⟩) (m + 2) c3, .slice (some ⟨g2, 0, none⟩) k cap2, rfl, ⟨g3, c3, by rw [hlX.out], by rw [hlX.out]; exact ownsRow_base hown3 (Nat.le_trans hB.size hbel.size), fun x hx => hcI x (List.mem_of_mem_take (List.mem_of_mem_drop hx))⟩, ⟨g2, cap2, by rw [List.length_take, Nat.min_eq_left hkc], by rw [List.length_take, Nat.min_eq_left hkc]; exact ownsRow_base ho2 hB.size, fun x hx => hcI x (List.mem_of_mem_take hx)⟩, ⟨by simpa [Value.ownBlock] using hne3⟩, hB.trans ((hbel.trans (hb3.mono hbel.size)).mono hB.size)⟩
        | true =>
          rw [hq2] at hs
          have hd2 : (x != neg x) = true := by simp only [ne_eq, decide_eq_true_eq] at hq2; rw [bne_iff_ne]; exact hq2
          have hk2 : Kept (coreN c = coreGo c (c.length - (k + 1)) (k + 1)) := ⟨by
            rw [hgo.out, show c.length - k = (c.length - (k + 1)) + 1 by omega, coreGo_yes hs]⟩
          have htk : Kept (c.take (k + 1) = c.take k ++ [x]) := ⟨by rw [List.take_succ_eq_append_getElem h1, hx]⟩
          clear hq1 hq2 hx hy hx1 hx2 hs hgo
          go_wp2
          go_quiet (fail)
          have hown2 := ownsRow_drewN nq hown2
          have hbel := below_drewN nq hbel
          go_wp2_with (at_builtin; refine wpl_push elemI rfl (.tmp 35) (.tmp 39) rfl rfl (hown2.alloc _) rfl (heap_alloc_new _ _) rfl (by omega) ?_; intro g' cap' w3 hown' hgrow hat)
          have hb1 := below_push hbel hgrow hg2 (Nat.le_refl _)
          rw [show ∀ z : Int, [Value.int .i64 z] = intsV [z] from fun _ => rfl, ← intsV_append, ← htk.out] at hown'
          go_roundw
          case rel => exact ⟨k + 1, m, g', cap', by go_num, ⟨by have := hmk.out; omega⟩, by omega, by omega, by omega, rfl, hown', hk2, hb1⟩
          case measure => simp
    · have hs : strip c k = false := by
        have : decide (2 * k + 2 ≤ c.length) = false := decide_eq_false (by have := hmk.out; omega)
        simp only [strip, this, Bool.false_and]
      have hd : decide ((1 : Int) < (m : Int)) = false := decide_eq_false (by omega)
      have hk2 : Kept (coreN c = k) := ⟨by rw [hgo.out, coreGo_no hs]⟩
      have hX : Kept (coreX c = (c.take (c.length - k)).drop k ∧ coreP c = c.take k) := ⟨by
        simp only [coreX, coreP, hk2.out, and_self]⟩
      have hlX : Kept (((c.take (c.length - k)).drop k).length = m) := ⟨by have := hmk.out; simp only [List.length_drop, List.length_take]; omega⟩
      have hIx : Ints w1 (.slice (some ⟨g, k, none⟩) (m) (cap - k)) ((c.take (c.length - k)).drop k) := by
        have := hIc.cut k (c.length - k) (by have := hmk.out; omega) (by omega) (cap - k) (by omega)
        rw [Nat.zero_add, show c.length - k - k = m by have := hmk.out; omega] at this
        exact this
      clear hs hgo
      go_wp2
      go_quiet (fail)
      have hown2 := ownsRow_drewN nq hown2
      have hbel := below_drewN nq hbel
      have hbq := hbel.alloc hbel.size (Obj.cells #[] 3)
      go_wp2_with (at_builtin; refine wpl_app elemI rfl (.tmp 46) (.tmp 47) rfl rfl (World.ownsRow_made _ _ _ (Nat.le_refl _) (by decide) rfl) rfl (by rw [intsV_length, Nat.mul_one]; exact hlX.out) (hIx.keep hbq).news (intsV_one _) (by omega) ?_; intro g3 c3 w3 hown3 hgrow3 hat3; simp only [Nat.zero_add, List.nil_append] at hown3)
      have hb3 := below_push (Below.refl _ _) hgrow3 (Nat.le_refl _) (Nat.le_refl _)
      have ho2 := ownsRow_keep hown2 hb3
      have hlt2 := (ownsRow_parts hown2).2.1
      have hne3 : g3 ≠ g2 := by
        have h0 := (ownsRow_parts hown3).1
        intro e; subst e; omega
      go_ret2
      rw [hX.out.1, hX.out.2]
      exact ⟨.slice (some ⟨g3, 0, none⟩) (m) c3, .slice (some ⟨g2, 0, none⟩) k cap2, rfl, ⟨g3, c3, by rw [hlX.out], by rw [hlX.out]; exact ownsRow_base hown3 (Nat.le_trans hB.size hbel.size), fun x hx => hcI x (List.mem_of_mem_take (List.mem_of_mem_drop hx))⟩, ⟨g2, cap2, by rw [List.length_take, Nat.min_eq_left hkc], by rw [List.length_take, Nat.min_eq_left hkc]; exact ownsRow_base ho2 hB.size, fun x hx => hcI x (List.mem_of_mem_take hx)⟩, ⟨by simpa [Value.ownBlock] using hne3⟩, hB.trans ((hbel.trans (hb3.mono hbel.size)).mono hB.size)⟩
end Go.Proofs.Ytbghnllflfcfhaa
