/- Contracts of l4Has and l4Add. Conditions: lists of at most 2^20 numbers. -/
import Derived.Test.YtpebiacdkfpnpaaGreatInts
import Derived.Test.YtpebiacdkfpnpaaGreatReach
namespace Go.Proofs.YtpebiacdkfpnpaaGreat
open Go.RowKit

theorem addGo_placed {l : List Int} {x : Int} {k : Nat} {p : Bool} {o : List Int} (h : k < l.length) (e : o ++ addGo x (l.drop k) p = addI l x) (hp : p = true ∨ l[k] = x) : o ++ [l[k]] ++ addGo x (l.drop (k + 1)) true = addI l x := by
  rw [← e, List.drop_eq_getElem_cons h]
  have : (p || decide (l[k] = x)) = true := by
    rcases hp with rfl | hp
    · rfl
    · rw [decide_eq_true hp, Bool.or_true]
  simp only [addGo, this, List.append_assoc, List.singleton_append]
theorem addGo_here {l : List Int} {x : Int} {k : Nat} {o : List Int} (h : k < l.length) (e : o ++ addGo x (l.drop k) false = addI l x) (h1 : l[k] ≠ x) (h2 : x < l[k]) : o ++ [x] ++ [l[k]] ++ addGo x (l.drop (k + 1)) true = addI l x := by
  rw [← e, List.drop_eq_getElem_cons h]
  simp only [addGo, decide_eq_false h1, decide_eq_true h2, Bool.false_or, List.append_assoc, List.cons_append, List.nil_append]
theorem addGo_skip {l : List Int} {x : Int} {k : Nat} {o : List Int} (h : k < l.length) (e : o ++ addGo x (l.drop k) false = addI l x) (h1 : l[k] ≠ x) (h2 : ¬ x < l[k]) : o ++ [l[k]] ++ addGo x (l.drop (k + 1)) false = addI l x := by
  rw [← e, List.drop_eq_getElem_cons h]
  simp only [addGo, decide_eq_false h1, decide_eq_false h2, Bool.false_or, List.append_assoc, List.singleton_append]
theorem addGo_nil {l : List Int} {x : Int} {p : Bool} {o : List Int} (e : o ++ addGo x (l.drop l.length) p = addI l x) : (p = true → o = addI l x) ∧ (p = false → o ++ [x] = addI l x) := by
  rw [List.drop_length] at e
  constructor
  · rintro rfl; simpa [addGo] using e
  · rintro rfl; simpa [addGo] using e
set_option maxHeartbeats 1600000 in
theorem l4Add_any (v : Value) (l : List Int) (x : Int) (w : World) (h : Ints w v l) (hx : I64 x) (hn : l.length ≤ 1048576) :
    Calls Tryz.prog 62 #[v, .int .i64 x] w (RetI w (addI l x)) := by
  obtain ⟨b, off, cap, rfl, hc, hb, hcell, hr⟩ := h
  have H := Lib.hid hcell
  have HI : Kept (∀ y ∈ addI l x, I64 y) := ⟨fun y hy => (mem_addI.1 hy).elim (fun e => e ▸ hx) (hr y)⟩
  clear hcell hr
  go_enter Tryz.func62, Tryz.ntmps62
  go_wp2
  go_loopw [5, 6, 7] (fun out pl i wr => ∃ (k g cap2 : Nat) (o : List Int) (p : Bool), k ≤ l.length ∧ i = .int .i64 k ∧ pl = .bool p ∧ o.length ≤ 2 * k ∧ out = .slice (some ⟨g, 0, none⟩) o.length cap2 ∧ wr.ownsRow w.heap.size 3 1 (.slice (some ⟨g, 0, none⟩) o.length cap2) o.length (intsV o) ∧ Kept (o ++ addGo x (l.drop k) p = addI l x) ∧ Below w.heap.size w wr)
    (fun _ _ i _ => l.length - (intOf i).toNat)
  case atStart => exact ⟨0, _, _, [], false, by omega, rfl, rfl, by simp, rfl, World.ownsRow_made _ _ _ (Nat.le_refl _) (by decide) rfl, ⟨by rw [List.drop_zero, addGo_false, List.nil_append]⟩, (Below.refl _ _).alloc (Nat.le_refl _) _⟩
  case round =>
    obtain ⟨k, g, cap2, o, p, hk, rfl, rfl, hol, rfl, hown, hok, hbel⟩ := hrel
    have hg : w.heap.size ≤ g := (ownsRow_parts hown).1
    by_cases hlt : k < l.length
    · have e1 := (hbel.cell (p := ⟨b, off + k, none⟩) hb).trans (H.out k hlt)
      have hkl : (k : Int) < (l.length : Int) := by omega
      obtain ⟨y, hy⟩ : ∃ y, y = l[k] := ⟨_, rfl⟩
      have hol1 : o.length + 2 ≤ 1099511627776 := by omega
      have hlen3 : o.length + 1 = (o ++ [y]).length := by simp
      have hlen4 : o.length + 1 + 1 = (o ++ [x] ++ [y]).length := by simp
      have fin : ∀ (g' cap' : Nat) (w1 : World), w1.ownsRow w.heap.size 3 1 (.slice (some ⟨g', 0, none⟩) (o.length + 1) cap') (o.length + 1) (intsV o ++ [.int .i64 y]) → w1.ownsRow w.heap.size 3 1 (.slice (some ⟨g', 0, none⟩) (o.length + 1) cap') (o.length + 1) (intsV (o ++ [y])) := fun _ _ _ h => by rw [intsV_append]; exact h
      have FIN := Lib.hid fin
      have HL3 := Lib.hid hlen3
      have HL4 := Lib.hid hlen4
      clear fin hlen3 hlen4
      by_cases hp : p = true ∨ y = x
      · have hst : Kept (o ++ [y] ++ addGo x (l.drop (k + 1)) true = addI l x) := ⟨by rw [hy]; exact addGo_placed hlt hok.out (by rw [← hy]; exact hp)⟩
        rw [← hy] at e1
        by_cases hyx : y = x
        · have t1 : (y == x) = true := by simp [hyx]
          clear hp hy hyx hok
          by_cases t2 : x < y
          · go_wp2_with (at_builtin; refine wpl_push elemI rfl (.tmp 35) (.tmp 40) rfl rfl (hown.alloc _) rfl (heap_alloc_new _ _) rfl (by omega) ?_; intro g' cap' w1 hown' hgrow hat)
            have hb1 := below_push hbel hgrow hg (Nat.le_refl _)
            go_roundw
            case rel => exact ⟨k + 1, g', cap', o ++ [y], true, by omega, by go_num, rfl, by simp; omega, by rw [HL3.out], by rw [← HL3.out]; exact FIN.out _ _ _ hown', hst, hb1⟩
            case measure => simp [intOf]; omega
          · go_wp2_with (at_builtin; refine wpl_push elemI rfl (.tmp 35) (.tmp 40) rfl rfl (hown.alloc _) rfl (heap_alloc_new _ _) rfl (by omega) ?_; intro g' cap' w1 hown' hgrow hat)
            have hb1 := below_push hbel hgrow hg (Nat.le_refl _)
            go_roundw
            case rel => exact ⟨k + 1, g', cap', o ++ [y], true, by omega, by go_num, rfl, by simp; omega, by rw [HL3.out], by rw [← HL3.out]; exact FIN.out _ _ _ hown', hst, hb1⟩
            case measure => simp [intOf]; omega
        · have t1 : (y == x) = false := by simp [hyx]
          have hpt : p = true := hp.elim id (fun h => absurd h hyx)
          subst hpt
          clear hp hy hyx hok
          by_cases t2 : x < y
          · go_wp2_with (at_builtin; refine wpl_push elemI rfl (.tmp 35) (.tmp 40) rfl rfl (hown.alloc _) rfl (heap_alloc_new _ _) rfl (by omega) ?_; intro g' cap' w1 hown' hgrow hat)
            have hb1 := below_push hbel hgrow hg (Nat.le_refl _)
            go_roundw
            case rel => exact ⟨k + 1, g', cap', o ++ [y], true, by omega, by go_num, rfl, by simp; omega, by rw [HL3.out], by rw [← HL3.out]; exact FIN.out _ _ _ hown', hst, hb1⟩
            case measure => simp [intOf]; omega
          · go_wp2_with (at_builtin; refine wpl_push elemI rfl (.tmp 35) (.tmp 40) rfl rfl (hown.alloc _) rfl (heap_alloc_new _ _) rfl (by omega) ?_; intro g' cap' w1 hown' hgrow hat)
            have hb1 := below_push hbel hgrow hg (Nat.le_refl _)
            go_roundw
            case rel => exact ⟨k + 1, g', cap', o ++ [y], true, by omega, by go_num, rfl, by simp; omega, by rw [HL3.out], by rw [← HL3.out]; exact FIN.out _ _ _ hown', hst, hb1⟩
            case measure => simp [intOf]; omega
      · have hpf : p = false := by
          cases p with
          | true => exact absurd (.inl rfl) hp
          | false => rfl
        have hyx : y ≠ x := fun e => hp (.inr e)
        subst hpf
        have t1 : (y == x) = false := by simp [hyx]
        by_cases t2 : x < y
        · have hst : Kept (o ++ [x] ++ [y] ++ addGo x (l.drop (k + 1)) true = addI l x) := ⟨by rw [hy]; exact addGo_here hlt hok.out (by rw [← hy]; exact hyx) (by rw [← hy]; exact t2)⟩
          rw [← hy] at e1
          clear hp hy hyx hok
          go_wp2_with (first
            | (at_builtin; have hb9 := hb1; refine wpl_push elemI rfl (.tmp 35) (.tmp 40) rfl rfl (hown'.alloc _) rfl (heap_alloc_new _ _) rfl (by omega) ?_; intro g2 cap3 w2 hown2 hgrow2 hat2)
            | (at_builtin; refine wpl_push elemI rfl (.tmp 31) (.tmp 33) rfl rfl (hown.alloc _) rfl (heap_alloc_new _ _) rfl (by omega) ?_; intro g' cap' w1 hown' hgrow hat; have hb1 := below_push hbel hgrow hg (Nat.le_refl _); have e2 := (hb1.cell (p := ⟨b, off + k, none⟩) hb).trans ((hbel.cell (p := ⟨b, off + k, none⟩) hb).symm.trans e1)))
          have hb2 := below_push hb1 hgrow2 (ownsRow_parts hown').1 (Nat.le_refl _)
          go_roundw
          case rel => exact ⟨k + 1, g2, cap3, o ++ [x] ++ [y], true, by omega, by go_num, rfl, by simp; omega, by rw [HL4.out], by rw [← HL4.out, intsV_append, intsV_append]; exact hown2, hst, hb2⟩
          case measure => simp [intOf]; omega
        · have hst : Kept (o ++ [y] ++ addGo x (l.drop (k + 1)) false = addI l x) := ⟨by rw [hy]; exact addGo_skip hlt hok.out (by rw [← hy]; exact hyx) (by rw [← hy]; exact t2)⟩
          rw [← hy] at e1
          clear hp hy hyx hok
          go_wp2_with (at_builtin; refine wpl_push elemI rfl (.tmp 35) (.tmp 40) rfl rfl (hown.alloc _) rfl (heap_alloc_new _ _) rfl (by omega) ?_; intro g' cap' w1 hown' hgrow hat)
          have hb1 := below_push hbel hgrow hg (Nat.le_refl _)
          go_roundw
          case rel => exact ⟨k + 1, g', cap', o ++ [y], false, by omega, by go_num, rfl, by simp; omega, by rw [HL3.out], by rw [← HL3.out]; exact FIN.out _ _ _ hown', hst, hb1⟩
          case measure => simp [intOf]; omega
    · obtain rfl : k = l.length := by omega
      have hfin := addGo_nil hok.out
      have HF := Lib.hid hfin
      have hol1 : o.length + 2 ≤ 1099511627776 := by omega
      clear hfin hok
      cases p with
      | true =>
        go_wp2
        go_ret
        rw [← HF.out.1 trivial]
        exact RetI.mk rfl hown (by rw [HF.out.1 trivial]; exact HI.out) hbel
      | false =>
        go_wp2_with (at_builtin; refine wpl_push elemI rfl (.tmp 44) (.tmp 46) rfl rfl (hown.alloc _) rfl (heap_alloc_new _ _) rfl (by omega) ?_; intro g' cap' w1 hown' hgrow hat)
        have hb1 := below_push hbel hgrow hg (Nat.le_refl _)
        go_ret
        rw [← HF.out.2 trivial]
        exact RetI.mk (by simp) (by rw [intsV_append]; exact hown') (by rw [HF.out.2 trivial]; exact HI.out) hb1
end Go.Proofs.YtpebiacdkfpnpaaGreat
