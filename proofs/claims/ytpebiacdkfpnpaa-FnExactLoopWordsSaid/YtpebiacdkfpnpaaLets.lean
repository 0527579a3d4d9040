/- Contracts of letters, l5Letters and copyInts. Conditions: ranks of at most 100, lists of at most 2^27 numbers. -/
import Derived.Test.YtpebiacdkfpnpaaArgs
import Derived.Test.YtpebiacdkfpnpaaBfs
namespace Go.Proofs.Ytpebiacdkfpnpaa
open Go.RowKit

theorem lettersL_i64 {r : Nat} (h : r ≤ 100) : ∀ x ∈ lettersL r, I64 x := fun x hx => by
  have := lettersL_mem hx; unfold I64; omega
set_option maxHeartbeats 800000 in
theorem letters_any (R : Nat) (hR : R ≤ 100) (w : World) : Calls Try.prog 72 #[.int .i64 R] w (RetI w (lettersL R)) := by
  go_enter Try.func72, Try.ntmps72
  go_wp2
  go_loopw [3, 4] (fun out i wr => ∃ (k g cap2 : Nat) (o : List Int), k ≤ R ∧ i = .int .i64 ((k : Int) + 1) ∧ out = .slice (some ⟨g, 0, none⟩) o.length cap2 ∧ wr.ownsRow w.heap.size 3 1 (.slice (some ⟨g, 0, none⟩) o.length cap2) o.length (intsV o) ∧ o.length ≤ 2 * k ∧ Kept (o = lettersL k) ∧ Below w.heap.size w wr)
    (fun _ i _ => R + 1 - (intOf i).toNat)
  case atStart => exact ⟨0, _, _, [], by omega, rfl, rfl, World.ownsRow_made _ _ _ (Nat.le_refl _) (by decide) rfl, by simp, ⟨rfl⟩, (Below.refl _ _).alloc (Nat.le_refl _) _⟩
  case round =>
    obtain ⟨k, g, cap2, o, hk, rfl, rfl, hown, hol, hok, hbel⟩ := hrel
    have hg : w.heap.size ≤ g := (ownsRow_parts hown).1
    by_cases hlt : k < R
    · have hst : Kept (o ++ [(k : Int) + 1, -((k : Int) + 1)] = lettersL (k + 1)) := ⟨by rw [lettersL_succ, hok.out]⟩
      have hkI : (k : Int) + 1 ≤ (R : Int) := by omega
      have hol1 : o.length + 2 ≤ 1099511627776 := by omega
      have hwn : wrap64 (-((k : Int) + 1)) = -((k : Int) + 1) := by unfold wrap64; omega
      have hl3 : o.length + 2 = (o ++ [(k : Int) + 1, -((k : Int) + 1)]).length := by simp
      have HL3 := Lib.hid hl3
      clear hok hl3
      go_wp2_with (at_builtin; refine wpl_app elemI rfl (.tmp 11) (.tmp 15) rfl rfl (hown.alloc _) (ad := ⟨wr.heap.size, 0, none⟩) (m := 2) rfl (news := [.int .i64 ((k : Int) + 1), .int .i64 (-((k : Int) + 1))]) rfl (World.news_of_block (cs := #[.int .i64 ((k : Int) + 1), .int .i64 (-((k : Int) + 1))]) (heap_alloc_new _ _)) (by simp [Value.oneCell']) (by omega) ?_; intro g' cap' w1 hown' hgrow hat)
      have hb1 := below_push hbel hgrow hg (Nat.le_refl _)
      go_roundw
      case rel => exact ⟨k + 1, g', cap', o ++ [(k : Int) + 1, -((k : Int) + 1)], by omega, by go_num, by rw [HL3.out], by rw [← HL3.out, intsV_append]; exact hown', by simp; omega, hst, hb1⟩
      case measure => simp [intOf]; omega
    · obtain rfl : k = R := by omega
      have hkI : (k : Int) < (k : Int) + 1 := by omega
      go_wp2
      go_ret
      rw [← hok.out]
      exact RetI.mk rfl hown (by rw [hok.out]; exact lettersL_i64 hR) hbel
set_option maxHeartbeats 800000 in
theorem l5Letters_any (R : Nat) (hR : R ≤ 100) (w : World) : Calls Try.prog 61 #[.int .i64 R] w (RetI w (lettersL R)) := by
  go_enter Try.func61, Try.ntmps61
  go_wp2
  go_loopw [3, 4] (fun out i wr => ∃ (k g cap2 : Nat) (o : List Int), k ≤ R ∧ i = .int .i64 ((k : Int) + 1) ∧ out = .slice (some ⟨g, 0, none⟩) o.length cap2 ∧ wr.ownsRow w.heap.size 3 1 (.slice (some ⟨g, 0, none⟩) o.length cap2) o.length (intsV o) ∧ o.length ≤ 2 * k ∧ Kept (o = lettersL k) ∧ Below w.heap.size w wr)
    (fun _ i _ => R + 1 - (intOf i).toNat)
  case atStart => exact ⟨0, _, _, [], by omega, rfl, rfl, World.ownsRow_made _ _ _ (Nat.le_refl _) (by decide) rfl, by simp, ⟨rfl⟩, (Below.refl _ _).alloc (Nat.le_refl _) _⟩
  case round =>
    obtain ⟨k, g, cap2, o, hk, rfl, rfl, hown, hol, hok, hbel⟩ := hrel
    have hg : w.heap.size ≤ g := (ownsRow_parts hown).1
    by_cases hlt : k < R
    · have hst : Kept (o ++ [(k : Int) + 1] ++ [-((k : Int) + 1)] = lettersL (k + 1)) := ⟨by rw [lettersL_succ, hok.out]; simp⟩
      have hkI : (k : Int) + 1 ≤ (R : Int) := by omega
      have hol1 : o.length + 2 ≤ 1099511627776 := by omega
      have hwn : wrap64 (-((k : Int) + 1)) = -((k : Int) + 1) := by unfold wrap64; omega
      have hl3 : o.length + 1 + 1 = (o ++ [(k : Int) + 1] ++ [-((k : Int) + 1)]).length := by simp
      have HL3 := Lib.hid hl3
      clear hok hl3
      go_wp2_with (first
        | (at_builtin; have hb9 := hb1; refine wpl_push elemI rfl (.tmp 15) (.tmp 18) rfl rfl (hown'.alloc _) rfl (heap_alloc_new _ _) rfl (by omega) ?_; intro g2 cap3 w2 hown2 hgrow2 hat2)
        | (at_builtin; refine wpl_push elemI rfl (.tmp 11) (.tmp 13) rfl rfl (hown.alloc _) rfl (heap_alloc_new _ _) rfl (by omega) ?_; intro g' cap' w1 hown' hgrow hat; have hb1 := below_push hbel hgrow hg (Nat.le_refl _)))
      have hb2 := below_push hb1 hgrow2 (ownsRow_parts hown').1 (Nat.le_refl _)
      go_roundw
      case rel => exact ⟨k + 1, g2, cap3, o ++ [(k : Int) + 1] ++ [-((k : Int) + 1)], by omega, by go_num, by rw [HL3.out], by rw [← HL3.out, intsV_append, intsV_append]; exact hown2, by simp; omega, hst, hb2⟩
      case measure => simp [intOf]; omega
    · obtain rfl : k = R := by omega
      have hkI : (k : Int) < (k : Int) + 1 := by omega
      go_wp2
      go_ret
      rw [← hok.out]
      exact RetI.mk rfl hown (by rw [hok.out]; exact lettersL_i64 hR) hbel
end Go.Proofs.Ytpebiacdkfpnpaa
