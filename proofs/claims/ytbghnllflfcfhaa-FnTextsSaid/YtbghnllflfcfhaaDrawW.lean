/- Contracts of the references' draws of words. Conditions: codes of at most 2^20 bytes. -/
import Derived.Test.YtbghnllflfcfhaaDraw
import Derived.Test.YtbghnllflfcfhaaWordB
namespace Go.Proofs.Ytbghnllflfcfhaa
open Go.RowKit

/-- The bytes of a code that came in. -/
def CodeArg (w : World) (A : Option Addr) (len : Nat) : Prop := 0 < len → ∃ b off, A = some ⟨b, off, none⟩ ∧ b < w.heap.size ∧ ∀ j, j < len → ∃ x : Nat, x < 256 ∧ w.cell? ⟨b, off + j, none⟩ = some (.int .u8 (x : Int))
theorem CodeArg.keep {w w' : World} {A : Option Addr} {len : Nat} (h : CodeArg w A len) (hB : Below w.heap.size w w') : CodeArg w' A len := fun h0 => by
  obtain ⟨b, off, e, hb, hc⟩ := h h0
  exact ⟨b, off, e, Nat.lt_of_lt_of_le hb hB.size, fun j hj => by
    obtain ⟨x, hx, h1⟩ := hc j hj
    exact ⟨x, hx, (hB.cell (p := ⟨b, off + j, none⟩) hb).trans h1⟩⟩
/-- A new cursor is handed back. -/
def RetCur (w : World) (A : Option Addr) (len : Nat) (e : Ending) (w' : World) : Prop := ∃ k, e = .returned (.pointer (some ⟨k, 0, none⟩)) ∧ w.heap.size ≤ k ∧ Cur w' k A len ∧ Below w.heap.size w w'
set_option maxHeartbeats 1600000 in
theorem l1New_any (A : Option Addr) (len cap : Nat) (w : World) (h : CodeArg w A len) (hl : len ≤ 1048576) : Calls Try.prog 70 #[.slice A len cap] w (RetCur w A len) := by
  have H := Lib.hid h
  clear h
  go_enter Try.func70, Try.ntmps70
  go_wp2
  go_loop [3, 4] (fun hh i => ∃ (k : Nat) (x : Int), k ≤ len ∧ i = .int .i64 k ∧ hh = .int .i64 x) (fun _ i => len - (intOf i).toNat)
  case atStart => exact ⟨0, _, by omega, rfl, rfl⟩
  case round =>
    obtain ⟨k, x, hk, rfl, rfl⟩ := hrel
    by_cases hlt : k < len ∧ k < 4000
    · obtain ⟨h1, h2⟩ := hlt
      obtain ⟨b, off, rfl, hb, hcell⟩ := H.out (by omega)
      obtain ⟨y, hy, c1⟩ := hcell k h1
      have h1I : (k : Int) < (len : Int) := by omega
      have h2I : (k : Int) < 4000 := by omega
      clear hcell
      go_wp2
      go_round
      case rel => exact ⟨k + 1, _, by omega, by go_num, rfl⟩
      case measure => simp [intOf]; omega
    · have hfin : ∀ x : Int, RetCur w A len (.returned (.pointer (some ⟨w.heap.size, 0, none⟩))) (w.alloc (.cells #[.slice A len cap, .int .i64 0, .int .i64 x] 69 (0, 0))) := fun x => by
        refine ⟨w.heap.size, rfl, Nat.le_refl _, ⟨cap, 0, x, heap_alloc_new _ _, Nat.zero_le _, hl, fun h0 => ?_⟩, (Below.refl _ _).alloc (Nat.le_refl _) _⟩
        obtain ⟨b, off, e, hb, hc⟩ := H.out h0
        have hal : Below w.heap.size w (w.alloc (.cells #[.slice A len cap, .int .i64 0, .int .i64 x] 69 (0, 0))) := (Below.refl _ _).alloc (Nat.le_refl _) _
        exact ⟨b, off, e, by omega, by simp; omega, fun j hj => by
          obtain ⟨y, hy, h1⟩ := hc j hj
          exact ⟨y, hy, (hal.cell (p := ⟨b, off + j, none⟩) hb).trans h1⟩⟩
      by_cases h1 : k < len
      · have h1I : (k : Int) < (len : Int) := by omega
        have h2I : ¬ (k : Int) < 4000 := by omega
        go_wp2
        go_ret
        exact hfin _
      · have h1I : ¬ (k : Int) < (len : Int) := by omega
        go_wp2
        go_ret
        exact hfin _
/-- A word with the property Q is handed back, in new memory; nothing is turned but the cursor. -/
def RetW (w : World) (k : Nat) (A : Option Addr) (len : Nat) (Q : List Int → Prop) (e : Ending) (w' : World) : Prop := ∃ v l, e = .returned v ∧ OwnI w' w.heap.size v l ∧ Q l ∧ Cur w' k A len ∧ w.grownBy w' (some k)
/-- A reduced word of the rank R with at most n letters. -/
structure WordOf (R n : Nat) (l : List Int) : Prop where
  red : Reduced l
  len : l.length ≤ n
  let_ : ∀ x ∈ l, x ≠ 0 ∧ -(R : Int) ≤ x ∧ x ≤ R
theorem ints_lit (w : World) (L : List Int) (h : ∀ x ∈ L, I64 x) : Ints (w.alloc (.cells (intsV L).toArray 3 (0, 0))) (.slice (some ⟨w.heap.size, 0, none⟩) L.length L.length) L := by
  refine ⟨w.heap.size, 0, L.length, rfl, Nat.le_refl _, by simp, fun i hi => ?_, h⟩
  rw [Nat.zero_add, cell_of_row _ _ _ _ _ _ (heap_alloc_new w _)]
  simp [intsV, hi]
set_option maxHeartbeats 1600000 in
theorem l2Of_any (k : Nat) (A : Option Addr) (len R m : Nat) (w : World) (h : Cur w k A len) (h0 : 1 ≤ R) (h1 : R ≤ 3) (hm : m ≤ 200) :
    Calls Try.prog 90 #[.pointer (some ⟨k, 0, none⟩), .int .i64 R, .int .i64 m] w (RetW w k A len (WordOf R m)) := by
  have hk := h.lt
  have hA := h.code
  have hal : Below w.heap.size w (w.alloc (.cells #[] 3 (0, 0))) := (Below.refl _ _).alloc (Nat.le_refl _) _
  have HB := Lib.hid (l1Below_small k A len (m + 1) _ (h.keep hal) (by omega) (by omega))
  have HBR := Lib.hid (fun W (hc : Cur W k A len) => l1Below_small k A len R W hc (by omega) (by omega))
  have HO := Lib.hid (fun W (hc : Cur W k A len) => l1Once_small k A len 2 W hc (by omega) (by omega))
  go_enter Try.func90, Try.ntmps90
  go_wp2_with fail
  refine (HB.out).mono ?_
  rintro e w1 ⟨x0, rfl, hx0, hc1, hg1⟩
  have hg1' : w.grownBy w1 (some k) := (grown_below hal).trans hg1
  have ho1 : w1.ownsRow w.heap.size 3 1 (.slice (some ⟨w.heap.size, 0, none⟩) 0 0) 0 (intsV []) := (World.ownsRow_made w #[] 0 (Nat.le_refl _) (by decide) rfl : (w.alloc (.cells #[] 3 (0, 0))).ownsRow w.heap.size 3 1 (.slice (some ⟨w.heap.size, 0, none⟩) 0 0) 0 []).kept hg1 (.inr (by simp only [Value.ownBlock, ne_eq, Option.some.injEq]; omega))
  clear hal hg1
  go_wp2
  go_loopw [7, 8, 9] (fun out n _ wr => ∃ (j g cap2 : Nat) (o : List Int), n = .int .i64 j ∧ j + o.length ≤ m ∧ out = .slice (some ⟨g, 0, none⟩) o.length cap2 ∧ wr.ownsRow w.heap.size 3 1 (.slice (some ⟨g, 0, none⟩) o.length cap2) o.length (intsV o) ∧ Kept (∀ x ∈ o, x ≠ 0 ∧ -(R : Int) ≤ x ∧ x ≤ R) ∧ Kept (Cur wr k A len ∧ w.grownBy wr (some k)))
    (fun _ n _ _ => (intOf n).toNat)
  case atStart => exact ⟨x0, _, _, [], rfl, by simp; omega, rfl, ho1, ⟨by simp⟩, ⟨hc1, hg1'⟩⟩
  case round =>
    obtain ⟨j, g, cap2, o, rfl, hjo, rfl, hown, hlt, hcg⟩ := hrel
    obtain ⟨hc, hg⟩ := hcg.out
    have hgl : w.heap.size ≤ g := (ownsRow_parts hown).1
    by_cases hj : 0 < j
    · have hjI : (0 : Int) < (j : Int) := by omega
      have hol1 : o.length + 1 ≤ 1099511627776 := by omega
      go_wp2_with fail
      refine (HBR.out wr hc).mono ?_
      rintro e w2 ⟨t, rfl, ht, hc2, hg2⟩
      have hown2 := hown.kept hg2 (.inr (by simp only [Value.ownBlock, ne_eq, Option.some.injEq]; omega))
      have hg2' := hg.trans hg2
      go_wp2_with fail
      refine (HO.out w2 hc2).mono ?_
      rintro e w3 ⟨y, rfl, hc3, hg3⟩
      have hown3 := hown2.kept hg3 (.inr (by simp only [Value.ownBlock, ne_eq, Option.some.injEq]; omega))
      have hg3' := hg2'.trans hg3
      have hwn : wrap64 (-(1 + (t : Int))) = -(1 + (t : Int)) := by unfold wrap64; omega
      clear hown hown2 hc2 hg2 hg2' hg3 hc hg hcg
      cases y with
      | true =>
        have hst : Kept (∀ x ∈ o ++ [-(1 + (t : Int))], x ≠ 0 ∧ -(R : Int) ≤ x ∧ x ≤ R) := ⟨fun x hx => by
          rcases List.mem_append.1 hx with hx | hx
          · exact hlt.out x hx
          · simp at hx; omega⟩
        go_wp2_with (at_builtin; refine wpl_push elemI rfl (.tmp 27) (.tmp 29) rfl rfl (hown3.alloc _) rfl (heap_alloc_new _ _) rfl (by omega) ?_; intro g' cap' w4 hown' hgrow hat)
        have hg4 := grown_push (hg3'.trans (World.grownBy_alloc _ _ _)) hgrow hgl
        have hc4 := (hc3.keep ((Below.refl _ _).alloc (Nat.le_refl _) _)).push hgrow hk hA hgl
        have hl3 : o.length + 1 = (o ++ [-(1 + (t : Int))]).length := by simp
        have HL3 := Lib.hid hl3
        clear hl3
        go_roundw
        case rel => exact ⟨j - 1, g', cap', o ++ [-(1 + (t : Int))], by go_num, by simp; omega, by rw [HL3.out], by rw [← HL3.out, intsV_append]; exact hown', hst, ⟨hc4, hg4⟩⟩
        case measure => simp [intOf]; omega
      | false =>
        have hst : Kept (∀ x ∈ o ++ [1 + (t : Int)], x ≠ 0 ∧ -(R : Int) ≤ x ∧ x ≤ R) := ⟨fun x hx => by
          rcases List.mem_append.1 hx with hx | hx
          · exact hlt.out x hx
          · simp at hx; omega⟩
        go_wp2_with (at_builtin; refine wpl_push elemI rfl (.tmp 27) (.tmp 29) rfl rfl (hown3.alloc _) rfl (heap_alloc_new _ _) rfl (by omega) ?_; intro g' cap' w4 hown' hgrow hat)
        have hg4 := grown_push (hg3'.trans (World.grownBy_alloc _ _ _)) hgrow hgl
        have hc4 := (hc3.keep ((Below.refl _ _).alloc (Nat.le_refl _) _)).push hgrow hk hA hgl
        have hl3 : o.length + 1 = (o ++ [1 + (t : Int)]).length := by simp
        have HL3 := Lib.hid hl3
        clear hl3
        go_roundw
        case rel => exact ⟨j - 1, g', cap', o ++ [1 + (t : Int)], by go_num, by simp; omega, by rw [HL3.out], by rw [← HL3.out, intsV_append]; exact hown', hst, ⟨hc4, hg4⟩⟩
        case measure => simp [intOf]; omega
    · obtain rfl : j = 0 := by omega
      have hI : Ints wr (.slice (some ⟨g, 0, none⟩) o.length cap2) o := OwnI.ints (B := w.heap.size) ⟨g, cap2, rfl, hown, fun x hx => by have := hlt.out x hx; unfold I64; omega⟩
      have hrl := red_length o
      go_wp2_with fail
      refine (reduceLettersS_any _ o wr hI (by omega)).mono ?_
      rintro e w2 ⟨v2, rfl, o2, hb2⟩
      go_wp2
      go_ret
      exact ⟨v2, red o, rfl, o2.base hg.size, ⟨red_reduced o, by omega, fun x hx => hlt.out x (red_mem hx)⟩, hc.keep hb2, hg.trans (grown_below hb2)⟩
end Go.Proofs.Ytbghnllflfcfhaa
