/- Contracts of the references' draws of texts. Conditions: codes of at most 2^20 bytes, texts of at most 255 bytes. -/
import Derived.Test.YtpebiacdkfpnpaaGreatDrawW
import Derived.Test.YtpebiacdkfpnpaaGreatSmall
import Derived.Deep.RegionWith
namespace Go.Proofs.YtpebiacdkfpnpaaGreat
open Go.RowKit

/-- A text of at most n bytes is handed back; nothing is turned but the cursor. -/
def RetT (w : World) (k : Nat) (A : Option Addr) (len n : Nat) (e : Ending) (w' : World) : Prop := ∃ s : ByteArray, e = .returned (.string s) ∧ s.size ≤ n ∧ Cur w' k A len ∧ w.grownBy w' (some k)
set_option maxRecDepth 20000 in
set_option maxHeartbeats 1600000 in
theorem l1Text_any (k : Nat) (A : Option Addr) (len m : Nat) (w : World) (h : Cur w k A len) (hm : m ≤ 255) :
    Calls Tryz.prog 73 #[.pointer (some ⟨k, 0, none⟩), .int .i64 m] w (RetT w k A len m) := by
  have hk := h.lt
  have hA := h.code
  have hal : Below w.heap.size w (w.alloc (.cells #[] 5 (0, 0))) := (Below.refl _ _).alloc (Nat.le_refl _) _
  have HB4 := Lib.hid (l1Below_small k A len 4 _ (h.keep hal) (by decide) (by decide))
  have HB := Lib.hid (fun W (hc : Cur W k A len) => l1Below_small k A len (m + 1) W hc (by omega) (by omega))
  have HY := Lib.hid (fun W (hc : Cur W k A len) => l1Byte_any k A len W hc)
  go_enter Tryz.func73, Tryz.ntmps73
  go_wp2_with fail
  refine (HB4.out).mono ?_
  rintro e w1 ⟨st, rfl, hst, hc1, hg1⟩
  have hg1' : w.grownBy w1 (some k) := (grown_below hal).trans hg1
  have ho1 : w1.ownsRow w.heap.size 5 1 (.slice (some ⟨w.heap.size, 0, none⟩) 0 0) 0 (bytesV []) := (World.ownsRow_made w #[] 0 (Nat.le_refl _) (by decide) rfl : (w.alloc (.cells #[] 5 (0, 0))).ownsRow w.heap.size 5 1 (.slice (some ⟨w.heap.size, 0, none⟩) 0 0) 0 []).kept hg1 (.inr (by simp only [Value.ownBlock, ne_eq, Option.some.injEq]; omega))
  clear hal hg1
  rcases (show st = 1 ∨ st = 2 ∨ (¬ (st : Int) = 1 ∧ ¬ (st : Int) = 2) by omega) with rfl | rfl | ⟨s1I, s2I⟩
  · go_wp2_with fail
    have hbm := HB.out w1 hc1
    rw [Int.natCast_add] at hbm
    refine (hbm).mono ?_
    rintro e w2 ⟨x0, rfl, hx0, hc2, hg2⟩
    have hg2' := hg1'.trans hg2
    have ho2 := ho1.kept hg2 (.inr (by simp only [Value.ownBlock, ne_eq, Option.some.injEq]; omega))
    clear hbm hg2 hg1' ho1 hc1
    go_wp2
    go_loopw [5, 7, 8] (fun out n _ wr => ∃ (j g cap2 : Nat) (o : List UInt8), n = .int .i64 j ∧ j + o.length ≤ m ∧ out = .slice (some ⟨g, 0, none⟩) o.length cap2 ∧ wr.ownsRow w.heap.size 5 1 (.slice (some ⟨g, 0, none⟩) o.length cap2) o.length (bytesV o) ∧ Kept (Cur wr k A len ∧ w.grownBy wr (some k)))
      (fun _ n _ _ => (intOf n).toNat)
    case atStart => exact ⟨x0, _, _, [], rfl, by simp; omega, rfl, ho2, ⟨hc2, hg2'⟩⟩
    case round =>
      obtain ⟨j, g, cap2, o, rfl, hjo, rfl, hown, hcg⟩ := hrel
      obtain ⟨hc, hg⟩ := hcg.out
      have hgl : w.heap.size ≤ g := (ownsRow_parts hown).1
      by_cases hj : 0 < j
      case neg =>
        obtain rfl : j = 0 := by omega
        have hconv := run_str_of_row (P := Tryz.prog) (src := 22) (dst := 9) Tryz.underlying22 Tryz.underlying5 Tryz.underlying9 hown
        go_wp2
        go_ret
        exact ⟨_, rfl, by simp [ByteArray.size]; omega, hc, hg⟩
      have hjI : (0 : Int) < (j : Int) := by omega
      have hol1 : o.length + 1 ≤ 1099511627776 := by omega
      go_wp2_with fail
      refine (HY.out wr hc).mono ?_
      rintro e w3 ⟨t, rfl, ht, hc3, hg3⟩
      have hown3 := hown.kept hg3 (.inr (by simp only [Value.ownBlock, ne_eq, Option.some.injEq]; omega))
      have hg3' := hg.trans hg3
      clear hown hg3 hc hg hcg
      have htb : (t : Int) % 2 < 256 := by omega
      go_wp2_with (at_builtin; refine wpl_push elemB rfl (.tmp 31) (.tmp 34) rfl rfl (hown3.alloc _) rfl (heap_alloc_new _ _) rfl (by omega) ?_; intro g' cap' w4 hown' hgrow hat)
      have hg4 := grown_push (hg3'.trans (World.grownBy_alloc _ _ _)) hgrow hgl
      have hc4 := (hc3.keep ((Below.refl _ _).alloc (Nat.le_refl _) _)).push hgrow hk hA hgl
      go_roundw
      case rel =>
        refine ⟨j - 1, g', cap', o ++ [UInt8.ofNat (t % 2)], by go_num, by simp; omega, by simp, ?_, ⟨hc4, hg4⟩⟩
        rw [bytesV_append, ← bytesV_one _ (by omega), List.length_append]
        simpa using hown'
      case measure => simp [intOf]; omega
  · go_wp2_with fail
    have hbm := HB.out w1 hc1
    rw [Int.natCast_add] at hbm
    refine (hbm).mono ?_
    rintro e w2 ⟨x0, rfl, hx0, hc2, hg2⟩
    have hg2' := hg1'.trans hg2
    have ho2 := ho1.kept hg2 (.inr (by simp only [Value.ownBlock, ne_eq, Option.some.injEq]; omega))
    clear hbm hg2 hg1' ho1 hc1
    go_wp2
    go_loopw [5, 7, 8] (fun out n _ wr => ∃ (j g cap2 : Nat) (o : List UInt8), n = .int .i64 j ∧ j + o.length ≤ m ∧ out = .slice (some ⟨g, 0, none⟩) o.length cap2 ∧ wr.ownsRow w.heap.size 5 1 (.slice (some ⟨g, 0, none⟩) o.length cap2) o.length (bytesV o) ∧ Kept (Cur wr k A len ∧ w.grownBy wr (some k)))
      (fun _ n _ _ => (intOf n).toNat)
    case atStart => exact ⟨x0, _, _, [], rfl, by simp; omega, rfl, ho2, ⟨hc2, hg2'⟩⟩
    case round =>
      obtain ⟨j, g, cap2, o, rfl, hjo, rfl, hown, hcg⟩ := hrel
      obtain ⟨hc, hg⟩ := hcg.out
      have hgl : w.heap.size ≤ g := (ownsRow_parts hown).1
      by_cases hj : 0 < j
      case neg =>
        obtain rfl : j = 0 := by omega
        have hconv := run_str_of_row (P := Tryz.prog) (src := 22) (dst := 9) Tryz.underlying22 Tryz.underlying5 Tryz.underlying9 hown
        go_wp2
        go_ret
        exact ⟨_, rfl, by simp [ByteArray.size]; omega, hc, hg⟩
      have hjI : (0 : Int) < (j : Int) := by omega
      have hol1 : o.length + 1 ≤ 1099511627776 := by omega
      go_wp2_with fail
      refine (HY.out wr hc).mono ?_
      rintro e w3 ⟨t, rfl, ht, hc3, hg3⟩
      have hown3 := hown.kept hg3 (.inr (by simp only [Value.ownBlock, ne_eq, Option.some.injEq]; omega))
      have hg3' := hg.trans hg3
      clear hown hg3 hc hg hcg
      have htb : (97 : Int) + (t : Int) % 4 < 256 := by omega
      go_wp2_with (at_builtin; refine wpl_push elemB rfl (.tmp 31) (.tmp 34) rfl rfl (hown3.alloc _) rfl (heap_alloc_new _ _) rfl (by omega) ?_; intro g' cap' w4 hown' hgrow hat)
      have hg4 := grown_push (hg3'.trans (World.grownBy_alloc _ _ _)) hgrow hgl
      have hc4 := (hc3.keep ((Below.refl _ _).alloc (Nat.le_refl _) _)).push hgrow hk hA hgl
      go_roundw
      case rel =>
        refine ⟨j - 1, g', cap', o ++ [UInt8.ofNat (97 + t % 4)], by go_num, by simp; omega, by simp, ?_, ⟨hc4, hg4⟩⟩
        rw [bytesV_append, ← bytesV_one _ (by omega), List.length_append]
        simpa using hown'
      case measure => simp [intOf]; omega
  · go_wp2_with fail
    have hbm := HB.out w1 hc1
    rw [Int.natCast_add] at hbm
    refine (hbm).mono ?_
    rintro e w2 ⟨x0, rfl, hx0, hc2, hg2⟩
    have hg2' := hg1'.trans hg2
    have ho2 := ho1.kept hg2 (.inr (by simp only [Value.ownBlock, ne_eq, Option.some.injEq]; omega))
    clear hbm hg2 hg1' ho1 hc1
    go_wp2
    go_loopw [5, 7, 8] (fun out n _ wr => ∃ (j g cap2 : Nat) (o : List UInt8), n = .int .i64 j ∧ j + o.length ≤ m ∧ out = .slice (some ⟨g, 0, none⟩) o.length cap2 ∧ wr.ownsRow w.heap.size 5 1 (.slice (some ⟨g, 0, none⟩) o.length cap2) o.length (bytesV o) ∧ Kept (Cur wr k A len ∧ w.grownBy wr (some k)))
      (fun _ n _ _ => (intOf n).toNat)
    case atStart => exact ⟨x0, _, _, [], rfl, by simp; omega, rfl, ho2, ⟨hc2, hg2'⟩⟩
    case round =>
      obtain ⟨j, g, cap2, o, rfl, hjo, rfl, hown, hcg⟩ := hrel
      obtain ⟨hc, hg⟩ := hcg.out
      have hgl : w.heap.size ≤ g := (ownsRow_parts hown).1
      by_cases hj : 0 < j
      case neg =>
        obtain rfl : j = 0 := by omega
        have hconv := run_str_of_row (P := Tryz.prog) (src := 22) (dst := 9) Tryz.underlying22 Tryz.underlying5 Tryz.underlying9 hown
        go_wp2
        go_ret
        exact ⟨_, rfl, by simp [ByteArray.size]; omega, hc, hg⟩
      have hjI : (0 : Int) < (j : Int) := by omega
      have hol1 : o.length + 1 ≤ 1099511627776 := by omega
      go_wp2_with fail
      refine (HY.out wr hc).mono ?_
      rintro e w3 ⟨t, rfl, ht, hc3, hg3⟩
      have hown3 := hown.kept hg3 (.inr (by simp only [Value.ownBlock, ne_eq, Option.some.injEq]; omega))
      have hg3' := hg.trans hg3
      clear hown hg3 hc hg hcg
      have htb : (t : Int) < 256 := by omega
      go_wp2_with (at_builtin; refine wpl_push elemB rfl (.tmp 31) (.tmp 34) rfl rfl (hown3.alloc _) rfl (heap_alloc_new _ _) rfl (by omega) ?_; intro g' cap' w4 hown' hgrow hat)
      have hg4 := grown_push (hg3'.trans (World.grownBy_alloc _ _ _)) hgrow hgl
      have hc4 := (hc3.keep ((Below.refl _ _).alloc (Nat.le_refl _) _)).push hgrow hk hA hgl
      go_roundw
      case rel =>
        refine ⟨j - 1, g', cap', o ++ [UInt8.ofNat (t)], by go_num, by simp; omega, by simp, ?_, ⟨hc4, hg4⟩⟩
        rw [bytesV_append, ← bytesV_one _ (by omega), List.length_append]
        simpa using hown'
      case measure => simp [intOf]; omega
end Go.Proofs.YtpebiacdkfpnpaaGreat
