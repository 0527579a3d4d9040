/- Contracts of the references' draws for the laws on words; of laws.big and laws.sameInts. Conditions: codes of at most 2^20 bytes. -/
import Derived.Test.YtbghnllflfcfhaaDrawX
import Derived.Test.YtbghnllflfcfhaaWordC
namespace Go.Proofs.Ytbghnllflfcfhaa
open Go.RowKit

theorem big_fits (A : Option Addr) (len cap : Nat) (w : World) (h : (len : Int) ≤ 1048576) : Calls Try.prog 14 #[.slice A len cap] w fun e w' => e = .returned (.bool false) ∧ Below w.heap.size w w' := by
  go_enter Try.func14, Try.ntmps14
  go_wp2
  go_ret
  exact ⟨congrArg (fun b => Ending.returned (.bool b)) (decide_eq_false (by omega)), Below.refl _ _⟩
theorem big_over (A : Option Addr) (len cap : Nat) (w : World) (h : ¬ (len : Int) ≤ 1048576) : Calls Try.prog 14 #[.slice A len cap] w fun e w' => e = .returned (.bool true) ∧ Below w.heap.size w w' := by
  have h1 : (1048576 : Int) < (len : Int) := by omega
  go_enter Try.func14, Try.ntmps14
  go_wp2
  go_ret
  exact ⟨rfl, Below.refl _ _⟩
/-- The first part of a code. -/
theorem CodeArg.less {w : World} {A : Option Addr} {len n : Nat} (h : CodeArg w A len) (hn : n ≤ len) : CodeArg w A n := fun h0 => by
  obtain ⟨b, off, e, hb, hc⟩ := h (by omega)
  exact ⟨b, off, e, hb, fun j hj => hc j (by omega)⟩
theorem sameInts_any (v1 v2 : Value) (l1 l2 : List Int) (w : World) (h1 : Ints w v1 l1) (h2 : Ints w v2 l2) (hn1 : l1.length ≤ 134217728) :
    Calls Try.prog 19 #[v1, v2] w (RetV w (.bool (eqL l1 l2))) := by
  obtain ⟨b1, off1, cap1, rfl, hc1, hb1, hcell1, _⟩ := h1
  obtain ⟨b2, off2, cap2, rfl, hc2, hb2, hcell2, _⟩ := h2
  have H1 := Lib.hid hcell1
  have H2 := Lib.hid hcell2
  clear hcell1 hcell2
  by_cases hl : l1.length = l2.length
  case neg =>
    rw [eqL_len hl]
    have hd : ((l1.length : Int) != (l2.length : Int)) = true := by simp; omega
    go_enter Try.func19, Try.ntmps19
    go_wp2
    go_ret
    exact ⟨rfl, Below.refl _ _⟩
  have hlk : Kept _ := ⟨hl⟩
  have hl2 : l1.length ≤ l2.length := by omega
  rw [← hl]
  clear hl
  go_enter Try.func19, Try.ntmps19
  go_wp2
  go_loopw [5] (fun i wr => ∃ k : Nat, k ≤ l1.length ∧ i = .int .i64 k ∧ Kept (l1.take k = l2.take k) ∧ ∃ n, wr = w.drewN n) (fun i _ => l1.length - (intOf i).toNat)
  case atStart => exact ⟨0, by omega, rfl, ⟨by simp⟩, 0, rfl⟩
  case round =>
    obtain ⟨k, hk, rfl, hkk, n, rfl⟩ := hrel
    by_cases hlt : k < l1.length
    · have hlt2 : k < l2.length := by omega
      have hkl : (k : Int) < (l1.length : Int) := by omega
      have e1 : w.cell? ⟨b1, off1 + k, none⟩ = some (.int .i64 l1[k]) := H1.out k hlt
      have e2 : w.cell? ⟨b2, off2 + k, none⟩ = some (.int .i64 l2[k]) := H2.out k hlt2
      by_cases he : l1[k] = l2[k]
      · have hk2 : Kept _ := ⟨take_same hkk.out hlt hlt2 he⟩
        have hd : (l1[k] != l2[k]) = false := by simp [he]
        clear he hkk
        go_wp2
        go_quiet (fail)
        go_wp2
        go_roundw
        case rel => exact ⟨k + 1, by omega, by go_num, hk2, n + nq, rfl⟩
        case measure => simp [intOf]; omega
      · rw [eqL_at hlt hlt2 he]
        have hd : (l1[k] != l2[k]) = true := by simp [he]
        clear he hkk
        go_wp2
        go_quiet (fail)
        go_wp2
        go_ret
        exact ⟨rfl, below_drewN _ (below_drewN _ (Below.refl _ _))⟩
    · obtain rfl : k = l1.length := by omega
      have hall : eqL l1 l2 = true := eqL_all hlk.out hkk.out
      go_wp2
      go_ret
      exact ⟨by rw [hall]; rfl, below_drewN _ (Below.refl _ _)⟩
set_option maxHeartbeats 1600000 in
theorem drawMultiplyWords_any (A : Option Addr) (len cap : Nat) (w : World) (h : CodeArg w A len) (hl : len ≤ 1048576) : Calls Try.prog 15 #[.slice A len cap] w (RetTwo w) := by
  have HN := Lib.hid (l2Two_any A len cap w h hl)
  clear h
  go_enter Try.func15, Try.ntmps15
  go_wp2_with fail
  refine (HN.out).mono ?_
  rintro e w1 ⟨v1, l1, v2, l2, rfl, o1, o2, f1, f2, hB⟩
  go_wp2
  go_ret2
  exact ⟨v1, l1, v2, l2, rfl, o1, o2, f1, f2, hB⟩
set_option maxHeartbeats 1600000 in
theorem drawCommutatorOf_any (A : Option Addr) (len cap : Nat) (w : World) (h : CodeArg w A len) (hl : len ≤ 1048576) : Calls Try.prog 25 #[.slice A len cap] w (RetTwo w) := by
  have HN := Lib.hid (l2Two_any A len cap w h hl)
  clear h
  go_enter Try.func25, Try.ntmps25
  go_wp2_with fail
  refine (HN.out).mono ?_
  rintro e w1 ⟨v1, l1, v2, l2, rfl, o1, o2, f1, f2, hB⟩
  go_wp2
  go_ret2
  exact ⟨v1, l1, v2, l2, rfl, o1, o2, f1, f2, hB⟩
set_option maxHeartbeats 1600000 in
theorem drawConjugateWord_any (A : Option Addr) (len cap : Nat) (w : World) (h : CodeArg w A len) (hl : len ≤ 1048576) : Calls Try.prog 26 #[.slice A len cap] w (RetTwo w) := by
  have HN := Lib.hid (l2Two_any A len cap w h hl)
  clear h
  go_enter Try.func26, Try.ntmps26
  go_wp2_with fail
  refine (HN.out).mono ?_
  rintro e w1 ⟨v1, l1, v2, l2, rfl, o1, o2, f1, f2, hB⟩
  go_wp2
  go_ret2
  exact ⟨v1, l1, v2, l2, rfl, o1, o2, f1, f2, hB⟩
/-- One short word in new memory. -/
def RetOne (w : World) (e : Ending) (w' : World) : Prop := ∃ v l, e = .returned v ∧ OwnI w' w.heap.size v l ∧ Few l ∧ Below w.heap.size w w'
set_option maxHeartbeats 1600000 in
theorem drawInvertWord_any (A : Option Addr) (len cap : Nat) (w : World) (h : CodeArg w A len) (hl : len ≤ 1048576) : Calls Try.prog 17 #[.slice A len cap] w (RetOne w) := by
  have HN := Lib.hid (l2Two_any A len cap w h hl)
  clear h
  go_enter Try.func17, Try.ntmps17
  go_wp2_with fail
  refine (HN.out).mono ?_
  rintro e w1 ⟨v1, l1, v2, l2, rfl, o1, _, f1, _, hB⟩
  go_wp2
  go_ret
  exact ⟨v1, l1, rfl, o1, f1, hB⟩
/-- A number and a short word in new memory. -/
def RetNW (w : World) (e : Ending) (w' : World) : Prop := ∃ r v l, e = .returned (.tuple #[.int .i64 r, v]) ∧ OwnI w' w.heap.size v l ∧ (-1 ≤ r ∧ r ≤ 4) ∧ Few l ∧ Below w.heap.size w w'
set_option maxHeartbeats 1600000 in
theorem drawIsWord_any (A : Option Addr) (len cap : Nat) (w : World) (h : CodeArg w A len) (hl : len ≤ 1048576) : Calls Try.prog 27 #[.slice A len cap] w (RetNW w) := by
  have HN := Lib.hid (l1New_any A len cap w h hl)
  clear h
  go_enter Try.func27, Try.ntmps27
  go_wp2_with fail
  refine (HN.out).mono ?_
  rintro e w1 ⟨k, rfl, hk, hc, hB1⟩
  go_wp2_with fail
  refine (l2Any_any k A len w1 hc).mono ?_
  rintro e w2 ⟨r1, v1, l1, rfl, o1, ⟨hr, f1⟩, hc2, hg2⟩
  have HR := Lib.hid hr
  clear hr
  go_wp2
  go_ret2
  exact ⟨r1, v1, l1, rfl, o1.base hB1.size, HR.out, f1, hB1.trans (below_of_grown hg2 hB1.size hk)⟩
/-- A short word in new memory and a number. -/
def RetWN (w : World) (e : Ending) (w' : World) : Prop := ∃ v l r, e = .returned (.tuple #[v, .int .i64 r]) ∧ OwnI w' w.heap.size v l ∧ (-25 ≤ r ∧ r ≤ 25) ∧ Few l ∧ Below w.heap.size w w'
set_option maxHeartbeats 1600000 in
theorem drawPowerWord_any (A : Option Addr) (len cap : Nat) (w : World) (h : CodeArg w A len) (hl : len ≤ 1048576) : Calls Try.prog 22 #[.slice A len cap] w (RetWN w) := by
  have HN := Lib.hid (l1New_any A len cap w h hl)
  clear h
  go_enter Try.func22, Try.ntmps22
  go_wp2_with fail
  refine (HN.out).mono ?_
  rintro e w1 ⟨k, rfl, hk, hc, hB1⟩
  go_wp2_with fail
  refine (l2Any_any k A len w1 hc).mono ?_
  rintro e w2 ⟨r1, v1, l1, rfl, o1, ⟨_, f1⟩, hc2, hg2⟩
  have hB2 := hB1.trans (below_of_grown hg2 hB1.size hk)
  have hkl := hc2.lt
  have hkb := hc.lt
  have hal : Below w2.heap.size w2 (w2.alloc (.cells #[.int .i64 (-25), .int .i64 (-3), .int .i64 (-1), .int .i64 0, .int .i64 1, .int .i64 2, .int .i64 3, .int .i64 24, .int .i64 25] 3 (0, 0))) := (Below.refl _ _).alloc (Nat.le_refl _) _
  have hI : Ints (w2.alloc (.cells #[.int .i64 (-25), .int .i64 (-3), .int .i64 (-1), .int .i64 0, .int .i64 1, .int .i64 2, .int .i64 3, .int .i64 24, .int .i64 25] 3 (0, 0))) (.slice (some ⟨w2.heap.size, 0, none⟩) 9 9) [-25, -3, -1, 0, 1, 2, 3, 24, 25] := ints_lit w2 [-25, -3, -1, 0, 1, 2, 3, 24, 25] (by simp [I64])
  have HP := Lib.hid (l1PickInt_any k A len _ [-25, -3, -1, 0, 1, 2, 3, 24, 25] _ (hc2.keep hal) hI (lit_ne hkl) (by decide) (by decide))
  clear hI hc
  go_wp2_with fail
  refine (HP.out).mono ?_
  rintro e w3 ⟨x, rfl, hx, hc3, hg3⟩
  have hx' : -25 ≤ x ∧ x ≤ 25 := by simp at hx; omega
  have HX := Lib.hid hx'
  clear hx hx'
  have hg3' := (grown_below (row := some k) hal).trans hg3
  go_wp2
  go_ret2
  exact ⟨v1, l1, x, rfl, (own_apart o1 hg3' hkb).base hB1.size, HX.out, f1, hB2.trans (below_of_grown hg3' hB2.size hk)⟩
set_option maxHeartbeats 1600000 in
theorem drawReduceLetters_any (A : Option Addr) (len cap : Nat) (w : World) (h : CodeArg w A len) (hl : len ≤ 1048576) : Calls Try.prog 28 #[.slice A len cap] w (RetOne w) := by
  have HN := Lib.hid (l1New_any A len cap w h hl)
  clear h
  go_enter Try.func28, Try.ntmps28
  go_wp2_with fail
  refine (HN.out).mono ?_
  rintro e w0 ⟨k, rfl, hkw, hc0, hB0⟩
  have hk := hc0.lt
  have hA := hc0.code
  have hal : Below w0.heap.size w0 (w0.alloc (.cells #[] 3 (0, 0))) := (Below.refl _ _).alloc (Nat.le_refl _) _
  have HB := Lib.hid (l1Below_small k A len 12 _ (hc0.keep hal) (by decide) (by decide))
  have HB5 := Lib.hid (fun W (hc : Cur W k A len) => l1Below_small k A len 5 W hc (by decide) (by decide))
  go_wp2_with fail
  refine (HB.out).mono ?_
  rintro e w1 ⟨x0, rfl, hx0, hc1, hg1⟩
  have hg1' : w0.grownBy w1 (some k) := (grown_below hal).trans hg1
  have ho1 : w1.ownsRow w0.heap.size 3 1 (.slice (some ⟨w0.heap.size, 0, none⟩) 0 0) 0 (intsV []) := (World.ownsRow_made w0 #[] 0 (Nat.le_refl _) (by decide) rfl : (w0.alloc (.cells #[] 3 (0, 0))).ownsRow w0.heap.size 3 1 (.slice (some ⟨w0.heap.size, 0, none⟩) 0 0) 0 []).kept hg1 (.inr (by simp only [Value.ownBlock, ne_eq, Option.some.injEq]; omega))
  clear hal hg1
  go_wp2
  go_loopw [4, 5] (fun out n wr => ∃ (j g cap2 : Nat) (o : List Int), n = .int .i64 j ∧ j + o.length ≤ 11 ∧ out = .slice (some ⟨g, 0, none⟩) o.length cap2 ∧ wr.ownsRow w0.heap.size 3 1 (.slice (some ⟨g, 0, none⟩) o.length cap2) o.length (intsV o) ∧ Kept (∀ x ∈ o, -4 ≤ x ∧ x ≤ 4) ∧ Kept (Cur wr k A len ∧ w0.grownBy wr (some k)))
    (fun _ n _ => (intOf n).toNat)
  case atStart => exact ⟨x0, _, _, [], rfl, by simp; omega, rfl, ho1, ⟨by simp⟩, ⟨hc1, hg1'⟩⟩
  case round =>
    obtain ⟨j, g, cap2, o, rfl, hjo, rfl, hown, hlt, hcg⟩ := hrel
    obtain ⟨hc, hg⟩ := hcg.out
    have hgl : w0.heap.size ≤ g := (ownsRow_parts hown).1
    by_cases hj : 0 < j
    · have hjI : (0 : Int) < (j : Int) := by omega
      have hol1 : o.length + 1 ≤ 1099511627776 := by omega
      go_wp2_with fail
      refine (HB5.out wr hc).mono ?_
      rintro e w3 ⟨t, rfl, ht, hc3, hg3⟩
      have hown3 := hown.kept hg3 (.inr (by simp only [Value.ownBlock, ne_eq, Option.some.injEq]; omega))
      have hg3' := hg.trans hg3
      clear hown hg3 hc hg hcg
      have hst : Kept (∀ x ∈ o ++ [(t : Int) - 2], -4 ≤ x ∧ x ≤ 4) := ⟨fun x hx => by
        rcases List.mem_append.1 hx with hx | hx
        · exact hlt.out x hx
        · simp at hx; omega⟩
      go_wp2_with (at_builtin; refine wpl_push elemI rfl (.tmp 15) (.tmp 19) rfl rfl (hown3.alloc _) rfl (heap_alloc_new _ _) rfl (by omega) ?_; intro g' cap' w4 hown' hgrow hat)
      have hg4 := grown_push (hg3'.trans (World.grownBy_alloc _ _ _)) hgrow hgl
      have hc4 := (hc3.keep ((Below.refl _ _).alloc (Nat.le_refl _) _)).push hgrow hk hA hgl
      have hl3 : o.length + 1 = (o ++ [(t : Int) - 2]).length := by simp
      have HL3 := Lib.hid hl3
      clear hl3
      go_roundw
      case rel => exact ⟨j - 1, g', cap', o ++ [(t : Int) - 2], by go_num, by simp; omega, by rw [HL3.out], by rw [← HL3.out, intsV_append]; exact hown', hst, ⟨hc4, hg4⟩⟩
      case measure => simp [intOf]; omega
    · obtain rfl : j = 0 := by omega
      go_wp2
      go_ret
      exact ⟨_, o, rfl, OwnI.base (B := w0.heap.size) ⟨g, cap2, rfl, hown, fun x hx => by have := hlt.out x hx; unfold I64; omega⟩ hB0.size, ⟨by omega, hlt.out⟩, hB0.trans (below_of_grown hg hB0.size hkw)⟩
end Go.Proofs.Ytbghnllflfcfhaa
