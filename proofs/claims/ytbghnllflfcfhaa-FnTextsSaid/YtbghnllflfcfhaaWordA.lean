/- Contracts of areInverse, product, ReduceLetters. Conditions: words of at most 2^23 letters. -/
import Derived.Test.YtbghnllflfcfhaaInts
import Derived.Test.YtbghnllflfcfhaaWordMath
namespace Go.Proofs.Ytbghnllflfcfhaa
open Go.RowKit

theorem areInverse_any (a b : Int) (ha : I64 a) (w : World) : Calls Try.prog 76 #[.int .i64 a, .int .i64 b] w fun e w' => e = .returned (.bool (inv a b)) ∧ w = w' := by
  obtain ⟨h1, h2⟩ := ha
  by_cases h0 : a = 0
  · have e : inv a b = false := by simp [inv, h0]
    have hd : (a != 0) = false := by simp [h0]
    rw [e]
    clear e h0
    go_enter Try.func76, Try.ntmps76
    go_wp2
    go_ret
    exact ⟨rfl, rfl⟩
  · have hd : (a != 0) = true := by simp [h0]
    by_cases hm : a = -9223372036854775808
    · have e : inv a b = false := by simp [inv, hm]
      have hd2 : (a != -9223372036854775808) = false := by simp [hm]
      rw [e]
      clear e h0 hm
      go_enter Try.func76, Try.ntmps76
      go_wp2
      go_ret
      exact ⟨rfl, rfl⟩
    · have hd2 : (a != -9223372036854775808) = true := by simp [hm]
      have hlo : -9223372036854775807 ≤ a := by omega
      have e : inv a b = (b == -a) := by
        rw [Bool.eq_iff_iff]
        simp [inv, h0, hm]
        omega
      rw [e]
      clear e h0 hm h1
      go_enter Try.func76, Try.ntmps76
      go_wp2
      go_ret
      exact ⟨rfl, rfl⟩

/-- The slice of slices v reads as the list of lists ls. -/
def Rows2 (w : World) (v : Value) (ls : List (List Int)) : Prop :=
  ∃ b off cap, v = .slice (some ⟨b, off, none⟩) ls.length cap ∧ ls.length ≤ cap ∧ b < w.heap.size ∧ ∀ i (h : i < ls.length), ∃ vi, w.cell? ⟨b, off + i, none⟩ = some vi ∧ Ints w vi ls[i]
theorem Rows2.keep {w w' : World} {v : Value} {ls : List (List Int)} (h : Rows2 w v ls) (hB : Below w.heap.size w w') : Rows2 w' v ls := by
  obtain ⟨b, off, cap, rfl, hc, hb, hcell⟩ := h
  refine ⟨b, off, cap, rfl, hc, Nat.lt_of_lt_of_le hb hB.size, fun i hi => ?_⟩
  obtain ⟨vi, h1, h2⟩ := hcell i hi
  exact ⟨vi, (hB.cell (p := ⟨b, off + i, none⟩) hb).trans h1, h2.keep hB⟩

theorem ownsRow_pop {w : World} {B : Nat} {e : TypeId} {g n cap : Nat} {xs : List Value} {x : Value} (h : w.ownsRow B e 1 (.slice (some ⟨g, 0, none⟩) (n + 1) cap) (n + 1) (xs ++ [x])) : w.ownsRow B e 1 (.slice (some ⟨g, 0, none⟩) n cap) n xs := by
  have hl := h.1
  rcases h.2 with ⟨hv, _⟩ | ⟨g', cap', cur, hv, hb, hg, hn, hc, hs, ht⟩
  · cases hv
  · simp only [Value.slice.injEq, Option.some.injEq, Addr.mk.injEq, and_true] at hv
    obtain ⟨rfl, _, rfl⟩ := hv
    refine ⟨by simpa using hl, .inr ⟨g, cap, cur, rfl, hb, hg, by omega, hc, hs, ?_⟩⟩
    have e1 : cur.toList.take (n * 1) = (cur.toList.take ((n + 1) * 1)).take n := by rw [List.take_take]; congr 1; omega
    rw [e1, ht]
    have : xs.length = n := by simpa using hl
    rw [← this, List.take_left]

set_option maxHeartbeats 1600000 in
theorem product_any (v : Value) (ls : List (List Int)) (w : World) (h : Rows2 w v ls) (hn : ls.length ≤ 1048576) (hlen : ls.flatten.length ≤ 134217728) :
    Calls Try.prog 69 #[v] w (RetI w (red ls.flatten)) := by
  obtain ⟨b, off, cap, rfl, hc, hb, hcell⟩ := h
  have H := Lib.hid hcell
  have hlk : Kept _ := ⟨hlen⟩
  clear hcell hlen
  go_enter Try.func69, Try.ntmps69
  go_wp2
  go_loopw [3, 5, 7, 11, 15, 16, 17] (fun out _ _ i _ _ _ wr => ∃ (k g cap : Nat) (o : List Int), k ≤ ls.length ∧ i = .int .i64 k ∧ out = .slice (some ⟨g, 0, none⟩) o.length cap ∧ wr.ownsRow w.heap.size 3 1 (.slice (some ⟨g, 0, none⟩) o.length cap) o.length (intsV o) ∧ Kept (o = red (ls.take k).flatten) ∧ Kept (∀ x ∈ o, I64 x) ∧ Below w.heap.size w wr)
    (fun _ _ _ i _ _ _ _ => ls.length - (intOf i).toNat)
  case atStart => exact ⟨0, _, 0, [], by omega, rfl, rfl, World.ownsRow_made _ _ _ (Nat.le_refl _) (by decide) rfl, ⟨rfl⟩, ⟨by simp⟩, (Below.refl _ _).alloc (Nat.le_refl _) _⟩
  case round =>
    obtain ⟨k, g, cap1, o, hk, rfl, rfl, hown, hok, hor, hbel⟩ := hrel
    by_cases hlt : k < ls.length
    · obtain ⟨vi, hvi, hints⟩ := H.out k hlt
      obtain ⟨bi, offi, capi, rfl, hci, hbi, hcelli, hri⟩ := hints
      have hc1 : wr.cell? ⟨b, off + k, none⟩ = some (.slice (some ⟨bi, offi, none⟩) ls[k].length capi) := (hbel.cell (p := ⟨b, off + k, none⟩) hb).trans hvi
      have HI := Lib.hid hcelli
      have hkl : (k : Int) < (ls.length : Int) := by omega
      have hsum : Kept ((ls.take k).flatten.length + ls[k].length ≤ 134217728) := ⟨by
        have e1 : ls.flatten.length = ((ls.take (k + 1)).flatten ++ (ls.drop (k + 1)).flatten).length := by rw [← List.flatten_append, List.take_append_drop]
        rw [List.take_succ_eq_append_getElem hlt] at e1
        simp only [List.flatten_append, List.length_append, List.flatten_cons, List.flatten_nil, List.append_nil] at e1
        have := hlk.out
        omega⟩
      obtain ⟨L, hL⟩ : ∃ L, L = ls[k] := ⟨_, rfl⟩
      rw [← hL] at hc1 HI hsum hri
      have hLk : Kept _ := ⟨hL⟩
      have hLlen : L.length ≤ 134217728 := by have := hsum.out; omega
      clear hcelli hvi hci hL
      have hol : o.length + L.length ≤ 134217728 := by
        have h1 := red_length (ls.take k).flatten
        rw [← hok.out] at h1
        have := hsum.out
        omega
      go_wp2
      obtain ⟨wo, rfl⟩ : ∃ wo : World, wo = wr := ⟨_, rfl⟩
      go_loopw [3, 7, 17] (fun out _ i wr => ∃ (j g1 cap2 : Nat) (o1 : List Int), j ≤ L.length ∧ i = .int .i64 j ∧ o1.length + L.length ≤ 134217728 + j ∧ out = .slice (some ⟨g1, 0, none⟩) o1.length cap2 ∧ wr.ownsRow w.heap.size 3 1 (.slice (some ⟨g1, 0, none⟩) o1.length cap2) o1.length (intsV o1) ∧ Kept (o1 = (L.take j).foldl push o) ∧ Kept (∀ x ∈ o1, I64 x) ∧ Below w.heap.size w wr)
        (fun _ _ i _ => L.length - (intOf i).toNat)
      case atStart => exact ⟨0, g, cap1, o, by omega, rfl, by omega, rfl, hown, ⟨rfl⟩, ⟨hor.out⟩, hbel⟩
      case round =>
        obtain ⟨j, g1, cap2, o1, hj, rfl, hol1, rfl, hown1, hok1, hor1, hbel1⟩ := hrel
        have hg1 : w.heap.size ≤ g1 := (ownsRow_parts hown1).1
        by_cases hjl : j < L.length
        · have hcx : wr.cell? ⟨bi, offi + j, none⟩ = some (.int .i64 L[j]) := (hbel1.cell (p := ⟨bi, offi + j, none⟩) hbi).trans (HI.out j hjl)
          have hjl2 : (j : Int) < (L.length : Int) := by omega
          have hxr : I64 L[j] := hri _ (List.getElem_mem hjl)
          obtain ⟨x, hx⟩ : ∃ x, x = L[j] := ⟨_, rfl⟩
          rw [← hx] at hcx hxr
          have hstep : Kept ((L.take (j + 1)).foldl push o = push o1 x) := ⟨by rw [List.take_succ_eq_append_getElem hjl, List.foldl_append, ← hok1.out, hx]; rfl⟩
          clear hx hok1
          rcases List.eq_nil_or_concat o1 with rfl | ⟨o2, y, rfl⟩
          · go_wp2_with (at_builtin; refine wpl_push elemI rfl (.tmp 39) (.tmp 41) rfl rfl (hown1.alloc _) rfl (heap_alloc_new _ _) rfl (by simp) ?_; intro g' cap' w1 hown' hgrow hat)

            have hb1 := below_push hbel1 hgrow hg1 (Nat.le_refl _)
            have hm : ∀ z ∈ [x], I64 z := by intro z hz; simp at hz; rw [hz]; exact hxr
            have hp : Kept ([x] = (L.take (j + 1)).foldl push o) := ⟨by rw [hstep.out, push_nil]⟩
            have hm' : Kept _ := ⟨hm⟩
            clear hm hstep
            go_roundw
            case rel => exact ⟨j + 1, g', cap', [x], by omega, by go_num, by simp at hol1 ⊢; omega, rfl, hown', hp, hm', hb1⟩
            case measure => simp [intOf]; omega
          · rw [List.concat_eq_append] at *
            have hlen2 : (o2 ++ [y]).length = o2.length + 1 := by simp
            have hyr : I64 y := hor1.out y (by simp)
            rw [hlen2] at hown1 hol1 
            have hcy : wr.cell? ⟨g1, o2.length, none⟩ = some (.int .i64 y) := by
              have := hown1.cellAt o2.length (by omega)
              rw [this]; simp [intsV]
            cases hiv : inv y x with
            | true =>
              have hpop := ownsRow_pop (show wr.ownsRow w.heap.size 3 1 (.slice (some ⟨g1, 0, none⟩) (o2.length + 1) cap2) (o2.length + 1) (intsV o2 ++ [.int .i64 y]) by rw [intsV_append] at hown1; exact hown1)
              have hm : Kept (∀ z ∈ o2, I64 z) := ⟨fun z hz => hor1.out z (by simp [hz])⟩
              have hp : Kept (o2 = (L.take (j + 1)).foldl push o) := ⟨by rw [hstep.out, push_inv hiv]⟩
              have hlc : o2.length ≤ cap2 := by have := (ownsRow_parts hown1).2.2.1; omega
              clear hstep
              rw [hlen2]
              go_wp2_with (go_at_call 76; refine (areInverse_any _ _ hyr _).mono ?_; rintro e w' ⟨rfl, rfl⟩)
              go_roundw
              case rel => exact ⟨j + 1, g1, cap2, o2, by omega, by go_num, by omega, rfl, hpop, hp, hm, hbel1⟩
              case measure => simp [intOf]; omega
            | false =>
              have hm : Kept (∀ z ∈ o2 ++ [y] ++ [x], I64 z) := ⟨fun z hz => by rcases List.mem_append.mp hz with h | h; exact hor1.out z h; simp at h; rw [h]; exact hxr⟩
              have hp : Kept (o2 ++ [y] ++ [x] = (L.take (j + 1)).foldl push o) := ⟨by rw [hstep.out, push_not hiv]⟩
              clear hstep
              rw [hlen2]
              go_wp2_with (first | (go_at_call 76; refine (areInverse_any _ _ hyr _).mono ?_; rintro e w' ⟨rfl, rfl⟩) | (at_builtin; refine wpl_push elemI rfl (.tmp 39) (.tmp 41) rfl rfl (hown1.alloc _) rfl (heap_alloc_new _ _) rfl (by omega) ?_; intro g' cap' w1 hown' hgrow hat))

              have hb1 := below_push hbel1 hgrow hg1 (Nat.le_refl _)
              have hlen3 : o2.length + 1 + 1 = (o2 ++ [y] ++ [x]).length := by simp
              have ho3 : w1.ownsRow w.heap.size 3 1 (.slice (some ⟨g', 0, none⟩) (o2.length + 1 + 1) cap') (o2.length + 1 + 1) (intsV (o2 ++ [y] ++ [x])) := by rw [intsV_append (o2 ++ [y])]; exact hown'
              clear hown'
              go_roundw
              case rel => exact ⟨j + 1, g', cap', o2 ++ [y] ++ [x], by omega, by go_num, by omega, by rw [hlen3], by rw [← hlen3]; exact ho3, hp, hm, hb1⟩
              case measure => simp [intOf]; omega
        · obtain rfl : j = L.length := by omega
          go_wp2
          go_roundw
          case rel =>
            refine ⟨k + 1, g1, cap2, o1, by omega, by go_num, rfl, hown1, ⟨?_⟩, ⟨hor1.out⟩, hbel1⟩
            rw [List.take_succ_eq_append_getElem hlt, List.flatten_append, red_append, ← hok.out, hok1.out, List.take_length, hLk.out]
            simp
          case measure => simp [intOf]; omega
    · obtain rfl : k = ls.length := by omega
      go_wp2
      go_ret
      have ho := hok.out
      rw [List.take_length] at ho
      rw [← ho]
      exact RetI.mk rfl hown hor.out hbel
end Go.Proofs.Ytbghnllflfcfhaa
