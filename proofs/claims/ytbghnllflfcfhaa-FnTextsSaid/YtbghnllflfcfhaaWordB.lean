/- Contracts of ReduceLetters, MultiplyWords, InvertWord. Conditions: words of at most 2^26 letters. -/
import Derived.Test.YtbghnllflfcfhaaWordA
namespace Go.Proofs.Ytbghnllflfcfhaa
open Go.RowKit

theorem RetI.from {w w1 w' : World} {l : List Int} {e : Ending} (hb : Below w.heap.size w w1) (h : RetI w1 l e w') : RetI w l e w' := by
  obtain ⟨v, rfl, ho, hb'⟩ := h
  exact ⟨v, rfl, ho.base hb.size, hb.trans (hb'.mono hb.size)⟩
theorem Ints.form {w : World} {v : Value} {l : List Int} (h : Ints w v l) : ∃ b off cap, v = .slice (some ⟨b, off, none⟩) l.length cap ∧ b < w.heap.size ∧ l.length ≤ cap := by
  obtain ⟨b, off, cap, rfl, hc, hb, _⟩ := h; exact ⟨b, off, cap, rfl, hb, hc⟩
theorem intsV_one (l : List Int) : ∀ u ∈ intsV l, u.oneCell' = true := by
  intro u hu; simp only [intsV, List.mem_map] at hu; obtain ⟨x, _, rfl⟩ := hu; rfl
theorem Ints.news {w : World} {b off cap : Nat} {l : List Int} {n : Nat} (h : Ints w (.slice (some ⟨b, off, none⟩) n cap) l) : ∀ j u, (intsV l)[j]? = some u → w.cell? ((⟨b, off, none⟩ : Addr).add j) = some u := by
  obtain ⟨b', off', cap', hv, hc, hb, hcell, hr⟩ := h
  simp only [Value.slice.injEq, Option.some.injEq, Addr.mk.injEq, and_true] at hv
  obtain ⟨⟨rfl, rfl⟩, rfl, rfl⟩ := hv
  intro j u hu
  rw [intsV, List.getElem?_map, Option.map_eq_some_iff] at hu
  obtain ⟨x, hx, rfl⟩ := hu
  obtain ⟨hj, rfl⟩ := List.getElem?_eq_some_iff.1 hx
  rw [Addr.add_lit]
  exact hcell j hj
/-- A row of slices, built here. -/
theorem rows2_alloc {w w1 : World} {e : TypeId} {fr : Nat × Nat} {cs : Array Value} {ls : List (List Int)} (hw : Below w.heap.size w w1) (hb : w1.heap[w.heap.size]? = some (.cells cs e fr)) 
    (h : ∀ i (hi : i < ls.length), ∃ vi, cs[i]? = some vi ∧ Ints w vi ls[i]) : Rows2 w1 (.slice (some ⟨w.heap.size, 0, none⟩) ls.length ls.length) ls := by
  refine ⟨_, _, _, rfl, Nat.le_refl _, (Array.getElem?_eq_some_iff.1 hb).1, fun i hi => ?_⟩
  obtain ⟨vi, h1, h2⟩ := h i hi
  refine ⟨vi, ?_, h2.keep hw⟩
  have := World.news_of_block hb i vi (by simpa using h1)
  rwa [Addr.add_lit] at this
theorem rows2_one {w : World} {v1 : Value} {l1 : List Int} (e : TypeId) (h1 : Ints w v1 l1) :
    Rows2 (w.alloc (.cells #[v1] e (0, 0))) (.slice (some ⟨w.heap.size, 0, none⟩) 1 1) [l1] :=
  rows2_alloc (ls := [l1]) ((Below.refl _ _).alloc (Nat.le_refl _) _) (heap_alloc_new _ _) fun i hi => by
    match i, hi with | 0, _ => exact ⟨_, rfl, h1⟩
theorem rows2_two {w : World} {v1 v2 : Value} {l1 l2 : List Int} (e : TypeId) (h1 : Ints w v1 l1) (h2 : Ints w v2 l2) :
    Rows2 (w.alloc (.cells #[v1, v2] e (0, 0))) (.slice (some ⟨w.heap.size, 0, none⟩) 2 2) [l1, l2] :=
  rows2_alloc (ls := [l1, l2]) ((Below.refl _ _).alloc (Nat.le_refl _) _) (heap_alloc_new _ _) fun i hi => by
    match i, hi with | 0, _ => exact ⟨_, rfl, h1⟩ | 1, _ => exact ⟨_, rfl, h2⟩
theorem rows2_three {w : World} {v1 v2 v3 : Value} {l1 l2 l3 : List Int} (e : TypeId) (h1 : Ints w v1 l1) (h2 : Ints w v2 l2) (h3 : Ints w v3 l3) :
    Rows2 (w.alloc (.cells #[v1, v2, v3] e (0, 0))) (.slice (some ⟨w.heap.size, 0, none⟩) 3 3) [l1, l2, l3] :=
  rows2_alloc (ls := [l1, l2, l3]) ((Below.refl _ _).alloc (Nat.le_refl _) _) (heap_alloc_new _ _) fun i hi => by
    match i, hi with | 0, _ => exact ⟨_, rfl, h1⟩ | 1, _ => exact ⟨_, rfl, h2⟩ | 2, _ => exact ⟨_, rfl, h3⟩
theorem rows2_four {w : World} {v1 v2 v3 v4 : Value} {l1 l2 l3 l4 : List Int} (e : TypeId) (h1 : Ints w v1 l1) (h2 : Ints w v2 l2) (h3 : Ints w v3 l3) (h4 : Ints w v4 l4) :
    Rows2 (w.alloc (.cells #[v1, v2, v3, v4] e (0, 0))) (.slice (some ⟨w.heap.size, 0, none⟩) 4 4) [l1, l2, l3, l4] :=
  rows2_alloc (ls := [l1, l2, l3, l4]) ((Below.refl _ _).alloc (Nat.le_refl _) _) (heap_alloc_new _ _) fun i hi => by
    match i, hi with | 0, _ => exact ⟨_, rfl, h1⟩ | 1, _ => exact ⟨_, rfl, h2⟩ | 2, _ => exact ⟨_, rfl, h3⟩ | 3, _ => exact ⟨_, rfl, h4⟩

theorem reduceLetters_any (v : Value) (l : List Int) (w : World) (h : Ints w v l) (hn : l.length ≤ 67108864) :
    Calls Try.prog 35 #[v] w (RetI w (red l)) := by
  obtain ⟨b, off, cap, rfl, hb, hcap⟩ := h.form
  have hR := rows2_one 22 h
  have hc := product_any _ _ _ hR (by simp) (by simp; omega)
  go_enter Try.func35, Try.ntmps35
  go_wp2_with fail
  refine hc.mono ?_
  rintro e w1 ⟨v1, rfl, hr1⟩
  go_wp2
  go_ret
  have hr : RetI _ _ (.returned v1) w1 := ⟨v1, rfl, hr1⟩
  simpa using RetI.from ((Below.refl _ _).alloc (Nat.le_refl _) _) hr
theorem multiplyWords_any (v1 v2 : Value) (l1 l2 : List Int) (w : World) (h1 : Ints w v1 l1) (h2 : Ints w v2 l2) (hn1 : l1.length ≤ 33554432) (hn2 : l2.length ≤ 33554432) :
    Calls Try.prog 18 #[v1, v2] w (RetI w (red (l1 ++ l2))) := by
  obtain ⟨b1, off1, cap1, rfl, hb1, hcap1⟩ := h1.form
  obtain ⟨b2, off2, cap2, rfl, hb2, hcap2⟩ := h2.form
  have hR := rows2_two 22 h1 h2
  have hc := product_any _ _ _ hR (by simp) (by simp; omega)
  go_enter Try.func18, Try.ntmps18
  go_wp2_with fail
  refine hc.mono ?_
  rintro e w1 ⟨v1, rfl, hr1⟩
  go_wp2
  go_ret
  have hr : RetI _ _ (.returned v1) w1 := ⟨v1, rfl, hr1⟩
  simpa using RetI.from ((Below.refl _ _).alloc (Nat.le_refl _) _) hr
theorem invW_drop {l : List Int} {k : Nat} (h : k < l.length) : invW (l.drop k) = invW (l.drop (k + 1)) ++ [neg l[k]] := by
  simp only [invW]; rw [List.drop_eq_getElem_cons h, List.map_cons, List.reverse_cons]
theorem neg_i64 {x : Int} (h : I64 x) : I64 (neg x) := by unfold neg I64 at *; split <;> omega
theorem invW_i64 {l : List Int} (h : ∀ x ∈ l, I64 x) : ∀ x ∈ invW l, I64 x := by
  intro x hx
  simp only [invW, List.mem_reverse, List.mem_map] at hx
  obtain ⟨y, hy, rfl⟩ := hx
  exact neg_i64 (h y hy)
theorem wrap_neg {x : Int} (h : I64 x) : wrap64 (-x) = neg x := by
  obtain ⟨h1, h2⟩ := h
  unfold neg wrap64
  split <;> omega
set_option maxHeartbeats 800000 in
theorem invertWord_any (v : Value) (l : List Int) (w : World) (h : Ints w v l) (hn : l.length ≤ 134217728) :
    Calls Try.prog 21 #[v] w (RetI w (invW l)) := by
  obtain ⟨b, off, cap, rfl, hc, hb, hcell, hr⟩ := h
  have H := Lib.hid hcell
  clear hcell
  obtain ⟨i0, hi, hz0, hz1, hz2⟩ := info_parts elemI.info
  go_enter Try.func21, Try.ntmps21
  go_wp2_with (at_make; refine wpList_make_own _ rfl _ _ 22 rfl w.heap.size 3 i0 (.int .i64 0) 1 Try.underlying22 hi hz0 hz1 _ _ _ l.length rfl rfl (by omega) (by rw [hz2]; omega) (by unfold maxLen; omega) (Nat.le_refl _) ?_; intro w0 hown0 hgrow0)
  have hb0 : Below w.heap.size w w0 := (Below.refl _ _).grown hgrow0 (Nat.le_refl _) (fun k h => by cases h)
  clear hgrow0
  go_loopw [3, 4] (fun out i wr => ∃ (k g cap2 : Nat) (o : List Int), k ≤ l.length ∧ i = .int .i64 ((k : Int) - 1) ∧ Kept (o.length + k = l.length) ∧ out = .slice (some ⟨g, 0, none⟩) o.length cap2 ∧ wr.ownsRow w.heap.size 3 1 (.slice (some ⟨g, 0, none⟩) o.length cap2) o.length (intsV o) ∧ Kept (o = invW (l.drop k)) ∧ Below w.heap.size w wr)
    (fun _ i _ => (intOf i + 1).toNat)
  case atStart => exact ⟨l.length, _, _, [], by omega, rfl, ⟨by simp⟩, rfl, hown0, ⟨by simp [invW]⟩, hb0⟩
  case round =>
    obtain ⟨k, g, cap2, o, hk, rfl, hol, rfl, hown, hok, hbel⟩ := hrel
    have hg : w.heap.size ≤ g := (ownsRow_parts hown).1
    by_cases hlt : 0 < k
    · obtain ⟨k, rfl⟩ : ∃ k', k = k' + 1 := ⟨k - 1, by omega⟩
      have hcx : wr.cell? ⟨b, off + k, none⟩ = some (.int .i64 l[k]) := (hbel.cell (p := ⟨b, off + k, none⟩) hb).trans (H.out k (by omega))
      have hxr : I64 l[k] := hr _ (List.getElem_mem (by omega))
      obtain ⟨x, hx⟩ : ∃ x, x = l[k] := ⟨_, rfl⟩
      have hstep : Kept (o ++ [neg x] = invW (l.drop k)) := ⟨by rw [invW_drop (by omega), ← hok.out, hx]⟩
      rw [← hx] at hcx hxr
      have hwn := wrap_neg hxr
      have hol2 : o.length + (k + 1) = l.length := hol.out
      have hol1 : o.length + 1 ≤ 134217728 := by omega
      have hol3 : Kept ((o ++ [neg x]).length + k = l.length) := ⟨by simp; omega⟩
      clear hx hol2 hok
      go_wp2_with (at_builtin; refine wpl_push elemI rfl (.tmp 15) (.tmp 21) rfl rfl (hown.alloc _) rfl (heap_alloc_new _ _) rfl (by omega) ?_; intro g' cap' w1 hown' hgrow hat)
      have hb1 := below_push hbel hgrow hg (Nat.le_refl _)
      have hlen3 : o.length + 1 = (o ++ [neg x]).length := by simp
      have ho3 : w1.ownsRow w.heap.size 3 1 (.slice (some ⟨g', 0, none⟩) (o.length + 1) cap') (o.length + 1) (intsV (o ++ [neg x])) := by rw [intsV_append]; exact hown'
      clear hown' hxr hwn
      go_roundw
      case rel => exact ⟨k, g', cap', o ++ [neg x], by omega, rfl, hol3, by rw [hlen3], by rw [← hlen3]; exact ho3, hstep, hb1⟩
      case measure => simp [intOf]
    · obtain rfl : k = 0 := by omega
      go_wp2
      go_ret
      have := hok.out
      rw [List.drop_zero] at this
      subst this
      exact RetI.mk rfl hown (invW_i64 hr) hbel
set_option maxHeartbeats 800000 in
theorem invertWordS_any (v : Value) (l : List Int) (w : World) (h : Ints w v l) (hn : l.length ≤ 134217728) :
    Calls Try.prog 43 #[v] w (RetI w (invW l)) := by
  obtain ⟨b, off, cap, rfl, hc, hb, hcell, hr⟩ := h
  have H := Lib.hid hcell
  clear hcell
  go_enter Try.func43, Try.ntmps43
  go_wp2
  go_loopw [3, 4] (fun out i wr => ∃ (k g cap2 : Nat) (o : List Int), k ≤ l.length ∧ i = .int .i64 ((k : Int) - 1) ∧ Kept (o.length + k = l.length) ∧ out = .slice (some ⟨g, 0, none⟩) o.length cap2 ∧ wr.ownsRow w.heap.size 3 1 (.slice (some ⟨g, 0, none⟩) o.length cap2) o.length (intsV o) ∧ Kept (o = invW (l.drop k)) ∧ Below w.heap.size w wr)
    (fun _ i _ => (intOf i + 1).toNat)
  case atStart => exact ⟨l.length, _, _, [], by omega, rfl, ⟨by simp⟩, rfl, World.ownsRow_made _ _ _ (Nat.le_refl _) (by decide) rfl, ⟨by simp [invW]⟩, (Below.refl _ _).alloc (Nat.le_refl _) _⟩
  case round =>
    obtain ⟨k, g, cap2, o, hk, rfl, hol, rfl, hown, hok, hbel⟩ := hrel
    have hg : w.heap.size ≤ g := (ownsRow_parts hown).1
    by_cases hlt : 0 < k
    · obtain ⟨k, rfl⟩ : ∃ k', k = k' + 1 := ⟨k - 1, by omega⟩
      have hcx : wr.cell? ⟨b, off + k, none⟩ = some (.int .i64 l[k]) := (hbel.cell (p := ⟨b, off + k, none⟩) hb).trans (H.out k (by omega))
      have hxr : I64 l[k] := hr _ (List.getElem_mem (by omega))
      obtain ⟨x, hx⟩ : ∃ x, x = l[k] := ⟨_, rfl⟩
      have hstep : Kept (o ++ [neg x] = invW (l.drop k)) := ⟨by rw [invW_drop (by omega), ← hok.out, hx]⟩
      rw [← hx] at hcx hxr
      have hwn := wrap_neg hxr
      have hol2 : o.length + (k + 1) = l.length := hol.out
      have hol1 : o.length + 1 ≤ 134217728 := by omega
      have hol3 : Kept ((o ++ [neg x]).length + k = l.length) := ⟨by simp; omega⟩
      clear hx hol2 hok
      go_wp2_with (at_builtin; refine wpl_push elemI rfl (.tmp 13) (.tmp 19) rfl rfl (hown.alloc _) rfl (heap_alloc_new _ _) rfl (by omega) ?_; intro g' cap' w1 hown' hgrow hat)
      have hb1 := below_push hbel hgrow hg (Nat.le_refl _)
      have hlen3 : o.length + 1 = (o ++ [neg x]).length := by simp
      have ho3 : w1.ownsRow w.heap.size 3 1 (.slice (some ⟨g', 0, none⟩) (o.length + 1) cap') (o.length + 1) (intsV (o ++ [neg x])) := by rw [intsV_append]; exact hown'
      clear hown' hxr hwn
      go_roundw
      case rel => exact ⟨k, g', cap', o ++ [neg x], by omega, rfl, hol3, by rw [hlen3], by rw [← hlen3]; exact ho3, hstep, hb1⟩
      case measure => simp [intOf]
    · obtain rfl : k = 0 := by omega
      go_wp2
      go_ret
      have := hok.out
      rw [List.drop_zero] at this
      subst this
      exact RetI.mk rfl hown (invW_i64 hr) hbel
/-- What the reference's test of two letters says. -/
theorem inv_test {x y : Int} (hx : I64 x) (hy : I64 y) : inv y x = (decide (x ≠ 0) && (decide (y = neg x) && decide (y ≠ x))) := by
  obtain ⟨h1, h2⟩ := hx
  obtain ⟨h3, h4⟩ := hy
  rw [Bool.eq_iff_iff]
  simp only [inv, Bool.and_eq_true, decide_eq_true_eq]
  unfold neg
  split <;> omega
set_option maxHeartbeats 1600000 in
theorem reduceLettersS_any (v : Value) (L : List Int) (w : World) (h : Ints w v L) (hLlen : L.length ≤ 67108864) :
    Calls Try.prog 16 #[v] w (RetI w (red L)) := by
  obtain ⟨bi, offi, capi, rfl, hci, hbi, hcelli, hri⟩ := h
  have HI := Lib.hid hcelli
  clear hcelli
  go_enter Try.func16, Try.ntmps16
  go_wp2
  go_loopw [3, 4, 5] (fun out i _ wr => ∃ (j g1 cap2 : Nat) (o1 : List Int), j ≤ L.length ∧ i = .int .i64 j ∧ o1.length ≤ j ∧ out = .slice (some ⟨g1, 0, none⟩) o1.length cap2 ∧ wr.ownsRow w.heap.size 3 1 (.slice (some ⟨g1, 0, none⟩) o1.length cap2) o1.length (intsV o1) ∧ Kept (o1 = red (L.take j)) ∧ Kept (∀ x ∈ o1, I64 x) ∧ Below w.heap.size w wr)
    (fun _ i _ _ => L.length - (intOf i).toNat)
  case atStart => exact ⟨0, _, 0, [], by omega, rfl, by simp, rfl, World.ownsRow_made _ _ _ (Nat.le_refl _) (by decide) rfl, ⟨rfl⟩, ⟨by simp⟩, (Below.refl _ _).alloc (Nat.le_refl _) _⟩
  case round =>
    obtain ⟨j, g1, cap2, o1, hj, rfl, hol1, rfl, hown1, hok1, hor1, hbel1⟩ := hrel
    have hg1 : w.heap.size ≤ g1 := (ownsRow_parts hown1).1
    by_cases hjl : j < L.length
    · have hcx : wr.cell? ⟨bi, offi + j, none⟩ = some (.int .i64 L[j]) := (hbel1.cell (p := ⟨bi, offi + j, none⟩) hbi).trans (HI.out j hjl)
      have hjl2 : (j : Int) < (L.length : Int) := by omega
      have hxr : I64 L[j] := hri _ (List.getElem_mem hjl)
      obtain ⟨x, hx⟩ : ∃ x, x = L[j] := ⟨_, rfl⟩
      rw [← hx] at hcx hxr
      have hstep : Kept (red (L.take (j + 1)) = push o1 x) := ⟨by rw [List.take_succ_eq_append_getElem hjl, red_snoc, ← hok1.out, hx]⟩
      clear hx hok1
      rcases List.eq_nil_or_concat o1 with rfl | ⟨o2, y, rfl⟩
      · go_wp2
        go_quiet (fail)
        have hown1 := ownsRow_drewN nq hown1
        have hbel1 := below_drewN nq hbel1
        go_wp2_with (at_builtin; refine wpl_push elemI rfl (.tmp 53) (.tmp 58) rfl rfl (hown1.alloc _) rfl (heap_alloc_new _ _) rfl (by simp) ?_; intro g' cap' w1 hown' hgrow hat)
        have hb1 := below_push hbel1 hgrow hg1 (Nat.le_refl _)
        have hm : ∀ z ∈ [x], I64 z := by intro z hz; simp at hz; rw [hz]; exact hxr
        have hp : Kept ([x] = red (L.take (j + 1))) := ⟨by rw [hstep.out, push_nil]⟩
        have hm' : Kept _ := ⟨hm⟩
        clear hm hstep
        go_roundw
        case rel => exact ⟨j + 1, g', cap', [x], by omega, by go_num, by simp, rfl, hown', hp, hm', hb1⟩
        case measure => simp [intOf]; omega
      · rw [List.concat_eq_append] at *
        have hlen2 : (o2 ++ [y]).length = o2.length + 1 := by simp
        have hyr : I64 y := hor1.out y (by simp)
        rw [hlen2] at hown1 hol1 
        have hcy : wr.cell? ⟨g1, o2.length, none⟩ = some (.int .i64 y) := by
          have := hown1.cellAt o2.length (by omega)
          rw [this]; simp [intsV]
        have hit := inv_test hxr hyr
        have hwn := wrap_neg hxr
        by_cases hx0 : x = 0
        · skip
          have hiv : inv y x = false := by rw [hit]; simp [hx0]
          have hd0 : (x != 0) = false := by simp [hx0]
          have hm : Kept (∀ z ∈ o2 ++ [y] ++ [x], I64 z) := ⟨fun z hz => by rcases List.mem_append.mp hz with h | h; exact hor1.out z h; simp at h; rw [h]; exact hxr⟩
          have hp : Kept (o2 ++ [y] ++ [x] = red (L.take (j + 1))) := ⟨by rw [hstep.out, push_not hiv]⟩
          clear hstep hit hx0
          rw [hlen2]
          go_wp2
          go_quiet (fail)
          have hown1 := ownsRow_drewN nq hown1
          have hbel1 := below_drewN nq hbel1
          go_wp2_with (at_builtin; refine wpl_push elemI rfl (.tmp 53) (.tmp 58) rfl rfl (hown1.alloc _) rfl (heap_alloc_new _ _) rfl (by omega) ?_; intro g' cap' w1 hown' hgrow hat)
          have hb1 := below_push hbel1 hgrow hg1 (Nat.le_refl _)
          have hlen3 : o2.length + 1 + 1 = (o2 ++ [y] ++ [x]).length := by simp
          have ho3 : w1.ownsRow w.heap.size 3 1 (.slice (some ⟨g', 0, none⟩) (o2.length + 1 + 1) cap') (o2.length + 1 + 1) (intsV (o2 ++ [y] ++ [x])) := by rw [intsV_append (o2 ++ [y])]; exact hown'
          clear hown'
          go_roundw
          case rel => exact ⟨j + 1, g', cap', o2 ++ [y] ++ [x], by omega, by go_num, by omega, by rw [hlen3], by rw [← hlen3]; exact ho3, hp, hm, hb1⟩
          case measure => simp [intOf]; omega
        have hd0 : (x != 0) = true := by simp [hx0]
        by_cases hx1 : y = neg x
        case neg =>
          have hiv : inv y x = false := by rw [hit]; simp [hx1]
          have hd1 : (y == neg x) = false := by simp [hx1]
          have hm : Kept (∀ z ∈ o2 ++ [y] ++ [x], I64 z) := ⟨fun z hz => by rcases List.mem_append.mp hz with h | h; exact hor1.out z h; simp at h; rw [h]; exact hxr⟩
          have hp : Kept (o2 ++ [y] ++ [x] = red (L.take (j + 1))) := ⟨by rw [hstep.out, push_not hiv]⟩
          clear hstep hit hx0 hx1
          rw [hlen2]
          go_wp2
          go_quiet (fail)
          have hown1 := ownsRow_drewN nq hown1
          have hbel1 := below_drewN nq hbel1
          go_wp2_with (at_builtin; refine wpl_push elemI rfl (.tmp 53) (.tmp 58) rfl rfl (hown1.alloc _) rfl (heap_alloc_new _ _) rfl (by omega) ?_; intro g' cap' w1 hown' hgrow hat)
          have hb1 := below_push hbel1 hgrow hg1 (Nat.le_refl _)
          have hlen3 : o2.length + 1 + 1 = (o2 ++ [y] ++ [x]).length := by simp
          have ho3 : w1.ownsRow w.heap.size 3 1 (.slice (some ⟨g', 0, none⟩) (o2.length + 1 + 1) cap') (o2.length + 1 + 1) (intsV (o2 ++ [y] ++ [x])) := by rw [intsV_append (o2 ++ [y])]; exact hown'
          clear hown'
          go_roundw
          case rel => exact ⟨j + 1, g', cap', o2 ++ [y] ++ [x], by omega, by go_num, by omega, by rw [hlen3], by rw [← hlen3]; exact ho3, hp, hm, hb1⟩
          case measure => simp [intOf]; omega
        have hd1 : (y == neg x) = true := by simp [hx1]
        by_cases hx2 : y = x
        · skip
          have hiv : inv y x = false := by rw [hit]; simp [hx2]
          have hd2 : (y != x) = false := by simp [hx2]
          have hm : Kept (∀ z ∈ o2 ++ [y] ++ [x], I64 z) := ⟨fun z hz => by rcases List.mem_append.mp hz with h | h; exact hor1.out z h; simp at h; rw [h]; exact hxr⟩
          have hp : Kept (o2 ++ [y] ++ [x] = red (L.take (j + 1))) := ⟨by rw [hstep.out, push_not hiv]⟩
          clear hstep hit hx0 hx1 hx2
          rw [hlen2]
          go_wp2
          go_quiet (fail)
          have hown1 := ownsRow_drewN nq hown1
          have hbel1 := below_drewN nq hbel1
          go_wp2_with (at_builtin; refine wpl_push elemI rfl (.tmp 53) (.tmp 58) rfl rfl (hown1.alloc _) rfl (heap_alloc_new _ _) rfl (by omega) ?_; intro g' cap' w1 hown' hgrow hat)
          have hb1 := below_push hbel1 hgrow hg1 (Nat.le_refl _)
          have hlen3 : o2.length + 1 + 1 = (o2 ++ [y] ++ [x]).length := by simp
          have ho3 : w1.ownsRow w.heap.size 3 1 (.slice (some ⟨g', 0, none⟩) (o2.length + 1 + 1) cap') (o2.length + 1 + 1) (intsV (o2 ++ [y] ++ [x])) := by rw [intsV_append (o2 ++ [y])]; exact hown'
          clear hown'
          go_roundw
          case rel => exact ⟨j + 1, g', cap', o2 ++ [y] ++ [x], by omega, by go_num, by omega, by rw [hlen3], by rw [← hlen3]; exact ho3, hp, hm, hb1⟩
          case measure => simp [intOf]; omega
        · have hx2' : neg x ≠ x := by rw [← hx1]; exact hx2
          have hiv : inv y x = true := by rw [hit]; simp [hx0, hx1, hx2']
          have hd2 : (y != x) = true := by simp [hx2]
          have hpop := ownsRow_pop (show wr.ownsRow w.heap.size 3 1 (.slice (some ⟨g1, 0, none⟩) (o2.length + 1) cap2) (o2.length + 1) (intsV o2 ++ [.int .i64 y]) by rw [intsV_append] at hown1; exact hown1)
          have hm : Kept (∀ z ∈ o2, I64 z) := ⟨fun z hz => hor1.out z (by simp [hz])⟩
          have hp : Kept (o2 = red (L.take (j + 1))) := ⟨by rw [hstep.out, push_inv hiv]⟩
          have hlc : o2.length ≤ cap2 := by have := (ownsRow_parts hown1).2.2.1; omega
          clear hstep hit hx0 hx1 hx2 hx2'
          rw [hlen2]
          go_wp2
          go_quiet (fail)
          have hpop := ownsRow_drewN nq hpop
          have hbel1 := below_drewN nq hbel1
          go_wp2
          go_roundw
          case rel => exact ⟨j + 1, g1, cap2, o2, by omega, by go_num, by omega, rfl, hpop, hp, hm, hbel1⟩
          case measure => simp [intOf]; omega
    · obtain rfl : j = L.length := by omega
      go_wp2_with (at_builtin; refine wpl_app elemI rfl (.tmp 60) (.tmp 61) rfl rfl (World.ownsRow_made _ _ _ hbel1.size (by decide) rfl) rfl (by simp [intsV]) ((hown1.alloc _).cells rfl) (intsV_one _) (by omega) ?_; intro g' cap' w1 hown' hgrow hat)
      go_ret
      have ho := hok1.out
      rw [List.take_length] at ho
      rw [← ho]
      exact RetI.mk (by simp) (by simpa using hown') hor1.out (below_push hbel1 hgrow hbel1.size (Nat.le_refl _))
theorem multiplyWordsS_any (v1 v2 : Value) (l1 l2 : List Int) (w : World) (h1 : Ints w v1 l1) (h2 : Ints w v2 l2) (hn1 : l1.length ≤ 33554432) (hn2 : l2.length ≤ 33554432) :
    Calls Try.prog 20 #[v1, v2] w (RetI w (red (l1 ++ l2))) := by
  obtain ⟨b1, off1, cap1, rfl, hb1, hcap1⟩ := h1.form
  obtain ⟨b2, off2, cap2, rfl, hb2, hcap2⟩ := h2.form
  have hr1 := h1.range
  have hr2 := h2.range
  go_enter Try.func20, Try.ntmps20
  go_wp2_with (first
    | (at_builtin; refine wpl_app elemI rfl (.tmp 5) (.tmp 6) rfl rfl (World.ownsRow_made _ _ _ (Nat.le_refl _) (by decide) rfl) rfl (by simp [intsV]) (h1.keep ((Below.refl _ _).alloc (Nat.le_refl _) _)).news (intsV_one _) (by omega) ?_; intro g1 c1 w1 hown1 hgrow1 hat1; simp only [Nat.zero_add, List.nil_append] at hown1; have hB1 := below_push (Below.refl _ _) hgrow1 (Nat.le_refl _) (Nat.le_refl _); have hg1 := (ownsRow_parts hown1).1)
    | (at_builtin; refine wpl_app elemI rfl (.tmp 7) (.tmp 8) rfl rfl hown1 rfl (by simp [intsV]) (h2.keep hB1).news (intsV_one _) (by omega) ?_; intro g2 c2 w2 hown2 hgrow2 hat2; have hB2 := below_grown hB1 hgrow2 hB1.size hg1))
  have hI : Ints w2 (.slice (some ⟨g2, 0, none⟩) (l1.length + l2.length) c2) (l1 ++ l2) := by
    have := (OwnI.ints (B := w.heap.size) ⟨g2, c2, rfl, by rw [intsV_append, List.length_append]; exact hown2, fun x hx => by rcases List.mem_append.mp hx with h | h; exact hr1 x h; exact hr2 x h⟩)
    simpa using this
  refine (reduceLettersS_any _ _ _ hI (by simp; omega)).mono ?_
  rintro e w3 ⟨v3, rfl, hr3⟩
  go_wp2
  go_ret
  exact RetI.from hB2 ⟨v3, rfl, hr3⟩
end Go.Proofs.Ytbghnllflfcfhaa
