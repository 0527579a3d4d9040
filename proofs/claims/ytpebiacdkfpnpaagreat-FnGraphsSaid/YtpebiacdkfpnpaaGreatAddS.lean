/- Contract of the reference's AddEdge. Conditions: at most 2^20 edges. -/
import Derived.Test.YtpebiacdkfpnpaaGreatPutS
namespace Go.Proofs.YtpebiacdkfpnpaaGreat
open Go.RowKit Go.Sort

set_option maxRecDepth 20000 in
set_option maxHeartbeats 3200000 in
theorem addEdgeS_any (r n : Int) (v : Value) (l : List Ed) (e : Ed) (he : I64E e) (w : World) (h : Edges w v l) (hk : NilOk v) (hn : l.length ≤ 1048576) :
    Calls Tryz.prog 7 #[graphV r n v, edV e] w (RetG2 w r n (addEL r n l e) (.bool (addEOk r n l e))) := by
  obtain ⟨W, hW⟩ : ∃ W, W = (((w.alloc (.cells #[.int .i64 r, .int .i64 n, v] 26 (0, 0))).alloc (.cells #[.int .i64 e.1, .int .i64 e.2.1, .int .i64 e.2.2] 28 (0, 0))).alloc (.cells #[.int .i64 0, .int .i64 0, .slice none 0 0] 26 (0, 0))) := ⟨_, rfl⟩
  have hB : Below w.heap.size w W := by rw [hW]; exact (((Below.refl _ _).alloc (Nat.le_refl _) _).alloc (by simp) _).alloc (by simp; omega) _
  have bx1 : Box W w.heap.size (.cells #[.int .i64 r, .int .i64 n, v] 26 (0, 0)) := by rw [hW]; exact (Box.first _ _ _).keep ((Below.refl _ _).alloc (Nat.le_refl _) _)
  have bxe : Box W (w.heap.size + 1) (.cells #[.int .i64 e.1, .int .i64 e.2.1, .int .i64 e.2.2] 28 (0, 0)) := by rw [hW]; exact heap_one _ _ _ _
  have bxr : Box W (w.heap.size + 1 + 1) (.cells #[.int .i64 0, .int .i64 0, .slice none 0 0] 26 (0, 0)) := by rw [hW]; exact heap_two _ _ _ _
  have hsz : W.heap.size = w.heap.size + 3 := by rw [hW]; simp
  have hcp := l4Copy_any r n v l W (h.keep hB) hk hn
  obtain ⟨y, hy⟩ : ∃ y, y = isG r n l := ⟨_, rfl⟩
  obtain ⟨y2, hy2⟩ : ∃ y, y = okE r n e := ⟨_, rfl⟩
  have hq := fun W' (hb : Below w.heap.size w W') => isGraphS_any r n v l W' (h.keep hb) hn
  have hput := fun W' (hb : Below w.heap.size w W') => l4Put_any v l e he W' (h.keep hb) hn
  obtain ⟨A, cap, rfl, _⟩ := id h
  have hac := fun W' => l4Edge_any r n e A l.length cap W'
  rw [← hy] at hq
  rw [← hy2] at hac
  have HQ := Lib.hid hq
  have HAC := Lib.hid hac
  have HPUT := Lib.hid hput
  have HCP := Lib.hid hcp
  have HW := Lib.hid hW
  have BX1 := Lib.hid bx1
  have BXE := Lib.hid bxe
  have BXR := Lib.hid bxr
  have HY := Lib.hid hy
  have HY2 := Lib.hid hy2
  have HSZ := Lib.hid hsz
  have HE := Lib.hid he
  clear hW bx1 bxe bxr hq hac hput hcp hy hy2 h hk hsz he
  go_enter Tryz.func7, Tryz.ntmps7
  go_wp2_with fail
  rw [← HW.out]
  refine (HCP.out).mono ?_
  rintro e' w1 ⟨v1, rfl, o1, hb1⟩
  obtain ⟨g, cap1, rfl, hown, hI⟩ := o1
  obtain ⟨W2, hW2⟩ : ∃ W2, W2 = w1.alloc (.cells #[.int .i64 r, .int .i64 n, .slice (some ⟨g, 0, none⟩) l.length cap1] 26 (0, 0)) := ⟨_, rfl⟩
  have hb2 : Below w1.heap.size w1 W2 := by rw [hW2]; exact (Below.refl _ _).alloc (Nat.le_refl _) _
  have bxo : Box W2 w1.heap.size (.cells #[.int .i64 r, .int .i64 n, .slice (some ⟨g, 0, none⟩) l.length cap1] 26 (0, 0)) := by rw [hW2]; exact Box.new _ _
  have BXO := Lib.hid bxo
  have hgW : W.heap.size ≤ g := (ownsRow_parts hown).1
  have hg1 : w.heap.size + 1 + 1 < g := by have := HSZ.out; omega
  have hg2 : g < w1.heap.size := (ownsRow_parts hown).2.1
  replace hown := ownsRow_base (b' := w.heap.size) (ownsRow_keep hown hb2) (by have := HSZ.out; omega)
  have hbW := hb1.trans (hb2.mono hb1.size)
  replace hB := hB.trans (hbW.mono hB.size)
  have hbO := Below.refl W2.heap.size W2
  have hs1 : w.heap.size + 1 + 1 < w1.heap.size := by omega
  clear bxo hb1 hb2
  obtain ⟨q1, q2, q3⟩ := (BX1.out.keep hbW).cells
  obtain ⟨e1, e2, e3⟩ := (BXE.out.keep hbW).cells
  obtain ⟨p1, p2, p3⟩ := (BXR.out.keep hbW).cells
  have f1 := Box.froz (BXR.out.keep hbW) 0
  have f2 := Box.froz (BXR.out.keep hbW) 1
  have f3 := Box.froz (BXR.out.keep hbW) 2
  obtain ⟨r1, r2, r3⟩ := (BXO.out.keep hbO).cells
  have f4 := Box.froz (BXO.out.keep hbO) 2
  rw [hW2] at q1 q2 q3 e1 e2 e3 p1 p2 p3 f1 f2 f3 r1 r2 r3 f4
  have HW2 := Lib.hid hW2
  clear hW2
  go_wp2_with fail
  rw [← HW2.out]
  refine (HQ.out _ hB).mono ?_
  rintro e' w3 ⟨rfl, hb⟩
  replace hbO := hbO.trans (hb.mono hbO.size)
  replace hbW := hbW.trans (hb.mono hbW.size)
  replace hB := hB.trans (hb.mono hB.size)
  replace hown := ownsRow_keep hown hb
  clear hb
  clear q1 q2 q3 e1 e2 e3 p1 p2 p3 f1 f2 f3 r1 r2 r3 f4
  obtain ⟨q1, q2, q3⟩ := (BX1.out.keep hbW).cells
  obtain ⟨e1, e2, e3⟩ := (BXE.out.keep hbW).cells
  obtain ⟨p1, p2, p3⟩ := (BXR.out.keep hbW).cells
  have f1 := Box.froz (BXR.out.keep hbW) 0
  have f2 := Box.froz (BXR.out.keep hbW) 1
  have f3 := Box.froz (BXR.out.keep hbW) 2
  obtain ⟨r1, r2, r3⟩ := (BXO.out.keep hbO).cells
  have f4 := Box.froz (BXO.out.keep hbO) 2
  cases y with
  | false =>
    have hst := show addEOk r n l e = false by unfold addEOk; rw [← HY.out, Bool.false_and]
    have HST := Lib.hid hst
    have hfin := own_fin (k := w.heap.size + 1 + 1) (.inr ⟨g, cap1, rfl, hown, hI⟩ : OwnN _ _ _ _) hB (by omega) (fun j hj => by simp only [Value.ownBlock, Option.some.injEq] at hj; omega) (.int .i64 r) (.int .i64 n) (.slice (some ⟨g, 0, none⟩) l.length cap1)
    clear hst
    go_wp2
    exact bodyPost_ret (v := .tuple #[graphV r n (.slice (some ⟨g, 0, none⟩) l.length cap1), .bool false]) (by simp [results, Tryz.results7, go_sem, p1, p2, p3]) rfl ⟨_, by rw [HST.out], by rw [addE_no HST.out]; exact hfin.1, hfin.2⟩
  | true =>
    go_wp2_with fail
    refine (HAC.out _).mono ?_
    rintro e' w4 ⟨rfl, hb⟩
    replace hbO := hbO.trans (hb.mono hbO.size)
    replace hbW := hbW.trans (hb.mono hbW.size)
    replace hB := hB.trans (hb.mono hB.size)
    replace hown := ownsRow_keep hown hb
    clear hb
    clear q1 q2 q3 e1 e2 e3 p1 p2 p3 f1 f2 f3 r1 r2 r3 f4
    obtain ⟨q1, q2, q3⟩ := (BX1.out.keep hbW).cells
    obtain ⟨e1, e2, e3⟩ := (BXE.out.keep hbW).cells
    obtain ⟨p1, p2, p3⟩ := (BXR.out.keep hbW).cells
    have f1 := Box.froz (BXR.out.keep hbW) 0
    have f2 := Box.froz (BXR.out.keep hbW) 1
    have f3 := Box.froz (BXR.out.keep hbW) 2
    obtain ⟨r1, r2, r3⟩ := (BXO.out.keep hbO).cells
    have f4 := Box.froz (BXO.out.keep hbO) 2
    cases y2 with
    | false =>
      have hst := show addEOk r n l e = false by unfold addEOk; rw [← HY2.out, Bool.false_and, Bool.and_false]
      have HST := Lib.hid hst
      have hfin := own_fin (k := w.heap.size + 1 + 1) (.inr ⟨g, cap1, rfl, hown, hI⟩ : OwnN _ _ _ _) hB (by omega) (fun j hj => by simp only [Value.ownBlock, Option.some.injEq] at hj; omega) (.int .i64 r) (.int .i64 n) (.slice (some ⟨g, 0, none⟩) l.length cap1)
      clear hst
      go_wp2
      exact bodyPost_ret (v := .tuple #[graphV r n (.slice (some ⟨g, 0, none⟩) l.length cap1), .bool false]) (by simp [results, Tryz.results7, go_sem, p1, p2, p3]) rfl ⟨_, by rw [HST.out], by rw [addE_no HST.out]; exact hfin.1, hfin.2⟩
    | true =>
      have hl120 := (isG_all HY.out.symm).2.2.1
      by_cases h120 : (120 : Int) ≤ (l.length : Int)
      · have tl : (120 : Int) ≤ (l.length : Int) := h120
        have hst := show addEOk r n l e = false by unfold addEOk; rw [decide_eq_false (show ¬ l.length ≠ 120 from fun h => h (by omega)), Bool.and_false, Bool.and_false, Bool.and_false]
        have HST := Lib.hid hst
        have hfin := own_fin (k := w.heap.size + 1 + 1) (.inr ⟨g, cap1, rfl, hown, hI⟩ : OwnN _ _ _ _) hB (by omega) (fun j hj => by simp only [Value.ownBlock, Option.some.injEq] at hj; omega) (.int .i64 r) (.int .i64 n) (.slice (some ⟨g, 0, none⟩) l.length cap1)
        clear hst
        go_wp2
        exact bodyPost_ret (v := .tuple #[graphV r n (.slice (some ⟨g, 0, none⟩) l.length cap1), .bool false]) (by simp [results, Tryz.results7, go_sem, p1, p2, p3]) rfl ⟨_, by rw [HST.out], by rw [addE_no HST.out]; exact hfin.1, hfin.2⟩
      · have hlt9 : (l.length : Int) < 120 := by omega
        clear h120 hl120
        go_wp2_with fail
        refine (HPUT.out _ hB).mono ?_
        rintro e' w7 ⟨v7, rfl, o7, hb7⟩
        obtain ⟨g7, c7, rfl, hown7, hI7⟩ := o7
        have hg7 : w4.heap.size ≤ g7 := (ownsRow_parts hown7).1
        have hw4 : w1.heap.size < w4.heap.size := (BXO.out.keep hbO).lt
        have bo7 := BXO.out.keep (hbO.trans (hb7.mono hbO.size))
        have br7 := BXR.out.keep (hbW.trans (hb7.mono hbW.size))
        have bg7 := BX1.out.keep (hbW.trans (hb7.mono hbW.size))
        have hB7 := hB.trans (hb7.mono hB.size)
        have f9 := Box.froz bo7 2
        have bo8 : Box (w7.setCell ⟨w1.heap.size, 2, none⟩ (.slice (some ⟨g7, 0, none⟩) (putE l e).length c7)) w1.heap.size (.cells #[.int .i64 r, .int .i64 n, .slice (some ⟨g7, 0, none⟩) (putE l e).length c7] 26 (0, 0)) := heap_setCell_same _ _ 2 _ _ _ bo7
        have br8 : Box (w7.setCell ⟨w1.heap.size, 2, none⟩ (.slice (some ⟨g7, 0, none⟩) (putE l e).length c7)) (w.heap.size + 1 + 1) (.cells #[.int .i64 0, .int .i64 0, .slice none 0 0] 26 (0, 0)) := (Below.heap_setCell _ _ _ _ (by simp only [ne_eq]; omega)).trans br7
        have bg8 : Box (w7.setCell ⟨w1.heap.size, 2, none⟩ (.slice (some ⟨g7, 0, none⟩) (putE l e).length c7)) w.heap.size (.cells #[.int .i64 r, .int .i64 n, .slice A l.length cap] 26 (0, 0)) := (Below.heap_setCell _ _ _ _ (by simp only [ne_eq]; omega)).trans bg7
        have o7 : OwnN w7 w.heap.size (.slice (some ⟨g7, 0, none⟩) (putE l e).length c7) (putE l e) := .inr ⟨g7, c7, rfl, ownsRow_base hown7 hB.size, hI7⟩
        have o8 := o7.set_ (k := w1.heap.size) (i := 2) (fun j hj => by simp only [Value.ownBlock, Option.some.injEq] at hj; omega) (.slice (some ⟨g7, 0, none⟩) (putE l e).length c7)
        have hB8 := hB7.setCell (p := ⟨w1.heap.size, 2, none⟩) (by simp only; omega) (.slice (some ⟨g7, 0, none⟩) (putE l e).length c7)
        obtain ⟨W8, hW8⟩ : ∃ z, z = w7.setCell ⟨w1.heap.size, 2, none⟩ (.slice (some ⟨g7, 0, none⟩) (putE l e).length c7) := ⟨_, rfl⟩
        obtain ⟨x1, x2, x3⟩ := bo7.cells
        rw [← hW8] at bo8 br8 bg8 o8 hB8
        have HW8 := Lib.hid hW8
        have BO8 := Lib.hid bo8
        have BR8 := Lib.hid br8
        have BG8 := Lib.hid bg8
        have O8 := Lib.hid o8
        have HB8 := Lib.hid hB8
        clear hW8 bo8 br8 bg8 o8 hB8 o7 hown7 bo7 br7 bg7 hown
        clear q1 q2 q3 e1 e2 e3 p1 p2 p3 f1 f2 f3 r1 r2 r3 f4
        go_wp2
        rw [← HW8.out]
        clear x1 x2 x3 f9
        obtain ⟨z1, z2, z3⟩ := BO8.out.cells
        obtain ⟨p1, p2, p3⟩ := BR8.out.cells
        obtain ⟨q1, q2, q3⟩ := BG8.out.cells
        have f1 := Box.froz BR8.out 0
        have f2 := Box.froz BR8.out 1
        have f3 := Box.froz BR8.out 2
        have hfin0 := own_fin (k := w.heap.size + 1 + 1) O8.out HB8.out (by omega) (fun j hj => by simp only [Value.ownBlock, Option.some.injEq] at hj; omega) (.int .i64 r) (.int .i64 n) (.slice (some ⟨g7, 0, none⟩) (putE l e).length c7)
        have hfin := And.intro (hfin0.1.keep (Below.refl _ _).drew) (hfin0.2.drew)
        clear hfin0
        have HFIN := Lib.hid hfin
        clear hfin
        by_cases hm : e ∈ l
        · have hst : addEOk r n l e = false := by unfold addEOk; rw [decide_eq_false (show ¬ e ∉ l from fun h => h hm), Bool.false_and, Bool.and_false, Bool.and_false]
          have hpl : putE l e = l := putE_in (isG_asc HY.out.symm) hm
          have HST := Lib.hid hst
          have HPL := Lib.hid hpl
          have hlt : ¬ l.length < (putE l e).length := by rw [hpl]; omega
          clear hst hpl hm
          go_region
          all_goals
            go_wp2
            exact bodyPost_ret (v := .tuple #[graphV r n (.slice (some ⟨g7, 0, none⟩) (putE l e).length c7), .bool false]) (by simp [results, Tryz.results7, go_sem, p1, p2, p3]) rfl ⟨_, by rw [HST.out], by rw [addE_no HST.out]; have h9 := HFIN.out.1; rw [HPL.out] at h9 ⊢; exact h9, HFIN.out.2⟩
        · have hst : addEOk r n l e = true := by unfold addEOk; rw [← HY.out, ← HY2.out, decide_eq_true hm, decide_eq_true (show l.length ≠ 120 by omega)]; rfl
          obtain ⟨s1, s2, s3, s4, s5⟩ := addE_yes hst
          have HST := Lib.hid hst
          have HS1 := Lib.hid s1
          have hlt : l.length < (putE l e).length := by omega
          clear hst s1 s2 s3 s4 s5 hm
          go_region
          all_goals
            go_wp2
            exact bodyPost_ret (v := .tuple #[graphV r n (.slice (some ⟨g7, 0, none⟩) (putE l e).length c7), .bool true]) (by simp [results, Tryz.results7, go_sem, p1, p2, p3]) rfl ⟨_, by rw [HST.out], by rw [HS1.out]; exact HFIN.out.1, HFIN.out.2⟩
end Go.Proofs.YtpebiacdkfpnpaaGreat
