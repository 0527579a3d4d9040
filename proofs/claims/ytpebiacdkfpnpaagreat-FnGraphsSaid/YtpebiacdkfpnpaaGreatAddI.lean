/- Contract of the program's AddEdge. Conditions: at most 2^20 edges. -/
import Derived.Test.YtpebiacdkfpnpaaGreatSortE
import Derived.Test.YtpebiacdkfpnpaaGreatRetG
import Derived.Test.YtpebiacdkfpnpaaGreatPGraph
namespace Go.Proofs.YtpebiacdkfpnpaaGreat
open Go.RowKit Go.Sort

/-- A graph goes into the result's box. -/
theorem own_fin {w W : World} {B k : Nat} {v : Value} {l : List Ed} (h : OwnN W B v l) (hB : Below w.heap.size w W) (hk : w.heap.size ≤ k) (hne : ∀ j, v.ownBlock = some j → j ≠ k) (a b c : Value) :
    OwnN (((W.setCell ⟨k, 0, none⟩ a).setCell ⟨k, 1, none⟩ b).setCell ⟨k, 2, none⟩ c) B v l ∧ Below w.heap.size w (((W.setCell ⟨k, 0, none⟩ a).setCell ⟨k, 1, none⟩ b).setCell ⟨k, 2, none⟩ c) := by
  refine ⟨?_, ((hB.setCell hk _).setCell hk _).setCell hk _⟩
  rcases h with h1 | ⟨g, cap', hv, ho, hr⟩
  · exact .inl h1
  · refine .inr ⟨g, cap', hv, ownsRow_same ho fun j hj => ?_, hr⟩
    have := hne j hj
    rw [Below.heap_setCell _ _ _ _ (by simp only [ne_eq]; omega), Below.heap_setCell _ _ _ _ (by simp only [ne_eq]; omega), Below.heap_setCell _ _ _ _ (by simp only [ne_eq]; omega)]
theorem OwnN.set_ {W : World} {B k i : Nat} {v : Value} {l : List Ed} (h : OwnN W B v l) (hne : ∀ j, v.ownBlock = some j → j ≠ k) (a : Value) : OwnN (W.setCell ⟨k, i, none⟩ a) B v l := by
  rcases h with h1 | ⟨g, cap', hv, ho, hr⟩
  · exact .inl h1
  · refine .inr ⟨g, cap', hv, ownsRow_same ho fun j hj => ?_, hr⟩
    have := hne j hj
    rw [Below.heap_setCell _ _ _ _ (by simp only [ne_eq]; omega)]
set_option maxHeartbeats 3200000 in
theorem addEdge_any (r n : Int) (v : Value) (l : List Ed) (e : Ed) (he : I64E e) (w : World) (h : Edges w v l) (hk : NilOk v) (hn : l.length ≤ 1048576) :
    Calls Tryz.prog 6 #[graphV r n v, edV e] w (RetG2 w r n (addEL r n l e) (.bool (addEOk r n l e))) := by
  obtain ⟨W, hW⟩ : ∃ W, W = (((w.alloc (.cells #[.int .i64 r, .int .i64 n, v] 26 (0, 0))).alloc (.cells #[.int .i64 e.1, .int .i64 e.2.1, .int .i64 e.2.2] 28 (0, 0))).alloc (.cells #[.int .i64 0, .int .i64 0, .slice none 0 0] 26 (0, 0))) := ⟨_, rfl⟩
  have hB : Below w.heap.size w W := by rw [hW]; exact (((Below.refl _ _).alloc (Nat.le_refl _) _).alloc (by simp) _).alloc (by simp; omega) _
  have bx1 : Box W w.heap.size (.cells #[.int .i64 r, .int .i64 n, v] 26 (0, 0)) := by rw [hW]; exact (Box.first _ _ _).keep ((Below.refl _ _).alloc (Nat.le_refl _) _)
  have bxe : Box W (w.heap.size + 1) (.cells #[.int .i64 e.1, .int .i64 e.2.1, .int .i64 e.2.2] 28 (0, 0)) := by rw [hW]; exact heap_one _ _ _ _
  have bxr : Box W (w.heap.size + 1 + 1) (.cells #[.int .i64 0, .int .i64 0, .slice none 0 0] 26 (0, 0)) := by rw [hW]; exact heap_two _ _ _ _
  have hsz : W.heap.size = w.heap.size + 3 := by rw [hW]; simp
  have hcp := copyGraph_any r n v l W (h.keep hB) hk hn
  obtain ⟨y, hy⟩ : ∃ y, y = isG r n l := ⟨_, rfl⟩
  obtain ⟨y2, hy2⟩ : ∃ y, y = okE r n e := ⟨_, rfl⟩
  obtain ⟨y3, hy3⟩ : ∃ y, y = decide (e ∈ l) := ⟨_, rfl⟩
  have hq := fun W' (hb : Below w.heap.size w W') => isGraph_any r n v l W' (h.keep hb) hn
  have hin := fun W' (hb : Below w.heap.size w W') => containsE_any v l e W' (h.keep hb) hn
  obtain ⟨A, cap, rfl, _⟩ := id h
  have hac := fun W' => accepts_any r n e A l.length cap W'
  rw [← hy] at hq
  rw [← hy2] at hac
  rw [← hy3] at hin
  have HQ := Lib.hid hq
  have HAC := Lib.hid hac
  have HIN := Lib.hid hin
  have HCP := Lib.hid hcp
  have HW := Lib.hid hW
  have BX1 := Lib.hid bx1
  have BXE := Lib.hid bxe
  have BXR := Lib.hid bxr
  have HY := Lib.hid hy
  have HY2 := Lib.hid hy2
  have HY3 := Lib.hid hy3
  have HSZ := Lib.hid hsz
  have HE := Lib.hid he
  clear hW bx1 bxe bxr hq hac hin hcp hy hy2 hy3 h hk hsz he
  go_enter Tryz.func6, Tryz.ntmps6
  go_wp2_with fail
  rw [← HW.out]
  refine (HCP.out).mono ?_
  rintro e' w1 ⟨v1, rfl, o1, hb1⟩
  obtain ⟨g, cap1, rfl, hown, hI⟩ := o1
  obtain ⟨W2, hW2⟩ : ∃ W2, W2 = w1.alloc (.cells #[.int .i64 r, .int .i64 n, .slice (some ⟨g, 0, none⟩) l.length cap1] 26 (0, 0)) := ⟨_, rfl⟩
  have hb2 : Below w1.heap.size w1 W2 := by rw [hW2]; exact (Below.refl _ _).alloc (Nat.le_refl _) _
  have bxo : Box W2 w1.heap.size (.cells #[.int .i64 r, .int .i64 n, .slice (some ⟨g, 0, none⟩) l.length cap1] 26 (0, 0)) := by rw [hW2]; exact Box.new _ _
  have BXO := Lib.hid bxo
  have hgW : W.heap.size ≤ g := (ownsRow_parts hown).1
  have hg1 : w.heap.size + 1 + 1 < g := by have := HSZ.out; omega
  have hg2 : g < w1.heap.size := (ownsRow_parts hown).2.1
  replace hown := ownsRow_base (b' := w.heap.size) (ownsRow_keep hown hb2) (by have := HSZ.out; omega)
  have hbW := hb1.trans (hb2.mono hb1.size)
  replace hB := hB.trans (hbW.mono hB.size)
  have hbO := Below.refl W2.heap.size W2
  have hs1 : w.heap.size + 1 + 1 < w1.heap.size := by omega
  clear bxo hb1 hb2
  obtain ⟨q1, q2, q3⟩ := (BX1.out.keep hbW).cells
  obtain ⟨e1, e2, e3⟩ := (BXE.out.keep hbW).cells
  obtain ⟨p1, p2, p3⟩ := (BXR.out.keep hbW).cells
  have f1 := Box.froz (BXR.out.keep hbW) 0
  have f2 := Box.froz (BXR.out.keep hbW) 1
  have f3 := Box.froz (BXR.out.keep hbW) 2
  obtain ⟨r1, r2, r3⟩ := (BXO.out.keep hbO).cells
  have f4 := Box.froz (BXO.out.keep hbO) 2
  rw [hW2] at q1 q2 q3 e1 e2 e3 p1 p2 p3 f1 f2 f3 r1 r2 r3 f4
  have HW2 := Lib.hid hW2
  clear hW2
  go_wp2_with fail
  rw [← HW2.out]
  refine (HQ.out _ hB).mono ?_
  rintro e' w3 ⟨rfl, hb⟩
  replace hbO := hbO.trans (hb.mono hbO.size)
  replace hbW := hbW.trans (hb.mono hbW.size)
  replace hB := hB.trans (hb.mono hB.size)
  replace hown := ownsRow_keep hown hb
  clear hb
  clear q1 q2 q3 e1 e2 e3 p1 p2 p3 f1 f2 f3 r1 r2 r3 f4
  obtain ⟨q1, q2, q3⟩ := (BX1.out.keep hbW).cells
  obtain ⟨e1, e2, e3⟩ := (BXE.out.keep hbW).cells
  obtain ⟨p1, p2, p3⟩ := (BXR.out.keep hbW).cells
  have f1 := Box.froz (BXR.out.keep hbW) 0
  have f2 := Box.froz (BXR.out.keep hbW) 1
  have f3 := Box.froz (BXR.out.keep hbW) 2
  obtain ⟨r1, r2, r3⟩ := (BXO.out.keep hbO).cells
  have f4 := Box.froz (BXO.out.keep hbO) 2
  cases y with
  | false =>
    have hst := show addEOk r n l e = false by unfold addEOk; rw [← HY.out, Bool.false_and]
    have HST := Lib.hid hst
    have hfin := own_fin (k := w.heap.size + 1 + 1) (.inr ⟨g, cap1, rfl, hown, hI⟩ : OwnN _ _ _ _) hB (by omega) (fun j hj => by simp only [Value.ownBlock, Option.some.injEq] at hj; omega) (.int .i64 r) (.int .i64 n) (.slice (some ⟨g, 0, none⟩) l.length cap1)
    clear hst
    go_wp2
    exact bodyPost_ret (v := .tuple #[graphV r n (.slice (some ⟨g, 0, none⟩) l.length cap1), .bool false]) (by simp [results, Tryz.results6, go_sem, p1, p2, p3]) rfl ⟨_, by rw [HST.out], by rw [addE_no HST.out]; exact hfin.1, hfin.2⟩
  | true =>
    go_wp2_with fail
    refine (HAC.out _).mono ?_
    rintro e' w4 ⟨rfl, hb⟩
    replace hbO := hbO.trans (hb.mono hbO.size)
    replace hbW := hbW.trans (hb.mono hbW.size)
    replace hB := hB.trans (hb.mono hB.size)
    replace hown := ownsRow_keep hown hb
    clear hb
    clear q1 q2 q3 e1 e2 e3 p1 p2 p3 f1 f2 f3 r1 r2 r3 f4
    obtain ⟨q1, q2, q3⟩ := (BX1.out.keep hbW).cells
    obtain ⟨e1, e2, e3⟩ := (BXE.out.keep hbW).cells
    obtain ⟨p1, p2, p3⟩ := (BXR.out.keep hbW).cells
    have f1 := Box.froz (BXR.out.keep hbW) 0
    have f2 := Box.froz (BXR.out.keep hbW) 1
    have f3 := Box.froz (BXR.out.keep hbW) 2
    obtain ⟨r1, r2, r3⟩ := (BXO.out.keep hbO).cells
    have f4 := Box.froz (BXO.out.keep hbO) 2
    cases y2 with
    | false =>
      have hst := show addEOk r n l e = false by unfold addEOk; rw [← HY2.out, Bool.false_and, Bool.and_false]
      have HST := Lib.hid hst
      have hfin := own_fin (k := w.heap.size + 1 + 1) (.inr ⟨g, cap1, rfl, hown, hI⟩ : OwnN _ _ _ _) hB (by omega) (fun j hj => by simp only [Value.ownBlock, Option.some.injEq] at hj; omega) (.int .i64 r) (.int .i64 n) (.slice (some ⟨g, 0, none⟩) l.length cap1)
      clear hst
      go_wp2
      exact bodyPost_ret (v := .tuple #[graphV r n (.slice (some ⟨g, 0, none⟩) l.length cap1), .bool false]) (by simp [results, Tryz.results6, go_sem, p1, p2, p3]) rfl ⟨_, by rw [HST.out], by rw [addE_no HST.out]; exact hfin.1, hfin.2⟩
    | true =>
      go_wp2_with fail
      refine (HIN.out _ hB).mono ?_
      rintro e' w5 ⟨rfl, hb⟩
      replace hbO := hbO.trans (hb.mono hbO.size)
      replace hbW := hbW.trans (hb.mono hbW.size)
      replace hB := hB.trans (hb.mono hB.size)
      replace hown := ownsRow_keep hown hb
      clear hb
      clear q1 q2 q3 e1 e2 e3 p1 p2 p3 f1 f2 f3 r1 r2 r3 f4
      obtain ⟨q1, q2, q3⟩ := (BX1.out.keep hbW).cells
      obtain ⟨e1, e2, e3⟩ := (BXE.out.keep hbW).cells
      obtain ⟨p1, p2, p3⟩ := (BXR.out.keep hbW).cells
      have f1 := Box.froz (BXR.out.keep hbW) 0
      have f2 := Box.froz (BXR.out.keep hbW) 1
      have f3 := Box.froz (BXR.out.keep hbW) 2
      obtain ⟨r1, r2, r3⟩ := (BXO.out.keep hbO).cells
      have f4 := Box.froz (BXO.out.keep hbO) 2
      cases y3 with
      | true =>
        have hst := show addEOk r n l e = false by unfold addEOk; rw [decide_eq_false (show ¬ e ∉ l from fun h => h (of_decide_eq_true HY3.out.symm)), Bool.false_and, Bool.and_false, Bool.and_false]
        have HST := Lib.hid hst
        have hfin := own_fin (k := w.heap.size + 1 + 1) (.inr ⟨g, cap1, rfl, hown, hI⟩ : OwnN _ _ _ _) hB (by omega) (fun j hj => by simp only [Value.ownBlock, Option.some.injEq] at hj; omega) (.int .i64 r) (.int .i64 n) (.slice (some ⟨g, 0, none⟩) l.length cap1)
        clear hst
        go_wp2
        exact bodyPost_ret (v := .tuple #[graphV r n (.slice (some ⟨g, 0, none⟩) l.length cap1), .bool false]) (by simp [results, Tryz.results6, go_sem, p1, p2, p3]) rfl ⟨_, by rw [HST.out], by rw [addE_no HST.out]; exact hfin.1, hfin.2⟩
      | false =>
        have hnot : e ∉ l := of_decide_eq_false HY3.out.symm
        by_cases h120 : l.length = 120
        · have t1 : ((l.length : Int) == 120) = true := beq_iff_eq.2 (by omega)
          have hst := show addEOk r n l e = false by unfold addEOk; rw [decide_eq_false (show ¬ l.length ≠ 120 from fun h => h h120), Bool.and_false, Bool.and_false, Bool.and_false]
          have HST := Lib.hid hst
          have hfin := own_fin (k := w.heap.size + 1 + 1) (.inr ⟨g, cap1, rfl, hown, hI⟩ : OwnN _ _ _ _) hB (by omega) (fun j hj => by simp only [Value.ownBlock, Option.some.injEq] at hj; omega) (.int .i64 r) (.int .i64 n) (.slice (some ⟨g, 0, none⟩) l.length cap1)
          clear hst h120
          go_wp2
          exact bodyPost_ret (v := .tuple #[graphV r n (.slice (some ⟨g, 0, none⟩) l.length cap1), .bool false]) (by simp [results, Tryz.results6, go_sem, p1, p2, p3]) rfl ⟨_, by rw [HST.out], by rw [addE_no HST.out]; exact hfin.1, hfin.2⟩
        · have t1 : ((l.length : Int) == 120) = false := beq_eq_false_iff_ne.2 (by omega)
          have hst : addEOk r n l e = true := by unfold addEOk; rw [← HY.out, ← HY2.out, decide_eq_true hnot, decide_eq_true h120]; rfl
          obtain ⟨s1, s2, s3, s4, s5⟩ := addE_yes hst
          have HST := Lib.hid hst
          have HS1 := Lib.hid s1
          have HS2 := Lib.hid s2
          have HS3 := Lib.hid s3
          have HS4 := Lib.hid s4
          have hrow : Box (w5.alloc (.cells #[.int .i64 e.1, .int .i64 e.2.1, .int .i64 e.2.2] 28 (0, 0))) w5.heap.size (.cells #[.int .i64 e.1, .int .i64 e.2.1, .int .i64 e.2.2] 28 (0, 0)) := Box.new _ _
          clear hst s1 s2 s3 s4 hnot h120

          go_wp2_with (at_builtin; refine wpl_app elemE rfl (.tmp 32) (.tmp 34) rfl rfl (hown.alloc _) rfl (m := 1) (news := edC e) rfl (World.news_of_block (cs := #[.int .i64 e.1, .int .i64 e.2.1, .int .i64 e.2.2]) hrow) (edC_one e) (by omega) ?_; intro g6 c6 w6 hown6 hgrow6 hat6)
          have o6 : OwnE w6 w.heap.size (.slice (some ⟨g6, 0, none⟩) (l.length + 1) c6) (l ++ [e]) := ⟨g6, c6, by simp, by rw [List.length_append, List.length_singleton, edgesV_append, edgesV_cons, edgesV_nil, List.append_nil]; exact hown6, fun u hu => by
            rcases List.mem_append.1 hu with h | h
            · exact hI u h
            · simp at h; rw [h]; exact HE.out⟩
          have hB6 := below_push hB hgrow6 (by omega) (Nat.le_refl _)
          have bo6 := (BXO.out.keep (hbO.alloc hbO.size (.cells #[.int .i64 e.1, .int .i64 e.2.1, .int .i64 e.2.2] 28 (0, 0)))).grown (v := .slice (some ⟨g, 0, none⟩) l.length cap1) hgrow6 (fun j hj => by simp only [Value.ownBlock, Option.some.injEq] at hj; omega)
          have br6 := (BXR.out.keep (hbW.alloc hbW.size (.cells #[.int .i64 e.1, .int .i64 e.2.1, .int .i64 e.2.2] 28 (0, 0)))).grown (v := .slice (some ⟨g, 0, none⟩) l.length cap1) hgrow6 (fun j hj => by simp only [Value.ownBlock, Option.some.injEq] at hj; omega)
          have hw6 : w1.heap.size < w6.heap.size := bo6.lt
          have hso := sortedE_any _ (l ++ [e]) w6 o6.edges (by simp) (by simp; omega) (by rw [HS2.out]; exact HS3.out)
          rw [HS2.out] at hso
          have HSO := Lib.hid hso
          clear hso o6 hown6 hgrow6 hat6 hrow
          refine (HSO.out).mono ?_
          rintro e' w7 ⟨v7, rfl, o7, hb7⟩
          obtain ⟨g7, c7, rfl, hown7, hI7⟩ := o7
          have hg7 : w6.heap.size ≤ g7 := (ownsRow_parts hown7).1
          have bo7 := bo6.keep hb7
          have br7 := br6.keep hb7
          have hB7 := hB6.trans (hb7.mono hB6.size)
          have f9 := Box.froz bo7 2
          have bo8 : Box (w7.setCell ⟨w1.heap.size, 2, none⟩ (.slice (some ⟨g7, 0, none⟩) (putE l e).length c7)) w1.heap.size (.cells #[.int .i64 r, .int .i64 n, .slice (some ⟨g7, 0, none⟩) (putE l e).length c7] 26 (0, 0)) := heap_setCell_same _ _ 2 _ _ _ bo7
          have br8 : Box (w7.setCell ⟨w1.heap.size, 2, none⟩ (.slice (some ⟨g7, 0, none⟩) (putE l e).length c7)) (w.heap.size + 1 + 1) (.cells #[.int .i64 0, .int .i64 0, .slice none 0 0] 26 (0, 0)) := (Below.heap_setCell _ _ _ _ (by simp only [ne_eq]; omega)).trans br7
          obtain ⟨x1, x2, x3⟩ := bo7.cells
          obtain ⟨z1, z2, z3⟩ := bo8.cells
          obtain ⟨p1, p2, p3⟩ := br8.cells
          have f1 := Box.froz br8 0
          have f2 := Box.froz br8 1
          have f3 := Box.froz br8 2
          have o7 : OwnN w7 w.heap.size (.slice (some ⟨g7, 0, none⟩) (putE l e).length c7) (putE l e) := .inr ⟨g7, c7, rfl, ownsRow_base hown7 hB6.size, hI7⟩
          have hfin := own_fin (k := w.heap.size + 1 + 1) (o7.set_ (k := w1.heap.size) (i := 2) (fun j hj => by simp only [Value.ownBlock, Option.some.injEq] at hj; omega) (.slice (some ⟨g7, 0, none⟩) (putE l e).length c7)) (hB7.setCell (p := ⟨w1.heap.size, 2, none⟩) (by simp only; omega) _) (by omega) (fun j hj => by simp only [Value.ownBlock, Option.some.injEq] at hj; omega) (.int .i64 r) (.int .i64 n) (.slice (some ⟨g7, 0, none⟩) (putE l e).length c7)
          have HFIN := Lib.hid hfin
          clear hfin o7 hown7 bo6 br6 bo7 br7 bo8 br8
          go_wp2
          exact bodyPost_ret (v := .tuple #[graphV r n (.slice (some ⟨g7, 0, none⟩) (putE l e).length c7), .bool true]) (by simp [results, Tryz.results6, go_sem, p1, p2, p3]) rfl ⟨_, by rw [HST.out], by rw [HS1.out]; exact HFIN.out.1, HFIN.out.2⟩
end Go.Proofs.YtpebiacdkfpnpaaGreat
