/- Contracts of ReachedFrom. Conditions: at most 2^20 edges. -/
import Derived.Test.YtfckgmajjonckaaGraphR
import Derived.Test.YtfckgmajjonckaaGraphD
import Derived.Test.YtfckgmajjonckaaAdds
namespace Go.Proofs.Ytfckgmajjonckaa
open Go.RowKit

theorem isG_all {r n : Int} {l : List Ed} (h : isG r n l = true) : (1 ≤ r ∧ r ≤ 3) ∧ (1 ≤ n ∧ n ≤ 40) ∧ l.length ≤ 120 ∧ ∀ e ∈ l, (0 ≤ e.1 ∧ e.1 < n) ∧ (1 ≤ e.2.1 ∧ e.2.1 ≤ r) ∧ 0 ≤ e.2.2 ∧ e.2.2 < n := by
  have h' : (1 ≤ r ∧ r ≤ 3) ∧ (1 ≤ n ∧ n ≤ 40) ∧ l.length ≤ 120 ∧ edgesOk r n l = true := by simpa [isG] using h
  obtain ⟨h1, h2, h3, h4⟩ := h'
  refine ⟨h1, h2, h3, fun e he => ?_⟩
  obtain ⟨k, hk, rfl⟩ := List.mem_iff_getElem.1 he
  rw [edgesOk, List.all_eq_true] at h4
  have h5 := h4 k (by simpa using hk)
  rw [stepOk, getD_at hk, Bool.and_eq_true] at h5
  have h6 := h5.1
  have hw : wrap64 (n - 1) = n - 1 := by unfold wrap64; omega
  simp only [okE, inV, Bool.and_eq_true, decide_eq_true_eq, hw] at h6
  omega
theorem inV_iff {n x : Int} (h : 1 ≤ n ∧ n ≤ 40) : inV n x = true ↔ 0 ≤ x ∧ x < n := by
  have hw : wrap64 (n - 1) = n - 1 := by unfold wrap64; omega
  simp only [inV, decide_eq_true_eq, hw]; omega
/-- What ReachedFrom hands back. -/
structure IsReach (r n x : Int) (l : List Ed) (R : List Int) : Prop where
  no : (isG r n l && inV n x) = false → R = []
  yes : (isG r n l && inV n x) = true → IsComp l x R
  len : R.length ≤ 40
theorem reach_exists (r n x : Int) (l : List Ed) : ∃ R, IsReach r n x l R := by
  cases hc : isG r n l && inV n x with
  | false => exact ⟨[], fun _ => rfl, fun h => by rw [hc] at h; (cases h), by simp⟩
  | true =>
    rw [Bool.and_eq_true] at hc
    obtain ⟨_, h2, _, h4⟩ := isG_all hc.1
    have hx := (inV_iff h2).1 hc.2
    obtain ⟨N, rfl⟩ := Int.eq_ofNat_of_zero_le (show 0 ≤ n by omega)
    obtain ⟨R, hR, hl⟩ := comp_exists (l := l) (n := N) (v := x) ⟨hx.1, by omega⟩ fun e he => by have := h4 e he; omega
    exact ⟨R, fun h => by rw [hc.1, hc.2] at h; (cases h), fun _ => hR, by omega⟩
/-- An ascending list of small numbers is short. -/
theorem asc_len : ∀ {o : List Int} {a b : Int}, o.Pairwise (· < ·) → (∀ u ∈ o, a ≤ u ∧ u < b) → o.length ≤ (b - a).toNat
  | [], _, _, _, _ => Nat.zero_le _
  | x :: t, a, b, h, hr => by
    rw [List.pairwise_cons] at h
    have hx := hr x (List.mem_cons_self ..)
    have := asc_len (o := t) (a := x + 1) (b := b) h.2 fun u hu => ⟨by have := h.1 u hu; omega, (hr u (List.mem_cons_of_mem _ hu)).2⟩
    simp only [List.length_cons]; omega
theorem reach_len {l : List Ed} {v n : Int} {o : List Int} (h : ReachOk l v o) (hv : 0 ≤ v ∧ v < n) (hE : ∀ e ∈ l, (0 ≤ e.1 ∧ e.1 < n) ∧ (0 ≤ e.2.2 ∧ e.2.2 < n)) (hn : n ≤ 40) : o.length ≤ 40 := by
  have := asc_len (a := 0) (b := n) h.asc fun u hu => h.conn u hu (fun u => 0 ≤ u ∧ u < n) hv fun e he => ⟨fun _ => (hE e he).2, fun _ => (hE e he).1⟩
  omega
set_option maxHeartbeats 1600000 in
theorem reachedFrom_any (r n x : Int) (v : Value) (l : List Ed) (R : List Int) (w : World) (h : Edges w v l) (hn : l.length ≤ 1048576) (hR : IsReach r n x l R) :
    Calls Try.prog 32 #[graphV r n v, .int .i64 x] w (RetI w R) := by
  have hkeep := h
  obtain ⟨A, cap, rfl, _⟩ := h
  obtain ⟨W, hW⟩ : ∃ W, W = ((w.alloc (.cells #[.int .i64 r, .int .i64 n, .slice A l.length cap] 29 (0, 0))).alloc (.cells #[] 3 (0, 0))) := ⟨_, rfl⟩
  have hB : Below w.heap.size w W := by rw [hW]; exact ((Below.refl _ _).alloc (Nat.le_refl _) _).alloc (by simp) _
  have bx1 : Box W w.heap.size (.cells #[.int .i64 r, .int .i64 n, .slice A l.length cap] 29 (0, 0)) := by rw [hW]; exact Box.first _ _ _
  have ho0 : W.ownsRow w.heap.size 3 1 (.slice (some ⟨w.heap.size + 1, 0, none⟩) 0 0) 0 (intsV []) := by
    rw [hW]
    have hm : ∀ X : World, w.heap.size ≤ X.heap.size → (X.alloc (.cells #[] 3 (0, 0))).ownsRow w.heap.size 3 1 (.slice (some ⟨X.heap.size, 0, none⟩) 0 0) 0 (intsV []) := fun X hX => World.ownsRow_made _ _ _ hX (by decide) rfl
    simpa using hm (w.alloc (.cells #[.int .i64 r, .int .i64 n, .slice A l.length cap] 29 (0, 0))) (by simp)
  obtain ⟨y, hy⟩ : ∃ y, y = isG r n l := ⟨_, rfl⟩
  obtain ⟨z, hz⟩ : ∃ z, z = inV n x := ⟨_, rfl⟩
  have hq := isGraph_any r n _ l W (hkeep.keep hB) hn
  have hh := fun W => has_any r n x A l.length cap W
  rw [← hy] at hq
  rw [← hz] at hh
  have hR0 : (y && z) = false → R = [] := by rw [hy, hz]; exact hR.no
  have HW := Lib.hid hW
  have BX := Lib.hid bx1
  have HQ := Lib.hid hq
  have HH := Lib.hid hh
  have HR0 := Lib.hid hR0
  have HR := Lib.hid hR
  have HY := Lib.hid hy
  have HZ := Lib.hid hz
  clear hW bx1 hq hh hR0 hR hy hz
  go_enter Try.func32, Try.ntmps32
  go_wp2_with fail
  rw [← HW.out]
  refine (HQ.out).mono ?_
  rintro e w1 ⟨rfl, hb1⟩
  have hB1 := hB.trans (hb1.mono hB.size)
  have ho1 := ownsRow_keep ho0 hb1
  obtain ⟨q1, q2, q3⟩ := (BX.out.keep hb1).cells
  cases y with
  | false =>
    have hst : Kept (R = []) := ⟨HR0.out rfl⟩
    go_wp2
    go_ret
    rw [hst.out]
    exact RetI.mk rfl ho1 (by simp) hB1
  | true =>
    go_wp2_with fail
    refine (HH.out _).mono ?_
    rintro e w2 ⟨rfl, hb2⟩
    have hB2 := hB1.trans (hb2.mono hB1.size)
    have ho2 := ownsRow_keep ho1 hb2
    clear q1 q2 q3
    obtain ⟨q1, q2, q3⟩ := (BX.out.keep (hb1.trans (hb2.mono hb1.size))).cells
    cases z with
    | false =>
      have hst : Kept (R = []) := ⟨HR0.out rfl⟩
      go_wp2
      go_ret
      rw [hst.out]
      exact RetI.mk rfl ho2 (by simp) hB2
    | true =>
      obtain ⟨g1, g2, g3, g4⟩ := isG_all HY.out.symm
      have hx := (inV_iff g2).1 HZ.out.symm
      have hcmp : IsComp l x R := HR.out.yes (by rw [← HY.out, ← HZ.out]; rfl)
      obtain ⟨N, rfl⟩ := Int.eq_ofNat_of_zero_le (show 0 ≤ n by omega)
      obtain ⟨V, rfl⟩ := Int.eq_ofNat_of_zero_le hx.1
      have hRI : ∀ u ∈ R, I64 u := fun u hu => by
        have := (hcmp.mem u).1 hu (fun u => 0 ≤ u ∧ u < (N : Int)) hx fun e he => by
          have := g4 e he
          exact ⟨fun _ => this.2.2, fun _ => this.1⟩
        unfold I64; omega
      have hj := joined_any r N V _ l R w2 (hkeep.keep hB2) (by omega) (by omega) (fun e he => by have := g4 e he; omega) (by omega) hcmp
      have HJ := Lib.hid hj
      have HRI := Lib.hid hRI
      have hN40 : N ≤ 40 := by omega
      clear hj g1 g2 g3 g4 hx hcmp hRI
      go_wp2_with fail
      refine (HJ.out).mono ?_
      rintro e w3 ⟨gs, b, rfl, hos, hbk, hb3⟩
      have hB3 := hB2.trans (hb3.mono hB2.size)
      have ho3 := ownsRow_keep ho2 hb3
      have hgs := ownsRow_parts hos
      have hos' := ownsRow_base hos hB2.size
      have hne : Kept (gs ≠ w.heap.size + 1) := ⟨by have := (ownsRow_parts ho2).2.1; omega⟩
      clear q1 q2 q3 ho0 ho1 ho2 hos hgs
      go_wp2
      go_loopw [5, 6, 7, 23] (fun out _ _ i wr => ∃ (k g cap2 : Nat) (o : List Int), k ≤ N ∧ i = .int .i64 k ∧ o.length ≤ k ∧ out = .slice (some ⟨g, 0, none⟩) o.length cap2 ∧ wr.ownsRow w.heap.size 3 1 (.slice (some ⟨g, 0, none⟩) o.length cap2) o.length (intsV o) ∧ Kept (o = trues (b.take k)) ∧ Kept (gs ≠ g) ∧ wr.ownsRow w.heap.size 4 1 (.slice (some ⟨gs, 0, none⟩) N N) N (boolsV b) ∧ Below w.heap.size w wr)
        (fun _ _ _ i _ => N - (intOf i).toNat)
      case atStart => exact ⟨0, _, _, [], by omega, rfl, by simp, rfl, ho3, ⟨rfl⟩, hne, hos', hB3⟩
      case round =>
        obtain ⟨k, g, cap2, o, hk, rfl, hol, rfl, hown, hok, hne, hsn, hbel⟩ := hrel
        have hg : w.heap.size ≤ g := (ownsRow_parts hown).1
        by_cases hlt : k < N
        · have hkb : k < b.length := by rw [hbk.out.1]; exact hlt
          have c1 := hsn.cellAt k (by omega)
          rw [boolsV_get hkb] at c1
          obtain ⟨s, hs⟩ : ∃ s, s = b.getD k false := ⟨_, rfl⟩
          have hs' : b[k] = s := by rw [hs]; simp [List.getD_eq_getElem?_getD, hkb]
          have htk := trues_take hkb
          rw [hs', ← hok.out] at htk
          rw [← hs] at c1
          have hkl : (k : Int) < (N : Int) := by omega
          have hol2 : o.length + 1 ≤ 1048576 := by omega
          have HTK := Lib.hid htk
          clear hs hs' htk hok hkb
          cases s with
          | true =>
            have hnx : Kept (o ++ [(k : Int)] = trues (b.take (k + 1))) := ⟨(HTK.out.1 rfl).symm⟩
            go_wp2_with (at_builtin; refine wpl_push elemI rfl (.tmp 29) (.tmp 31) rfl rfl (hown.alloc _) rfl (heap_alloc_new _ _) rfl (by omega) ?_; intro g' cap' w4 hown' hgrow hat)
            have hb4 := below_push hbel hgrow hg (Nat.le_refl _)
            have hs4 := (hsn.alloc (.cells #[.int .i64 (k : Int)] 3 (0, 0))).kept hgrow (.inr (by simp only [Value.ownBlock, ne_eq, Option.some.injEq]; exact fun e => hne.out e))
            have hne4 : Kept (gs ≠ g') := ⟨by
              rcases hat with h | h
              · rw [h]; exact hne.out
              · have := (ownsRow_parts hsn).2.1
                simp at h; omega⟩
            have hlen3 : o.length + 1 = (o ++ [(k : Int)]).length := by simp
            have hown4 : w4.ownsRow w.heap.size 3 1 (.slice (some ⟨g', 0, none⟩) (o.length + 1) cap') (o.length + 1) (intsV (o ++ [(k : Int)])) := by rw [intsV_append]; exact hown'
            clear hown'
            go_roundw
            case rel => exact ⟨k + 1, g', cap', o ++ [(k : Int)], by omega, by go_num, by simp; omega, by rw [hlen3], by rw [← hlen3]; exact hown4, hnx, hne4, hs4, hb4⟩
            case measure => simp [intOf]; omega
          | false =>
            have hnx : Kept (o = trues (b.take (k + 1))) := ⟨(HTK.out.2 rfl).symm⟩
            go_wp2
            go_roundw
            case rel => exact ⟨k + 1, g, cap2, o, by omega, by go_num, by omega, rfl, hown, hnx, hne, hsn, hbel⟩
            case measure => simp [intOf]; omega
        · obtain rfl : k = N := by omega
          have hfin : Kept (o = R) := ⟨by rw [hok.out, List.take_of_length_le (by rw [hbk.out.1]; exact Nat.le_refl _)]; exact hbk.out.2⟩
          go_wp2
          go_ret
          rw [← hfin.out]
          exact RetI.mk rfl hown (by rw [hfin.out]; exact HRI.out) hbel
theorem passE_yes {o : List Int} {e : Ed} (h : e.1 ∈ o) : passE o e = addI (addI o e.2.2) e.1 := by
  rw [passE, stepA_yes h, stepA_yes (mem_addI.2 (.inl rfl))]
theorem passE_back {o : List Int} {e : Ed} (h : e.1 ∉ o) (h2 : e.2.2 ∈ o) : passE o e = addI o e.1 := by rw [passE, stepA_no h, stepA_yes h2]
theorem passE_no {o : List Int} {e : Ed} (h : e.1 ∉ o) (h2 : e.2.2 ∉ o) : passE o e = o := by rw [passE, stepA_no h, stepA_no h2]
theorem has_yes {v : Value} {l : List Int} {x : Int} {w : World} (h : Ints w v l) (hn : l.length ≤ 1048576) (hx : x ∈ l) :
    Calls Try.prog 56 #[v, .int .i64 x] w fun e w' => e = .returned (.bool true) ∧ w = w' := by
  have := l4Has_any v l x w h hn
  rwa [decide_eq_true hx] at this
theorem has_no {v : Value} {l : List Int} {x : Int} {w : World} (h : Ints w v l) (hn : l.length ≤ 1048576) (hx : x ∉ l) :
    Calls Try.prog 56 #[v, .int .i64 x] w fun e w' => e = .returned (.bool false) ∧ w = w' := by
  have := l4Has_any v l x w h hn
  rwa [decide_eq_false hx] at this
set_option maxHeartbeats 1600000 in
theorem reachedFromS_any (r n x : Int) (v : Value) (l : List Ed) (R : List Int) (w : World) (h : Edges w v l) (hn : l.length ≤ 1048576) (hR : IsReach r n x l R) :
    Calls Try.prog 31 #[graphV r n v, .int .i64 x] w (RetI w R) := by
  have hkeep := h
  obtain ⟨A, cap, rfl, hc, hrE, hcell⟩ := h
  have H := Lib.hid hcell
  obtain ⟨W, hW⟩ : ∃ W, W = w.alloc (.cells #[.int .i64 r, .int .i64 n, .slice A l.length cap] 29 (0, 0)) := ⟨_, rfl⟩
  have hB : Below w.heap.size w W := by rw [hW]; exact (Below.refl _ _).alloc (Nat.le_refl _) _
  have bx1 : Box W w.heap.size (.cells #[.int .i64 r, .int .i64 n, .slice A l.length cap] 29 (0, 0)) := by rw [hW]; exact Box.new _ _
  obtain ⟨m, hm⟩ : ∃ m, wrap64 (n - 1) = m := ⟨_, rfl⟩
  obtain ⟨y, hy⟩ : ∃ y, y = isG r n l := ⟨_, rfl⟩
  obtain ⟨z, hz⟩ : ∃ z, z = inV n x := ⟨_, rfl⟩
  have hq := isGraphS_any r n _ l W (hkeep.keep hB) hn
  have hh := fun W => l1In_any x 0 m W
  rw [← hy] at hq
  rw [show decide (0 ≤ x ∧ x ≤ m) = inV n x by rw [inV, hm], ← hz] at hh
  have hR0 : (y && z) = false → R = [] := by rw [hy, hz]; exact hR.no
  have HW := Lib.hid hW
  have BX := Lib.hid bx1
  have HQ := Lib.hid hq
  have HH := Lib.hid hh
  have HR0 := Lib.hid hR0
  have HR := Lib.hid hR
  have HY := Lib.hid hy
  have HZ := Lib.hid hz
  have HE := Lib.hid hrE
  clear hW bx1 hq hh hR0 hR hy hz hcell hrE
  go_enter Try.func31, Try.ntmps31
  go_wp2_with fail
  rw [← HW.out]
  refine (HQ.out).mono ?_
  rintro e w1 ⟨rfl, hb1⟩
  have hB1 := hB.trans (hb1.mono hB.size)
  obtain ⟨q1, q2, q3⟩ := (BX.out.keep hb1).cells
  have hnil : ∀ X : World, w.heap.size ≤ X.heap.size → (X.alloc (.cells #[] 3 (0, 0))).ownsRow w.heap.size 3 1 (.slice (some ⟨X.heap.size, 0, none⟩) 0 0) 0 (intsV []) := fun X hX => World.ownsRow_made _ _ _ hX (by decide) rfl
  have HNIL := Lib.hid hnil
  clear hnil
  cases y with
  | false =>
    have hst : Kept (R = []) := ⟨HR0.out rfl⟩
    go_wp2
    go_ret
    rw [hst.out]
    exact RetI.mk rfl (HNIL.out _ hB1.size) (by simp) (hB1.alloc hB1.size _)
  | true =>
    go_wp2_with fail
    refine (HH.out _).mono ?_
    rintro e w2 ⟨rfl, rfl⟩
    cases z with
    | false =>
      have hst : Kept (R = []) := ⟨HR0.out rfl⟩
      go_wp2
      go_ret
      rw [hst.out]
      exact RetI.mk rfl (HNIL.out _ hB1.size) (by simp) (hB1.alloc hB1.size _)
    | true =>
      obtain ⟨g1, g2, g3, g4⟩ := isG_all HY.out.symm
      have hx := (inV_iff g2).1 HZ.out.symm
      have hcmp : IsComp l x R := HR.out.yes (by rw [← HY.out, ← HZ.out]; rfl)
      have hxI : I64 x := by unfold I64; omega
      have hlen : ∀ o, ReachOk l x o → o.length ≤ 1048576 := fun o ho => by
        have := reach_len ho hx (fun e he => by have := g4 e he; omega) g2.2; omega
      have hcl : ∀ o, ReachOk l x o → (∀ e ∈ l, e.1 ∈ o ↔ e.2.2 ∈ o) → o = R := fun o ho hc => reach_done hcmp ho hc
      have HLEN := Lib.hid hlen
      have HCL := Lib.hid hcl
      have hl120 : l.length ≤ 120 := g3
      have hst0 : Kept (ReachOk l x [x]) := ⟨⟨by simp, by simp, fun u hu => by simp at hu; rw [hu]; exact Conn.here _ _⟩⟩
      have hone : OwnI (w1.alloc (.cells #[.int .i64 x] 3 (0, 0))) w.heap.size (.slice (some ⟨w1.heap.size, 0, none⟩) 1 1) [x] := ⟨_, _, rfl, ⟨rfl, .inr ⟨_, 1, _, rfl, hB1.size, heap_alloc_new _ _, Nat.le_refl _, by decide, rfl, rfl⟩⟩, fun u hu => by simp at hu; rw [hu]; exact hxI⟩
      have hB1' := hB1.alloc hB1.size (.cells #[.int .i64 x] 3 (0, 0))
      have hb1' : Below W.heap.size W (w1.alloc (.cells #[.int .i64 x] 3 (0, 0))) := hb1.alloc hb1.size _
      clear q1 q2 q3 g1 g2 g3 g4 hcmp hlen hcl hxI
      go_wp2
      go_loopw [5, 6, 7, 8] (fun out i _ _ wr => ∃ (k : Nat) (o : List Int), k ≤ l.length + 1 ∧ i = .int .i64 k ∧ OwnI wr w.heap.size out o ∧ Kept (ReachOk l x o ∧ ((∀ e ∈ l, e.1 ∈ o ↔ e.2.2 ∈ o) ∨ k ≤ inside l o)) ∧ Below W.heap.size W wr)
        (fun _ i _ _ _ => l.length + 1 - (intOf i).toNat)
      case atStart => exact ⟨0, [x], by omega, rfl, hone, ⟨hst0.out, .inr (Nat.zero_le _)⟩, hb1'⟩
      case round =>
        obtain ⟨k, o, hk, rfl, hown, hok, hbel⟩ := hrel
        obtain ⟨q1, q2, q3⟩ := (BX.out.keep hbel).cells
        by_cases hlt : k < l.length + 1
        · have hkl : (k : Int) < (l.length : Int) + 1 := by omega
          go_wp2
          go_loopw [5, 7, 8] (fun out i _ wx => ∃ (j : Nat) (c : List Int), j ≤ l.length ∧ i = .int .i64 j ∧ OwnI wx w.heap.size out c ∧ Kept (PassOk l x o c j) ∧ Below W.heap.size W wx)
            (fun _ i _ _ => l.length - (intOf i).toNat)
          case atStart => exact ⟨0, o, by omega, rfl, hown, ⟨PassOk.start hok.out.1⟩, hbel⟩
          case round =>
            obtain ⟨j, c, hj, rfl, hownc, hpass, hbx⟩ := hrel
            have hBx := hB.trans (hbx.mono hB.size)
            obtain ⟨q1, q2, q3⟩ := (BX.out.keep hbx).cells
            by_cases hjl : j < l.length
            · obtain ⟨b0, off, rfl, hb, hcell⟩ := H.out (by omega)
              obtain ⟨e1, e2, e3⟩ := hcell j hjl
              replace e1 := (hBx.cell (p := ⟨b0, off + j * 3, none⟩) hb).trans e1
              replace e2 := (hBx.cell (p := ⟨b0, off + j * 3 + 1, none⟩) hb).trans e2
              replace e3 := (hBx.cell (p := ⟨b0, off + j * 3 + 2, none⟩) hb).trans e3
              have hnext := hpass.out.next hjl
              have heI := HE.out _ (List.getElem_mem hjl)
              obtain ⟨f, hf⟩ : ∃ z, z = l[j].1 := ⟨_, rfl⟩
              obtain ⟨a, ha⟩ : ∃ z, z = l[j].2.1 := ⟨_, rfl⟩
              obtain ⟨t, ht⟩ : ∃ z, z = l[j].2.2 := ⟨_, rfl⟩
              have hfI : I64 f := by rw [hf]; exact heI.1
              have htI : I64 t := by rw [ht]; exact heI.2.2
              have hlc := HLEN.out c hpass.out.ok
              have p1 : f ∈ c → passE c l[j] = addI (addI c t) f := by rw [hf, ht]; exact passE_yes
              have p2 : f ∉ c → t ∈ c → passE c l[j] = addI c f := by rw [hf, ht]; exact passE_back
              have p3 : f ∉ c → t ∉ c → passE c l[j] = c := by rw [hf, ht]; exact passE_no
              have lc1 : (addI c t).length ≤ 1048576 := by
                by_cases hlc2 : c.length = 1048576
                · have := reach_len (n := n) hpass.out.ok hx (fun e he => by have := (isG_all HY.out.symm).2.2.2 e he; omega) (isG_all HY.out.symm).2.1.2; omega
                · have := addI_len (l := c) (x := t); omega
              rw [← hf] at e1
              rw [← ha] at e2
              rw [← ht] at e3
              have HN := Lib.hid hnext
              have P1 := Lib.hid p1
              have P2 := Lib.hid p2
              have P3 := Lib.hid p3
              obtain ⟨Wa, hWa⟩ : ∃ Wa, Wa = wr.alloc (.cells #[.int .i64 f, .int .i64 a, .int .i64 t] 47 (0, 0)) := ⟨_, rfl⟩
              have hwa : Below wr.heap.size wr Wa := by rw [hWa]; exact (Below.refl _ _).alloc (Nat.le_refl _) _
              have hba : Below W.heap.size W Wa := by rw [hWa]; exact hbx.alloc hbx.size _
              have hoa := hownc.keep hwa
              have be : Box Wa wr.heap.size (.cells #[.int .i64 f, .int .i64 a, .int .i64 t] 47 (0, 0)) := by rw [hWa]; exact Box.new _ _
              have HWa := Lib.hid hWa
              have BE := Lib.hid be
              have hszB : w.heap.size ≤ W.heap.size := hB.size
              have hjI : (j : Int) < (l.length : Int) := by omega
              clear hcell hnext heI hf ha ht p1 p2 p3 hWa be hpass
              by_cases m1 : f ∈ c
              · have hnx : Kept (PassOk l x o (addI (addI c t) f) (j + 1)) := ⟨by rw [← P1.out m1]; exact HN.out⟩
                have c1 := has_yes hoa.ints hlc m1
                have C1 := Lib.hid c1
                have M2 := Lib.hid (show t ∈ addI c t from mem_addI.2 (.inl rfl))
                clear c1 m1
                go_wp2_with fail
                rw [← HWa.out]
                refine (C1.out).mono ?_
                rintro e v1 ⟨rfl, rfl⟩
                obtain ⟨r1, r2, r3⟩ := BE.out.cells
                go_wp2_with fail
                refine (l4Add_any _ c t _ hoa.ints htI hlc).mono ?_
                rintro e v2 ⟨va, rfl, oa, hv2⟩
                clear r1 r2 r3
                obtain ⟨r1, r2, r3⟩ := (BE.out.keep hv2).cells
                go_wp2_with fail
                refine (has_yes oa.ints lc1 M2.out).mono ?_
                rintro e v3 ⟨rfl, rfl⟩
                go_wp2_with fail
                refine (l4Add_any _ (addI c t) f _ oa.ints hfI lc1).mono ?_
                rintro e v4 ⟨vb, rfl, ob, hv4⟩
                have hv5 := (hba.trans (hv2.mono hba.size))
                have hv6 := hv5.trans (hv4.mono hv5.size)
                have hw5 : w.heap.size ≤ v2.heap.size := Nat.le_trans hszB hv5.size
                go_wp2
                go_roundw
                case rel => exact ⟨j + 1, _, by omega, by go_num, ob.base hw5, hnx, hv6⟩
                case measure => simp [intOf]; omega
              · by_cases m2 : t ∈ c
                · have hnx : Kept (PassOk l x o (addI c f) (j + 1)) := ⟨by rw [← P2.out m1 m2]; exact HN.out⟩
                  have c1 := has_no hoa.ints hlc m1
                  have c2 := has_yes hoa.ints hlc m2
                  have C1 := Lib.hid c1
                  have C2 := Lib.hid c2
                  clear c1 c2 m1 m2
                  go_wp2_with fail
                  rw [← HWa.out]
                  refine (C1.out).mono ?_
                  rintro e v1 ⟨rfl, rfl⟩
                  obtain ⟨r1, r2, r3⟩ := BE.out.cells
                  go_wp2_with fail
                  refine (C2.out).mono ?_
                  rintro e v3 ⟨rfl, rfl⟩
                  go_wp2_with fail
                  refine (l4Add_any _ c f _ hoa.ints hfI hlc).mono ?_
                  rintro e v4 ⟨vb, rfl, ob, hv4⟩
                  have hv6 := hba.trans (hv4.mono hba.size)
                  have hw5 : w.heap.size ≤ Wa.heap.size := Nat.le_trans hszB hba.size
                  go_wp2
                  go_roundw
                  case rel => exact ⟨j + 1, _, by omega, by go_num, ob.base hw5, hnx, hv6⟩
                  case measure => simp [intOf]; omega
                · have hnx : Kept (PassOk l x o c (j + 1)) := ⟨by have h9 := HN.out; rw [P3.out m1 m2] at h9; exact h9⟩
                  have c1 := has_no hoa.ints hlc m1
                  have c2 := has_no hoa.ints hlc m2
                  have C1 := Lib.hid c1
                  have C2 := Lib.hid c2
                  clear c1 c2 m1 m2
                  go_wp2_with fail
                  rw [← HWa.out]
                  refine (C1.out).mono ?_
                  rintro e v1 ⟨rfl, rfl⟩
                  obtain ⟨r1, r2, r3⟩ := BE.out.cells
                  go_wp2_with fail
                  refine (C2.out).mono ?_
                  rintro e v3 ⟨rfl, rfl⟩
                  go_wp2
                  go_roundw
                  case rel => exact ⟨j + 1, c, by omega, by go_num, hoa, hnx, hba⟩
                  case measure => simp [intOf]; omega
            · obtain rfl : j = l.length := by omega
              have hnx : Kept (ReachOk l x c ∧ ((∀ e ∈ l, e.1 ∈ c ↔ e.2.2 ∈ c) ∨ k + 1 ≤ inside l c)) := ⟨hpass.out.ok, hpass.out.done hok.out.2⟩
              go_wp2
              go_roundw
              case rel => exact ⟨k + 1, c, by omega, by go_num, hownc, hnx, hbx⟩
              case measure => simp [intOf]; omega
        · obtain rfl : k = l.length + 1 := by omega
          have hfin : Kept (o = R) := ⟨HCL.out o hok.out.1 (hok.out.2.elim id fun h => by have := inside_le l o; omega)⟩
          go_wp2
          go_ret
          rw [← hfin.out]
          exact ⟨_, rfl, hown, hB.trans (hbel.mono hB.size)⟩
end Go.Proofs.Ytfckgmajjonckaa
