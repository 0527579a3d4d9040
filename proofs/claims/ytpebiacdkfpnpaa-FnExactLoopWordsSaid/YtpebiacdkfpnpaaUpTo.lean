/- Contract of wordsUpTo. Conditions: ranks 1 to 3, at most 4 letters. -/
import Derived.Test.YtpebiacdkfpnpaaFoot
import Derived.Test.YtpebiacdkfpnpaaLets
import Derived.Test.YtpebiacdkfpnpaaCopyI
import Derived.Test.YtpebiacdkfpnpaaLoops
import Derived.Test.YtpebiacdkfpnpaaWordA
namespace Go.Proofs.Ytpebiacdkfpnpaa
open Go.RowKit

theorem lettersL_one {r : Nat} (h : 1 ≤ r) : (1 : Int) ∈ lettersL r ∧ (-1 : Int) ∈ lettersL r := by
  simp only [lettersL, List.mem_flatMap, List.mem_range, List.mem_cons, List.not_mem_nil, or_false]
  exact ⟨⟨0, by omega, .inl rfl⟩, ⟨0, by omega, .inr rfl⟩⟩
theorem extW_pos {r : Nat} (h : 1 ≤ r) (w : List Int) : 0 < (extW (lettersL r) w).length := by
  obtain ⟨h1, h2⟩ := lettersL_one h
  have : ∃ x ∈ lettersL r, okNext w x = true := by
    by_cases e : okNext w 1 = true
    · exact ⟨1, h1, e⟩
    · refine ⟨-1, h2, ?_⟩
      unfold okNext at e ⊢
      cases hw : w.getLast? with
      | none => rfl
      | some y =>
        rw [hw] at e
        simp only [inv, Bool.not_eq_eq_eq_not, Bool.not_true, decide_eq_false_iff_not] at e ⊢
        omega
  obtain ⟨x, hx, ho⟩ := this
  rw [extW, List.length_map]
  exact List.length_pos_of_mem (List.mem_filter.2 ⟨hx, ho⟩)
theorem levelW_pos {r : Nat} (h : 1 ≤ r) : ∀ n, 0 < (levelW r n).length
  | 0 => by simp [levelW]
  | n + 1 => by
    have ih := levelW_pos h n
    obtain ⟨w, t, e⟩ := List.exists_cons_of_length_pos ih
    rw [levelW, e, List.flatMap_cons, List.length_append]
    have := extW_pos h w
    omega
theorem belowW_small {r k : Nat} (hr : r ≤ 3) (hk : k ≤ 5) : (belowW r k).length ≤ 38880 := by
  have h1 := belowW_len hr k
  have h2 : 6 ^ k ≤ 6 ^ 5 := Nat.pow_le_pow_right (by decide) hk
  have h3 : k * 6 ^ k ≤ 5 * 6 ^ 5 := Nat.mul_le_mul hk h2
  have h4 : 5 * 6 ^ 5 = 38880 := by decide
  omega
/-- The old row at the block g still holds what the list holds at its first n0 places. -/
def OldRow (w : World) (g n0 : Nat) (vs : List Value) : Prop := g < w.heap.size ∧ ∀ j, j < n0 → w.cell? ⟨g, j, none⟩ = vs[j]?
theorem OldRow.keep {w w' : World} {g n0 : Nat} {vs : List Value} (h : OldRow w g n0 vs) (hB : Below w.heap.size w w') : OldRow w' g n0 vs :=
  ⟨Nat.lt_of_lt_of_le h.1 hB.size, fun j hj => (hB.cell (p := ⟨g, j, none⟩) h.1).trans (h.2 j hj)⟩
theorem FootL.old {w : World} {B : Nat} {F : Nat → Prop} {g cap : Nat} {vs : List Value} {ls : List (List Int)} (h : FootL w B F g cap vs ls) : OldRow w g ls.length vs :=
  ⟨h.lt g h.spine, fun j hj => h.own.cellAt j (by omega)⟩
theorem OldRow.push {w w2 w3 : World} {B g g0 n0 n cap g' cap' : Nat} {vs : List Value} {v9 : Value} (h : OldRow w g0 n0 vs) (hn : n0 ≤ vs.length) (hvn : vs.length = n)
    (hg : w.ownsRow B 33 1 (.slice (some ⟨g, 0, none⟩) n cap) n vs)
    (hb2 : Below w.heap.size w w2)
    (hown' : w3.ownsRow B 33 1 (.slice (some ⟨g', 0, none⟩) (n + 1) cap') (n + 1) (vs ++ [v9]))
    (hgrow : (w2.alloc (.cells #[v9] 33 (0, 0))).grownBy w3 (some g))
    (hstay : g' ≠ g → w3.heap[g]? = (w2.alloc (.cells #[v9] 33 (0, 0))).heap[g]?) : OldRow w3 g0 n0 (vs ++ [v9]) := by
  have hal : Below w.heap.size w (w2.alloc (.cells #[v9] 33 (0, 0))) := hb2.alloc hb2.size _
  have h0 := h.1
  have h1 := hal.size
  have h2 := hgrow.size
  refine ⟨by omega, fun j hj => ?_⟩
  rw [List.getElem?_append_left (by omega), ← h.2 j hj, ← hal.cell (p := ⟨g0, j, none⟩) h0]
  by_cases e : g0 = g
  · subst e
    by_cases e2 : g' = g0
    · subst e2
      rw [hown'.cellAt j (by omega), hal.cell (p := ⟨g', j, none⟩) h0, hg.cellAt j (by omega), List.getElem?_append_left (by omega)]
    · exact World.cell?_of_block (hstay e2)
  · exact World.cell?_of_block (hgrow.block g0 (by omega) (by simpa using e))
theorem FootL.one (w : World) : FootL ((w.alloc (.cells #[] 3 (0, 0))).alloc (.cells #[.slice (some ⟨w.heap.size, 0, none⟩) 0 0] 33 (0, 0))) w.heap.size (fun k => k = w.heap.size ∨ k = w.heap.size + 1) (w.heap.size + 1) 1 [.slice (some ⟨w.heap.size, 0, none⟩) 0 0] [[]] := by
  have hal : Below (w.alloc (.cells #[] 3 (0, 0))).heap.size (w.alloc (.cells #[] 3 (0, 0))) ((w.alloc (.cells #[] 3 (0, 0))).alloc (.cells #[.slice (some ⟨w.heap.size, 0, none⟩) 0 0] 33 (0, 0))) := (Below.refl _ _).alloc (Nat.le_refl _) _
  have hn : OwnI (w.alloc (.cells #[] 3 (0, 0))) w.heap.size (.slice (some ⟨w.heap.size, 0, none⟩) 0 0) [] := ⟨_, _, rfl, World.ownsRow_made _ _ _ (Nat.le_refl _) (by decide) rfl, by simp⟩
  refine ⟨⟨rfl, .inr ⟨_, 1, #[.slice (some ⟨w.heap.size, 0, none⟩) 0 0], rfl, by omega, ?_, Nat.le_refl _, by decide, rfl, rfl⟩⟩, fun i hi => ?_, fun i j vi vj hij h1 h2 => ?_, .inr rfl, fun i vi k h1 h2 => ?_, fun k hk => ?_⟩
  · have := heap_alloc_new (w.alloc (.cells #[] 3 (0, 0))) (.cells #[.slice (some ⟨w.heap.size, 0, none⟩) 0 0] 33 (0, 0))
    simpa using this
  · obtain rfl : i = 0 := by simpa using hi
    exact ⟨_, rfl, hn.keep hal, by simp [Value.ownBlock]⟩
  · have := (List.getElem?_eq_some_iff.1 h2).1
    simp only [List.length_singleton] at this; omega
  · have hi := (List.getElem?_eq_some_iff.1 h1).1
    obtain rfl : i = 0 := by simpa using hi
    simp only [List.getElem?_cons_zero, Option.some.injEq] at h1
    subst h1
    simp only [Value.ownBlock, Option.some.injEq] at h2
    exact .inl h2.symm
  · simp only [World.alloc, Array.size_push]; omega
/-- A list of words in new memory is handed back, with the blocks that it lies in. -/
def RetFoot (w : World) (ls : List (List Int)) (e : Ending) (w' : World) : Prop := ∃ g cap vs F, e = .returned (.slice (some ⟨g, 0, none⟩) ls.length cap) ∧ FootL w' w.heap.size F g cap vs ls ∧ Below w.heap.size w w'
set_option maxRecDepth 20000 in
set_option maxHeartbeats 6400000 in
theorem wordsUpTo_any (R most : Nat) (hR1 : 1 ≤ R) (hR : R ≤ 3) (hm : most ≤ 4) (w : World) :
    Calls Try.prog 63 #[.int .i64 R, .int .i64 most] w (RetFoot w (belowW R (most + 1))) := by
  have hone := FootL.one w
  have hb0 : Below w.heap.size w ((w.alloc (.cells #[] 3 (0, 0))).alloc (.cells #[.slice (some ⟨w.heap.size, 0, none⟩) 0 0] 33 (0, 0))) := ((Below.refl _ _).alloc (Nat.le_refl _) _).alloc (by simp) _
  go_enter Try.func63, Try.ntmps63
  go_wp2
  go_loopw [5, 6, 7, 8, 10, 12] (fun out from_ n _ _ _ wr => ∃ (k g cap fr : Nat) (vs : List Value) (F : Nat → Prop) (ls : List (List Int)), k ≤ most ∧ n = .int .i64 k ∧ out = .slice (some ⟨g, 0, none⟩) ls.length cap ∧ from_ = .int .i64 fr ∧ fr < ls.length ∧ ls.length ≤ 38880 ∧ Kept (fr = (belowW R k).length ∧ ls = belowW R (k + 1)) ∧ FootL wr w.heap.size F g cap vs ls ∧ Below w.heap.size w wr)
    (fun _ _ n _ _ _ _ => most - (intOf n).toNat)
  case atStart => exact ⟨0, _, _, 0, _, _, [[]], by omega, rfl, rfl, rfl, by simp, by simp, ⟨rfl, rfl⟩, hone, hb0⟩
  case round =>
    clear hone hb0
    obtain ⟨k, g, cap, fr, vs, F, ls, hk, rfl, rfl, rfl, hfr, hls, hst, hF, hbel⟩ := hrel
    rename World => W0
    by_cases hlt : k < most
    · have hkI : (k : Int) < (most : Int) := by omega
      have tk : decide (k < most) = true := decide_eq_true hlt
      have tkI : decide ((k : Int) < (most : Int)) = true := decide_eq_true hkI
      have hcap := (ownsRow_parts hF.own).2.2.1
      have hfrI : (fr : Int) ≤ (ls.length : Int) := by omega
      have hlc : (ls.length : Int) ≤ (cap : Int) := by omega
      have hcf : ¬ cap = fr := by omega
      have hold0 := hF.old
      have hlev : Kept ((levelW R k).length = ls.length - fr) := ⟨by
        have := hst.out
        rw [this.2, this.1, belowW, List.length_append]; omega⟩
      have hls2 : Kept (∀ i, i < ls.length - fr → ls[fr + i]? = (levelW R k)[i]?) := ⟨fun i hi => by
        have := hst.out
        rw [this.2, this.1, belowW, List.getElem?_append_right (by omega)]
        congr 1; omega⟩
      have hfin : Kept (∀ ls2, ls2 = ls ++ (levelW R k).flatMap (extW (lettersL R)) → ls.length = (belowW R (k + 1)).length ∧ ls2 = belowW R (k + 1 + 1) ∧ ls.length < ls2.length ∧ ls2.length ≤ 38880) := ⟨fun ls2 h2 => by
        have h3 : ls2 = belowW R (k + 1 + 1) := by rw [h2, hst.out.2]; rfl
        have h4 := levelW_pos hR1 (k + 1)
        have h5 := belowW_small (r := R) (k := k + 1 + 1) hR (by omega)
        refine ⟨by rw [hst.out.2], h3, ?_, by rw [h3]; exact h5⟩
        rw [h2, List.length_append]
        show ls.length < ls.length + (levelW R (k + 1)).length
        omega⟩
      clear hst
      go_wp2
      go_loopw [5, 10, 12, 27] (fun out _ _ idx wx => ∃ (i g2 cap2 : Nat) (vs2 : List Value) (F2 : Nat → Prop) (ls2 : List (List Int)), i ≤ ls.length - fr ∧ idx = .int .i64 i ∧ out = .slice (some ⟨g2, 0, none⟩) ls2.length cap2 ∧ Kept (ls2 = ls ++ ((levelW R k).take i).flatMap (extW (lettersL R))) ∧ ls.length ≤ ls2.length ∧ ls2.length ≤ ls.length + 6 * i ∧ Kept (∀ j, j < ls.length → ls2[j]? = ls[j]?) ∧ FootL wx w.heap.size F2 g2 cap2 vs2 ls2 ∧ OldRow wx g ls.length vs2 ∧ Below w.heap.size w wx)
        (fun _ _ _ idx _ => ls.length - (intOf idx).toNat)
      case atStart => exact ⟨0, g, cap, vs, F, ls, by omega, rfl, rfl, ⟨by simp⟩, Nat.le_refl _, by omega, ⟨fun j _ => rfl⟩, hF, hold0, hbel⟩
      case round =>
        clear hF hold0 hbel
        obtain ⟨i, g2, cap2, vs2, F2, ls2, hi, rfl, rfl, hst2, hl2, hl2b, hpre, hF2, hold2, hbel2⟩ := hrel
        rename World => W1
        by_cases hil : i < ls.length - fr
        · have ti : decide (i < ls.length - fr) = true := decide_eq_true hil
          obtain ⟨u, hu⟩ : ∃ u, u = (levelW R k)[i]'(by rw [hlev.out]; exact hil) := ⟨_, rfl⟩
          have hui : ls2[fr + i]? = some u := by
            rw [hpre.out _ (by omega), hls2.out i hil, hu]; exact List.getElem?_eq_getElem _
          have hfi : fr + i < ls2.length := by omega
          have hue : ls2[fr + i] = u := by
            rw [List.getElem?_eq_getElem hfi] at hui; exact Option.some.inj hui
          obtain ⟨gi, ci, hvi, _, hrow, _, hgne⟩ := hF2.at_ hfi
          rw [hue] at hvi hrow
          have c1 := (hold2.2 (fr + i) (by omega)).trans hvi
          have hult : u.length ≤ 4 := by
            have := (levelW_mem (r := R) (n := k) (w := u) (by rw [hu]; exact List.getElem_mem _)).1
            omega
          have hnext2 : Kept (∀ t, t = ls2 ++ extW (lettersL R) u → t = ls ++ ((levelW R k).take (i + 1)).flatMap (extW (lettersL R))) := ⟨fun t ht => by
            rw [ht, hst2.out, take_get (by rw [hlev.out]; exact hil), List.flatMap_append, ← hu]; simp⟩
          have HL := Lib.hid (letters_any R (by omega) W1)
          have HVI := Lib.hid hvi
          have HUI := Lib.hid hui
          clear hst2 hui hue hvi hu
          go_wp2_with fail
          refine (HL.out).mono ?_
          rintro e w1 ⟨vL, rfl, oL, hb1⟩
          obtain ⟨L, hL⟩ : ∃ L, L = lettersL R := ⟨_, rfl⟩
          rw [← hL] at oL
          obtain ⟨gL, cL, rfl, hownL, hIL⟩ := oL
          have hgL1 : W1.heap.size ≤ gL := (ownsRow_parts hownL).1
          have hnF : ¬ F2 gL := fun h => by have := hF2.lt gL h; omega
          have hF21 := hF2.keep hb1
          have hold21 := hold2.keep hb1
          have hbel21 := hbel2.trans (hb1.mono hbel2.size)
          have hlets := ownsRow_base (b' := w.heap.size) hownL hbel2.size
          have hLlen : L.length ≤ 6 := by rw [hL, lettersL_length]; omega
          have HLe := Lib.hid hL
          clear c1 hF2 hold2 hbel2 hownL hb1 hL hrow hgne HL
          go_wp2
          go_loopw [5, 12, 34] (fun out _ idx wy => ∃ (j g3 cap3 : Nat) (vs3 : List Value) (F3 : Nat → Prop) (ls3 : List (List Int)), j ≤ L.length ∧ idx = .int .i64 j ∧ out = .slice (some ⟨g3, 0, none⟩) ls3.length cap3 ∧ Kept (ls3 = ls2 ++ extW (L.take j) u) ∧ ls2.length ≤ ls3.length ∧ ls3.length ≤ ls2.length + j ∧ Kept (vs3[fr + i]? = some (.slice (some ⟨gi, 0, none⟩) u.length ci)) ∧ Kept (∀ j, j < ls2.length → ls3[j]? = ls2[j]?) ∧ FootL wy w.heap.size F3 g3 cap3 vs3 ls3 ∧ OldRow wy g ls.length vs3 ∧ Kept (¬ F3 gL) ∧ wy.ownsRow w.heap.size 3 1 (.slice (some ⟨gL, 0, none⟩) L.length cL) L.length (intsV L) ∧ Below w.heap.size w wy)
            (fun _ _ idx _ => L.length - (intOf idx).toNat)
          case atStart => exact ⟨0, g2, cap2, vs2, F2, ls2, by omega, rfl, rfl, ⟨by simp [extW_nil]⟩, Nat.le_refl _, by omega, ⟨HVI.out⟩, ⟨fun j _ => rfl⟩, hF21, hold21, ⟨hnF⟩, hlets, hbel21⟩
          case round =>
            clear hF21 hold21 hnF hlets hbel21
            obtain ⟨j, g3, cap3, vs3, F3, ls3, hj, rfl, rfl, hst3, hl3, hl3b, hv3, hpre3, hF3, hold3, hnF3, hlets, hbel3⟩ := hrel
            rename World => W2
            by_cases hjl : j < L.length
            · have tj : (j : Int) < (L.length : Int) := by omega
              have c2 := hlets.cellAt j (by omega)
              rw [intsV, List.getElem?_map, List.getElem?_eq_getElem hjl] at c2
              simp only [Option.map_some] at c2
              have hui3 : ls3[fr + i]? = some u := by rw [hpre3.out _ hfi, HUI.out]
              have hfi3 : fr + i < ls3.length := by omega
              have hue3 : ls3[fr + i] = u := by rw [List.getElem?_eq_getElem hfi3] at hui3; exact Option.some.inj hui3
              obtain ⟨gi', ci', hvi3, _, hrow3, _, hgne3⟩ := hF3.at_ hfi3
              rw [hue3, hv3.out] at hvi3
              rw [hue3] at hrow3
              simp only [Option.some.injEq, Value.slice.injEq, Addr.mk.injEq, and_true, true_and] at hvi3
              obtain ⟨rfl, rfl⟩ := hvi3
              have hxI := hIL _ (List.getElem_mem hjl)
              have hyes := extW_yes (xs := L.take j) (w := u) (x := L[j])
              have hno := extW_no (xs := L.take j) (w := u) (x := L[j])
              rw [← take_get hjl] at hyes hno
              obtain ⟨x, hx⟩ : ∃ x, x = L[j] := ⟨_, rfl⟩
              rw [← hx] at c2 hxI hyes hno
              have HY := Lib.hid hyes
              have HN := Lib.hid hno
              clear hyes hno hx hui3 hue3
              have hcp := copyInts_any _ u W2 hrow3.ints (by omega)
              have HCP := Lib.hid hcp
              have huI : ∀ z ∈ u, I64 z := hrow3.ints.range
              have hwx : Kept (∀ z ∈ u ++ [x], I64 z) := ⟨fun z hz => by
                rcases List.mem_append.1 hz with h | h
                · exact huI z h
                · simp at h; rw [h]; exact hxI⟩
              have hjl6 : j < 6 := by omega
              have hgLW : gL < W2.heap.size := (ownsRow_parts hlets).2.1
              clear hcp huI
              by_cases hu0 : u.length = 0
              · have tu : ((u.length : Int) == 0) = true := beq_iff_eq.2 (by omega)
                have hue : u = [] := List.eq_nil_of_length_eq_zero hu0
                have hst6 : Kept (ls3 ++ [u ++ [x]] = ls2 ++ extW (L.take (j + 1)) u) := ⟨by
                  rw [HY.out (by rw [hue]; rfl), hst3.out, List.append_assoc]⟩
                clear hue hu0
                go_wp2_with (first | fail)
                refine (HCP.out).mono ?_
                rintro e w3 ⟨v9, rfl, o9, hb3⟩
                obtain ⟨g9, c9, rfl, hown9, _⟩ := o9
                have hg9 : W2.heap.size ≤ g9 := (ownsRow_parts hown9).1
                go_wp2_with (first
                  | (at_builtin; have hb44 := hb4; refine wpl_pushS elemII rfl (.tmp 52) (.tmp 58) rfl rfl ((ownsRow_keep hF3.own hb4).alloc _) rfl (heap_alloc_new _ _) rfl (by omega) ?_; intro g6 c6 w6 hown6 hgrow6 hat6 hstay6)
                  | (at_builtin; refine wpl_push elemI rfl (.tmp 54) (.tmp 56) rfl rfl (hown9.alloc _) rfl (heap_alloc_new _ _) rfl (by omega) ?_; intro g4 c4 w4 hown4 hgrow4 hat4; have hb4 := below_push hb3 hgrow4 hg9 (Nat.le_refl _)))
                have o4 : OwnI w4 W2.heap.size (.slice (some ⟨g4, 0, none⟩) (u.length + 1) c4) (u ++ [x]) := ⟨g4, c4, by simp, by rw [List.length_append, List.length_singleton, intsV_append]; exact hown4, hwx.out⟩
                have hF6 := hF3.push hb4 o4 hbel3.size hown6 hgrow6 hat6
                have hold6 := hold3.push (by rw [hF3.len]; omega) hF3.len hF3.own hb4 hown6 hgrow6 hstay6
                have hnL6 : Kept (¬ (F3 gL ∨ (W2.heap.size ≤ gL ∧ gL < w6.heap.size))) := ⟨fun h => by
                  rcases h with h | h
                  · exact hnF3.out h
                  · omega⟩
                have hne6 : gL ≠ g3 := fun e => hnF3.out (by rw [e]; exact hF3.spine)
                have hlets6 := ((ownsRow_keep hlets hb4).alloc (.cells #[.slice (some ⟨g4, 0, none⟩) (u.length + 1) c4] 33 (0, 0))).kept hgrow6 (.inr (by simp only [Value.ownBlock, ne_eq, Option.some.injEq]; exact hne6))
                have hbel6 := below_push (hbel3.trans (hb4.mono hbel3.size)) hgrow6 (ownsRow_parts hF3.own).1 (Nat.le_refl _)
                have hv6 : Kept ((vs3 ++ [Value.slice (some ⟨g4, 0, none⟩) (u.length + 1) c4])[fr + i]? = some (.slice (some ⟨gi, 0, none⟩) u.length ci)) := ⟨by rw [List.getElem?_append_left (by rw [hF3.len]; exact hfi3)]; exact hv3.out⟩
                have hpre6 : Kept (∀ j, j < ls2.length → (ls3 ++ [u ++ [x]])[j]? = ls2[j]?) := ⟨fun j hj => by rw [List.getElem?_append_left (by omega)]; exact hpre3.out j hj⟩
                clear hown6 hgrow6 hat6 hstay6 hown4 hgrow4 hat4 o4 hown9 hb3 hb4 hne6 hold3 hF3 hlets hbel3 c2 hrow3
                go_roundw
                case rel => exact ⟨j + 1, g6, c6, _, _, ls3 ++ [u ++ [x]], by omega, by go_num, by simp, hst6, by simp; omega, by simp; omega, hv6, hpre6, hF6, hold6, hnL6, hlets6, hbel6⟩
                case measure => simp [intOf]; omega
              · have hu1 : (0 : Int) < (u.length : Int) := by omega
                have tu : ((u.length : Int) == 0) = false := beq_eq_false_iff_ne.2 (by omega)
                obtain ⟨y, hy⟩ : ∃ y, y = u[u.length - 1]'(by omega) := ⟨_, rfl⟩
                have hok := okNext_last (x := x) (w := u) (by omega)
                have hgd : u.getD (u.length - 1) 0 = y := by rw [List.getD_eq_getElem?_getD, List.getElem?_eq_getElem (by omega), hy]; rfl
                rw [hgd] at hok
                have hlI : I64 y := by rw [hy]; exact hrow3.ints.range _ (List.getElem_mem _)
                have c3 : W2.cell? ⟨gi, u.length - 1, none⟩ = some (.int .i64 y) := by
                  obtain ⟨g', cap', hv', ho', _⟩ := hrow3
                  simp only [Value.slice.injEq, Option.some.injEq, Addr.mk.injEq, and_true, true_and] at hv'
                  obtain ⟨rfl, rfl⟩ := hv'
                  rw [ho'.cellAt _ (by omega), intsV, List.getElem?_map, List.getElem?_eq_getElem (by omega), hy]; rfl
                clear hy hgd
                cases hiv : inv y x with
                | true =>
                  have hst6 : Kept (ls3 = ls2 ++ extW (L.take (j + 1)) u) := ⟨by
                    rw [HN.out (by rw [hok, hiv]; rfl), hst3.out]⟩
                  clear hok
                  go_wp2_with (go_at_call 74; refine (areInverse_any _ _ hlI _).mono ?_; rintro e w' ⟨rfl, rfl⟩)
                  go_roundw
                  case rel => exact ⟨j + 1, g3, cap3, vs3, F3, ls3, by omega, by go_num, rfl, hst6, hl3, by omega, hv3, hpre3, hF3, hold3, hnF3, hlets, hbel3⟩
                  case measure => simp [intOf]; omega
                | false =>
                  have hst6 : Kept (ls3 ++ [u ++ [x]] = ls2 ++ extW (L.take (j + 1)) u) := ⟨by
                    rw [HY.out (by rw [hok, hiv]; rfl), hst3.out, List.append_assoc]⟩
                  clear hok
                  go_wp2_with (first | (go_at_call 74; refine (areInverse_any _ _ hlI _).mono ?_; rintro e w' ⟨rfl, rfl⟩) | fail)
                  refine (HCP.out).mono ?_
                  rintro e w3 ⟨v9, rfl, o9, hb3⟩
                  obtain ⟨g9, c9, rfl, hown9, _⟩ := o9
                  have hg9 : W2.heap.size ≤ g9 := (ownsRow_parts hown9).1
                  go_wp2_with (first
                    | (at_builtin; have hb44 := hb4; refine wpl_pushS elemII rfl (.tmp 52) (.tmp 58) rfl rfl ((ownsRow_keep hF3.own hb4).alloc _) rfl (heap_alloc_new _ _) rfl (by omega) ?_; intro g6 c6 w6 hown6 hgrow6 hat6 hstay6)
                    | (at_builtin; refine wpl_push elemI rfl (.tmp 54) (.tmp 56) rfl rfl (hown9.alloc _) rfl (heap_alloc_new _ _) rfl (by omega) ?_; intro g4 c4 w4 hown4 hgrow4 hat4; have hb4 := below_push hb3 hgrow4 hg9 (Nat.le_refl _)))
                  have o4 : OwnI w4 W2.heap.size (.slice (some ⟨g4, 0, none⟩) (u.length + 1) c4) (u ++ [x]) := ⟨g4, c4, by simp, by rw [List.length_append, List.length_singleton, intsV_append]; exact hown4, hwx.out⟩
                  have hF6 := hF3.push hb4 o4 hbel3.size hown6 hgrow6 hat6
                  have hold6 := hold3.push (by rw [hF3.len]; omega) hF3.len hF3.own hb4 hown6 hgrow6 hstay6
                  have hnL6 : Kept (¬ (F3 gL ∨ (W2.heap.size ≤ gL ∧ gL < w6.heap.size))) := ⟨fun h => by
                    rcases h with h | h
                    · exact hnF3.out h
                    · omega⟩
                  have hne6 : gL ≠ g3 := fun e => hnF3.out (by rw [e]; exact hF3.spine)
                  have hlets6 := ((ownsRow_keep hlets hb4).alloc (.cells #[.slice (some ⟨g4, 0, none⟩) (u.length + 1) c4] 33 (0, 0))).kept hgrow6 (.inr (by simp only [Value.ownBlock, ne_eq, Option.some.injEq]; exact hne6))
                  have hbel6 := below_push (hbel3.trans (hb4.mono hbel3.size)) hgrow6 (ownsRow_parts hF3.own).1 (Nat.le_refl _)
                  have hv6 : Kept ((vs3 ++ [Value.slice (some ⟨g4, 0, none⟩) (u.length + 1) c4])[fr + i]? = some (.slice (some ⟨gi, 0, none⟩) u.length ci)) := ⟨by rw [List.getElem?_append_left (by rw [hF3.len]; exact hfi3)]; exact hv3.out⟩
                  have hpre6 : Kept (∀ j, j < ls2.length → (ls3 ++ [u ++ [x]])[j]? = ls2[j]?) := ⟨fun j hj => by rw [List.getElem?_append_left (by omega)]; exact hpre3.out j hj⟩
                  clear hown6 hgrow6 hat6 hstay6 hown4 hgrow4 hat4 o4 hown9 hb3 hb4 hne6 hold3 hF3 hlets hbel3 c2 hrow3
                  go_roundw
                  case rel => exact ⟨j + 1, g6, c6, _, _, ls3 ++ [u ++ [x]], by omega, by go_num, by simp, hst6, by simp; omega, by simp; omega, hv6, hpre6, hF6, hold6, hnL6, hlets6, hbel6⟩
                  case measure => simp [intOf]; omega
            · obtain rfl : j = L.length := by omega
              have hst4 : Kept (ls3 = ls ++ ((levelW R k).take (i + 1)).flatMap (extW (lettersL R))) := ⟨hnext2.out _ (by rw [hst3.out, List.take_length, HLe.out])⟩
              have hpre4 : Kept (∀ j, j < ls.length → ls3[j]? = ls[j]?) := ⟨fun j hj => by rw [hpre3.out j (by omega), hpre.out j hj]⟩
              clear hst3 hlets
              go_wp2
              go_roundw
              case rel => exact ⟨i + 1, g3, cap3, vs3, F3, ls3, by omega, by go_num, rfl, hst4, by omega, by omega, hpre4, hF3, hold3, hbel3⟩
              case measure => simp [intOf]; omega
        · obtain rfl : i = ls.length - fr := by omega
          have hfin2 := hfin.out ls2 (by rw [hst2.out, List.take_of_length_le (by rw [hlev.out]; exact Nat.le_refl _)])
          have hlt2 := hfin2.2.2.1
          have hle2 := hfin2.2.2.2
          have hst4 : Kept (ls.length = (belowW R (k + 1)).length ∧ ls2 = belowW R (k + 1 + 1)) := ⟨hfin2.1, hfin2.2.1⟩
          clear hfin2 hst2 hfin hlev hls2 hpre
          go_wp2
          go_roundw
          case rel => exact ⟨k + 1, g2, cap2, ls.length, vs2, F2, ls2, by omega, by go_num, rfl, rfl, hlt2, hle2, hst4, hF2, hbel2⟩
          case measure => simp [intOf]; omega
    · obtain rfl : k = most := by omega
      have hres : Kept (ls = belowW R (k + 1)) := ⟨hst.out.2⟩
      clear hst
      go_wp2
      go_ret
      rw [← hres.out]
      exact ⟨g, cap, vs, F, rfl, hF, hbel⟩
end Go.Proofs.Ytpebiacdkfpnpaa
