/- Contract of the program's LoopWords. Conditions: at most 2^20 edges. -/
import Derived.Test.YtpebiacdkfpnpaaUpTo
import Derived.Test.YtpebiacdkfpnpaaReadI
import Derived.Test.YtpebiacdkfpnpaaGFacts
namespace Go.Proofs.Ytpebiacdkfpnpaa
open Go.RowKit

def canLoop (r n v most : Int) (l : List Ed) : Bool := isFold r n l && (inV n v && decide (0 ≤ most ∧ most ≤ 4))
/-- What LoopWords hands back. -/
def loopW (r n v most : Int) (l : List Ed) : List (List Int) := match canLoop r n v most l with
  | true => loopsL l r.toNat v most.toNat
  | false => []
theorem loopW_no {r n v most : Int} {l : List Ed} (h : canLoop r n v most l = false) : loopW r n v most l = [] := by simp only [loopW, h]
theorem loopW_yes {r n v most : Int} {l : List Ed} (h : canLoop r n v most l = true) : loopW r n v most l = loopsL l r.toNat v most.toNat := by simp only [loopW, h]
/-- A list of words in new memory is handed back. -/
def RetL (w : World) (ls : List (List Int)) (e : Ending) (w' : World) : Prop := ∃ v, e = .returned v ∧ OwnL w' w.heap.size v ls ∧ Below w.heap.size w w'
theorem belowW_mem {r : Nat} : ∀ {n : Nat} {w : List Int}, w ∈ belowW r n → w.length < n
  | 0, w, h => by simp [belowW] at h
  | n + 1, w, h => by
    rw [belowW, List.mem_append] at h
    rcases h with h | h
    · have := belowW_mem h; omega
    · have := (levelW_mem h).1; omega
theorem loop_yes {l : List Ed} {v : Int} {w : List Int} (h : readC l v w = w.length) (h2 : readV l v w = v) : isLoop l v w = true := by
  simp only [isLoop, decide_eq_true h, decide_eq_true h2, Bool.and_self]
theorem loop_no {l : List Ed} {v : Int} {w : List Int} (h : readC l v w ≠ w.length ∨ readV l v w ≠ v) : isLoop l v w = false := by
  rcases h with h | h
  · simp only [isLoop, decide_eq_false h, Bool.false_and]
  · simp only [isLoop, decide_eq_false h, Bool.and_false]
/-- The rows of a list together with what they read as. -/
def rowsOf (us : List Value) (ws : List (List Int)) (p : List Int → Bool) (k : Nat) : List Value := (((us.zip ws).take k).filter fun q => p q.2).map Prod.fst
theorem rowsOf_zero (us : List Value) (ws : List (List Int)) (p : List Int → Bool) : rowsOf us ws p 0 = [] := rfl
theorem rowsOf_yes {us : List Value} {ws : List (List Int)} {p : List Int → Bool} {k : Nat} {u : Value} (h : us[k]? = some u) (hk : k < ws.length) (hp : p ws[k] = true) : rowsOf us ws p (k + 1) = rowsOf us ws p k ++ [u] := by
  obtain ⟨hu, rfl⟩ := List.getElem?_eq_some_iff.1 h
  have hl : k < (us.zip ws).length := by rw [List.length_zip]; omega
  have e : (us.zip ws)[k] = (us[k], ws[k]) := by simp
  rw [rowsOf, List.take_succ_eq_append_getElem hl, List.filter_append, List.map_append, e]
  simp [hp, rowsOf]
theorem rowsOf_no {us : List Value} {ws : List (List Int)} {p : List Int → Bool} {k : Nat} (hlen : us.length = ws.length) (hk : k < ws.length) (hp : p ws[k] = false) : rowsOf us ws p (k + 1) = rowsOf us ws p k := by
  have hl : k < (us.zip ws).length := by rw [List.length_zip]; omega
  have e : (us.zip ws)[k] = (us[k], ws[k]) := by simp
  rw [rowsOf, List.take_succ_eq_append_getElem hl, List.filter_append, List.map_append, e]
  simp [hp, rowsOf]
theorem rowsOf_len (us : List Value) (ws : List (List Int)) (p : List Int → Bool) (k : Nat) : (rowsOf us ws p k).length ≤ k := by
  rw [rowsOf, List.length_map]
  refine Nat.le_trans (List.length_filter_le _ _) ?_
  rw [List.length_take]; omega
theorem FootL.from_ {w : World} {B B' : Nat} {F : Nat → Prop} {g cap : Nat} {vs : List Value} {ls : List (List Int)} (h : FootL w B F g cap vs ls) (hb : B' ≤ B) : FootL w B' (fun k => F k ∧ B ≤ k) g cap vs ls := by
  refine ⟨ownsRow_base h.own hb, fun i hi => ?_, h.diff, ⟨h.spine, (ownsRow_parts h.own).1⟩, fun i vi k h1 h2 => ⟨h.in_ i vi k h1 h2, ?_⟩, fun k hk => h.lt k hk.1⟩
  · obtain ⟨vi, h1, h2, h3⟩ := h.rows i hi
    exact ⟨vi, h1, h2.base hb, h3⟩
  · have hi : i < ls.length := by
      have := (List.getElem?_eq_some_iff.1 h1).1
      rw [← h.len]; exact this
    obtain ⟨vi', h3, h4, _⟩ := h.rows i hi
    rw [h1] at h3; cases h3
    obtain ⟨k', hk', hlo, _⟩ := h4.block
    rw [h2] at hk'; cases hk'
    exact hlo
theorem FootL.select {w : World} {B gw capw g cap n : Nat} {F : Nat → Prop} {us : List Value} {ws : List (List Int)} (h : FootL w B F gw capw us ws) (p : List Int → Bool) (hg : ¬ F g)
    (hown : w.ownsRow B 33 1 (.slice (some ⟨g, 0, none⟩) n cap) n (rowsOf us ws p ws.length)) : OwnL w B (.slice (some ⟨g, 0, none⟩) n cap) (ws.filter p) := by
  have hlen := h.len
  have hz : (us.zip ws).length = ws.length := by rw [List.length_zip]; omega
  have ht : (us.zip ws).take ws.length = us.zip ws := List.take_of_length_le (by omega)
  have hsnd : (us.zip ws).map Prod.snd = ws := List.map_snd_zip (by omega)
  obtain ⟨C, hC⟩ : ∃ C, C = (us.zip ws).filter fun q => p q.2 := ⟨_, rfl⟩
  have hr : rowsOf us ws p ws.length = C.map Prod.fst := by rw [rowsOf, ht, hC]
  have hf : ws.filter p = C.map Prod.snd := by
    conv => lhs; rw [← hsnd]
    rw [List.filter_map, hC]; rfl
  have hpw : (us.zip ws).Pairwise fun a b => a.1.ownBlock ≠ b.1.ownBlock := by
    rw [List.pairwise_iff_getElem]
    intro i j hi hj hij
    simp only [List.getElem_zip]
    exact h.diff i j _ _ hij (List.getElem?_eq_getElem _) (List.getElem?_eq_getElem _)
  have hpC : C.Pairwise fun a b => a.1.ownBlock ≠ b.1.ownBlock := by rw [hC]; exact hpw.sublist List.filter_sublist
  have hmem : ∀ q ∈ C, OwnI w B q.1 q.2 ∧ q.1.ownBlock ≠ some g := fun q hq => by
    rw [hC] at hq
    have hq := (List.mem_filter.1 hq).1
    obtain ⟨j, hj, rfl⟩ := List.getElem_of_mem hq
    have hjw : j < ws.length := by omega
    obtain ⟨vi, h1, h2, _⟩ := h.rows j hjw
    have hju : j < us.length := by omega
    rw [List.getElem?_eq_getElem hju] at h1
    simp only [List.getElem_zip]
    rw [Option.some.inj h1]
    refine ⟨h2, fun e => hg (h.in_ j vi g (by rw [List.getElem?_eq_getElem hju]; exact h1) e)⟩
  rw [hr] at hown
  have hnC : n = C.length := by have := hown.1; simpa using this.symm
  rw [hf]
  subst hnC
  refine ⟨g, cap, C.map Prod.fst, by rw [List.length_map], by rw [List.length_map]; exact hown, fun i hi => ?_, fun i j vi vj hij h1 h2 => ?_⟩
  · rw [List.length_map] at hi
    have hq := hmem C[i] (List.getElem_mem hi)
    exact ⟨C[i].1, by rw [List.getElem?_map, List.getElem?_eq_getElem hi]; rfl, by rw [List.getElem_map]; exact hq.1, hq.2⟩
  · rw [List.getElem?_map] at h1 h2
    have hj : j < C.length := by
      rcases Nat.lt_or_ge j C.length with h3 | h3
      · exact h3
      · rw [List.getElem?_eq_none h3] at h2; cases h2
    rw [List.getElem?_eq_getElem (by omega)] at h1
    rw [List.getElem?_eq_getElem hj] at h2
    simp only [Option.map_some, Option.some.injEq] at h1 h2
    rw [← h1, ← h2]
    exact List.pairwise_iff_getElem.1 hpC i j (by omega) hj hij
set_option maxRecDepth 20000 in
set_option maxHeartbeats 3200000 in
theorem loopWords_any (r n v most : Int) (V : Value) (l : List Ed) (w : World) (h : Edges w V l) (hn : l.length ≤ 1048576) :
    Calls Try.prog 33 #[graphV r n V, .int .i64 v, .int .i64 most] w (RetL w (loopW r n v most l)) := by
  have hkeep := h
  obtain ⟨A, cap, rfl, _⟩ := h
  obtain ⟨Wb, hWb⟩ : ∃ W, W = w.alloc (.cells #[.int .i64 r, .int .i64 n, .slice A l.length cap] 29 (0, 0)) := ⟨_, rfl⟩
  obtain ⟨W, hW⟩ : ∃ W, W = Wb.alloc (.cells #[] 33 (0, 0)) := ⟨_, rfl⟩
  have hB0 : Below w.heap.size w Wb := by rw [hWb]; exact (Below.refl _ _).alloc (Nat.le_refl _) _
  have hBW : Below Wb.heap.size Wb W := by rw [hW]; exact (Below.refl _ _).alloc (Nat.le_refl _) _
  have hB := hB0.trans (hBW.mono hB0.size)
  have bx1 : Box Wb w.heap.size (.cells #[.int .i64 r, .int .i64 n, .slice A l.length cap] 29 (0, 0)) := by rw [hWb]; exact Box.new _ _
  have hsz : Wb.heap.size = w.heap.size + 1 := by rw [hWb]; simp
  have hF0 : FootL W Wb.heap.size (fun k => k = Wb.heap.size) Wb.heap.size 0 [] [] := by rw [hW]; exact FootL.start (Nat.le_refl _)
  obtain ⟨y, hy⟩ : ∃ y, y = isFold r n l := ⟨_, rfl⟩
  obtain ⟨z, hz⟩ : ∃ z, z = inV n v := ⟨_, rfl⟩
  obtain ⟨z2, hz2⟩ : ∃ z, z = decide (0 ≤ most ∧ most ≤ 4) := ⟨_, rfl⟩
  obtain ⟨c, hc⟩ : ∃ c, c = canLoop r n v most l := ⟨_, rfl⟩
  have hyz : c = (y && (z && z2)) := by rw [hc, hy, hz, hz2]; rfl
  have hq := isFolded_any r n _ l W (hkeep.keep hB) hn
  have hh := fun W => has_any r n v A l.length cap W
  have hm := fun W => within_any most 0 4 W
  rw [← hy] at hq
  rw [← hz] at hh
  rw [← hz2] at hm
  have HWW := Lib.hid (hW.trans (by rw [hWb]) : W = (w.alloc (.cells #[.int .i64 r, .int .i64 n, .slice A l.length cap] 29 (0, 0))).alloc (.cells #[] 33 (0, 0)))
  have BX := Lib.hid bx1
  have HSZ := Lib.hid hsz
  have HQ := Lib.hid hq
  have HH := Lib.hid hh
  have HM := Lib.hid hm
  have HY := Lib.hid hy
  have HZ := Lib.hid hz
  have HZ2 := Lib.hid hz2
  have HC := Lib.hid hc
  have HYZ := Lib.hid hyz
  clear hWb hW bx1 hsz hq hh hm hy hz hz2 hc hyz
  go_enter Try.func33, Try.ntmps33
  go_wp2_with fail
  rw [← HWW.out]
  refine (HQ.out).mono ?_
  rintro e w1 ⟨rfl, hb1⟩
  have hB1 := hBW.trans (hb1.mono hBW.size)
  have hF1 := hF0.keep hb1
  obtain ⟨q1, q2, q3⟩ := (BX.out.keep hB1).cells
  cases y with
  | false =>
    have hst : Kept (loopW r n v most l = []) := ⟨loopW_no (by rw [← HC.out, HYZ.out]; rfl)⟩
    go_wp2
    go_ret
    rw [hst.out, ← HSZ.out]
    exact ⟨_, rfl, hF1.ownL.base hB0.size, hB0.trans (hB1.mono hB0.size)⟩
  | true =>
    go_wp2_with fail
    refine (HH.out _).mono ?_
    rintro e w2 ⟨rfl, hb2⟩
    have hB2 := hB1.trans (hb2.mono hB1.size)
    have hF2 := hF1.keep hb2
    clear q1 q2 q3
    obtain ⟨q1, q2, q3⟩ := (BX.out.keep hB2).cells
    cases z with
    | false =>
      have hst : Kept (loopW r n v most l = []) := ⟨loopW_no (by rw [← HC.out, HYZ.out]; rfl)⟩
      go_wp2
      go_ret
      rw [hst.out, ← HSZ.out]
      exact ⟨_, rfl, hF2.ownL.base hB0.size, hB0.trans (hB2.mono hB0.size)⟩
    | true =>
      go_wp2_with fail
      refine (HM.out _).mono ?_
      rintro e w3 ⟨rfl, rfl⟩
      cases z2 with
      | false =>
        have hst : Kept (loopW r n v most l = []) := ⟨loopW_no (by rw [← HC.out, HYZ.out]; rfl)⟩
        go_wp2
        go_ret
        rw [hst.out, ← HSZ.out]
        exact ⟨_, rfl, hF2.ownL.base hB0.size, hB0.trans (hB2.mono hB0.size)⟩
      | true =>
        have hct : c = true := HYZ.out
        subst hct
        have hG := isFold_g HY.out.symm
        obtain ⟨g1, g2, g3, g4⟩ := isG_all hG
        have hmost := of_decide_eq_true HZ2.out.symm
        obtain ⟨R, rfl⟩ := Int.eq_ofNat_of_zero_le (show 0 ≤ r by omega)
        obtain ⟨M, rfl⟩ := Int.eq_ofNat_of_zero_le hmost.1
        have hup := fun W => wordsUpTo_any R M (by omega) (by omega) (by omega) W
        obtain ⟨ws, hws⟩ : ∃ z, z = belowW R (M + 1) := ⟨_, rfl⟩
        have hwl : ws.length ≤ 38880 := by rw [hws]; exact belowW_small (by omega) (by omega)
        have hwlen : ∀ k (hk : k < ws.length), ws[k].length ≤ 4 := fun k hk => by
          subst hws; have := belowW_mem (List.getElem_mem hk); omega
        have hres : loopW (R : Int) n v (M : Int) l = ws.filter (isLoop l v) := by rw [loopW_yes HC.out.symm, hws]; rfl
        have hrd := fun (u2 : Value) (us : List Int) W' (hb : Below w.heap.size w W') (hu : Ints W' u2 us) (hul : us.length ≤ 1048576) => read_any (R : Int) n v _ u2 l us W' (hkeep.keep hb) hu hn hul (isG_lets hG)
        rw [← hws] at hup
        have HUP := Lib.hid hup
        have HRD := Lib.hid hrd
        have HRES := Lib.hid hres
        have HWL := Lib.hid hwlen
        clear g1 g2 g3 g4 hmost hG hup hws hwlen hres hrd
        go_wp2_with fail
        refine (HUP.out _).mono ?_
        rintro e w4 ⟨gw, capw, us, Fw0, rfl, hFw0, hb4⟩
        have hB4 := hB2.trans (hb4.mono hB2.size)
        have hF4 := hF2.keep hb4
        have hFw := hFw0.from_ hB2.size
        have hnF : ¬ (Fw0 Wb.heap.size ∧ w2.heap.size ≤ Wb.heap.size) := fun h => by have := hF2.lt _ hF2.spine; omega
        obtain ⟨Fw, hFwe⟩ : ∃ F, F = (fun k => Fw0 k ∧ w2.heap.size ≤ k) := ⟨_, rfl⟩
        rw [← hFwe] at hFw
        have hnF : ¬ Fw Wb.heap.size := by rw [hFwe]; exact hnF
        have hown4 := hF4.own
        clear hFwe hFw0 hF4 hF2 hF1 hF0 hb4 q1 q2 q3 hB2 hB1
        have hB5 := hB4
        go_wp2
        go_loopw [7, 9, 10, 11, 33] (fun out _ _ _ idx wr => ∃ (k g cap2 : Nat) (vs : List Value), k ≤ ws.length ∧ idx = .int .i64 k ∧ out = .slice (some ⟨g, 0, none⟩) vs.length cap2 ∧ Kept (vs = rowsOf us ws (isLoop l v) k) ∧ vs.length ≤ k ∧ wr.ownsRow Wb.heap.size 33 1 (.slice (some ⟨g, 0, none⟩) vs.length cap2) vs.length vs ∧ FootL wr Wb.heap.size Fw gw capw us ws ∧ Kept (¬ Fw g) ∧ Below Wb.heap.size Wb wr)
          (fun _ _ _ _ idx _ => ws.length - (intOf idx).toNat)
        case atStart => exact ⟨0, Wb.heap.size, 0, [], by omega, rfl, by rw [HSZ.out]; rfl, ⟨rfl⟩, by simp, hown4, hFw, ⟨hnF⟩, hB5⟩
        case round =>
          clear hown4 hFw hnF hB5 hB4
          obtain ⟨k, g, cap2, vs, hk, rfl, rfl, hvs, hvl, hown, hFw, hnF, hbel⟩ := hrel
          rename World => W5
          by_cases hlt : k < ws.length
          · have tk : (k : Int) < (ws.length : Int) := by omega
            obtain ⟨gi, ci, hui, c1, hrow, hFi, hgi⟩ := hFw.at_ hlt
            obtain ⟨u, hu⟩ : ∃ u, u = ws[k] := ⟨_, rfl⟩
            have hul : u.length ≤ 4 := by rw [hu]; exact HWL.out k hlt
            have hy9 := rowsOf_yes (p := isLoop l v) hui hlt
            have hn9 := rowsOf_no (p := isLoop l v) hFw.len hlt
            rw [← hu] at hui c1 hrow hy9 hn9
            obtain ⟨q1, q2, q3⟩ := (BX.out.keep hbel).cells
            have hrd := HRD.out _ u W5 (hB0.trans (hbel.mono hB0.size)) hrow.ints (by omega)
            have HY9 := Lib.hid hy9
            have HN9 := Lib.hid hn9
            clear hu hy9 hn9 hrow
            by_cases hc : readC l v u = u.length
            · by_cases hv : readV l v u = v
              · have hst : Kept (vs ++ [.slice (some ⟨gi, 0, none⟩) u.length ci] = rowsOf us ws (isLoop l v) (k + 1)) := ⟨by rw [HY9.out (loop_yes hc hv), hvs.out]⟩
                rw [hc, hv] at hrd
                have HR := Lib.hid hrd
                clear hrd hc hv
                go_wp2_with fail
                refine (HR.out).mono ?_
                rintro e w6 ⟨rfl, hb6⟩
                have hown6 := ownsRow_keep hown hb6
                go_wp2_with (at_builtin; refine wpl_push elemII rfl (.tmp 53) (.tmp 55) rfl rfl (hown6.alloc _) rfl (heap_alloc_new _ _) rfl (by omega) ?_; intro g7 c7 w7 hown7 hgrow7 hat7)
                have hF7 := (hFw.keep (hb6.alloc hb6.size _)).far hgrow7 hnF.out
                have hnF7 : Kept (¬ Fw g7) := ⟨by
                  rcases hat7 with e | e
                  · rw [e]; exact hnF.out
                  · intro h
                    have h1 := hFw.lt _ h
                    have h2 := hb6.size
                    rw [e] at h1
                    simp only [World.alloc, Array.size_push] at h1; omega⟩
                have hbel7 := below_push (hbel.trans (hb6.mono hbel.size)) hgrow7 (ownsRow_parts hown).1 (Nat.le_refl _)
                have hl7 : vs.length + 1 = (vs ++ [Value.slice (some ⟨gi, 0, none⟩) u.length ci]).length := by simp
                have hown8 : w7.ownsRow Wb.heap.size 33 1 (.slice (some ⟨g7, 0, none⟩) (vs ++ [Value.slice (some ⟨gi, 0, none⟩) u.length ci]).length c7) (vs ++ [Value.slice (some ⟨gi, 0, none⟩) u.length ci]).length (vs ++ [Value.slice (some ⟨gi, 0, none⟩) u.length ci]) := by rw [← hl7]; exact hown7
                have HL7 := Lib.hid hl7
                clear hown7 hgrow7 hat7 hl7 q1 q2 q3 c1
                go_roundw
                case rel => exact ⟨k + 1, g7, c7, _, by omega, by go_num, by rw [← HL7.out], hst, by rw [← HL7.out]; omega, hown8, hF7, hnF7, hbel7⟩
                case measure => simp [intOf]; omega
              · have hst : Kept (vs = rowsOf us ws (isLoop l v) (k + 1)) := ⟨by rw [HN9.out (loop_no (.inr hv)), hvs.out]⟩
                rw [hc] at hrd
                obtain ⟨v', hv'⟩ : ∃ z, z = readV l v u := ⟨_, rfl⟩
                rw [← hv'] at hrd hv
                have tv : (v' == v) = false := beq_eq_false_iff_ne.2 hv
                have HR := Lib.hid hrd
                clear hrd hc hv'
                go_wp2_with fail
                refine (HR.out).mono ?_
                rintro e w6 ⟨rfl, hb6⟩
                go_wp2
                go_roundw
                case rel => exact ⟨k + 1, g, cap2, vs, by omega, by go_num, rfl, hst, by omega, ownsRow_keep hown hb6, hFw.keep hb6, hnF, hbel.trans (hb6.mono hbel.size)⟩
                case measure => simp [intOf]; omega
            · have hst : Kept (vs = rowsOf us ws (isLoop l v) (k + 1)) := ⟨by rw [HN9.out (loop_no (.inl hc)), hvs.out]⟩
              obtain ⟨v', hv'⟩ : ∃ z, z = readV l v u := ⟨_, rfl⟩
              obtain ⟨c', hc'⟩ : ∃ z, z = readC l v u := ⟨_, rfl⟩
              rw [← hv', ← hc'] at hrd
              rw [← hc'] at hc
              have tc : ((c' : Int) == (u.length : Int)) = false := beq_eq_false_iff_ne.2 (by omega)
              have HR := Lib.hid hrd
              clear hrd hv' hc'
              go_wp2_with fail
              refine (HR.out).mono ?_
              rintro e w6 ⟨rfl, hb6⟩
              go_wp2
              go_roundw
              case rel => exact ⟨k + 1, g, cap2, vs, by omega, by go_num, rfl, hst, by omega, ownsRow_keep hown hb6, hFw.keep hb6, hnF, hbel.trans (hb6.mono hbel.size)⟩
              case measure => simp [intOf]; omega
          · obtain rfl : k = ws.length := by omega
            have hsel := hFw.select (isLoop l v) hnF.out (by rw [← hvs.out]; exact hown)
            clear hvs
            go_wp2
            go_ret
            rw [HRES.out]
            exact ⟨_, rfl, hsel.base hB0.size, hB0.trans (hbel.mono hB0.size)⟩
end Go.Proofs.Ytpebiacdkfpnpaa
