/- Contract of the references' l4Put. Conditions: at most 2^20 edges. -/
import Derived.Test.YtpebiacdkfpnpaaGreatAddI
import Derived.Deep.RegionWith
namespace Go.Proofs.YtpebiacdkfpnpaaGreat
open Go.RowKit Go.Sort

/-- The state of l4Put ahead of the place k. -/
def PutAt (l : List Ed) (e : Ed) (k : Nat) (o : List Ed) (pl : Bool) : Prop := match pl with
  | true => o ++ l.drop k = putE l e
  | false => o = l.take k ∧ putE l e = l.take k ++ putE (l.drop k) e
theorem putAt_start (l : List Ed) (e : Ed) : PutAt l e 0 [] false := ⟨by simp, by simp⟩
theorem putAt_eq {l : List Ed} {e : Ed} {k : Nat} {o : List Ed} {pl : Bool} (h : PutAt l e k o pl) (hk : k < l.length) (hc : cmpEd e l[k] = 0) : PutAt l e (k + 1) (o ++ [l[k]]) true := by
  cases pl with
  | true =>
    show o ++ [l[k]] ++ l.drop (k + 1) = putE l e
    have h1 : o ++ l.drop k = putE l e := h
    rw [List.append_assoc, List.singleton_append, ← List.drop_eq_getElem_cons hk]; exact h1
  | false =>
    obtain ⟨h1, h2⟩ := h
    show o ++ [l[k]] ++ l.drop (k + 1) = putE l e
    rw [h2, List.drop_eq_getElem_cons hk, putE_eq hc, h1]; simp
theorem putAt_put {l : List Ed} {e : Ed} {k : Nat} {o : List Ed} (h : PutAt l e k o false) (hk : k < l.length) (hc : cmpEd e l[k] < 0) : PutAt l e (k + 1) (o ++ [e] ++ [l[k]]) true := by
  obtain ⟨h1, h2⟩ := h
  show o ++ [e] ++ [l[k]] ++ l.drop (k + 1) = putE l e
  rw [h2, List.drop_eq_getElem_cons hk, putE_lt hc, h1]; simp
theorem putAt_done {l : List Ed} {e : Ed} {k : Nat} {o : List Ed} (h : PutAt l e k o true) (hk : k < l.length) : PutAt l e (k + 1) (o ++ [l[k]]) true := by
  show o ++ [l[k]] ++ l.drop (k + 1) = putE l e
  have h1 : o ++ l.drop k = putE l e := h
  rw [List.append_assoc, List.singleton_append, ← List.drop_eq_getElem_cons hk]; exact h1
theorem putAt_gt {l : List Ed} {e : Ed} {k : Nat} {o : List Ed} {pl : Bool} (h : PutAt l e k o pl) (hk : k < l.length) (hc : 0 < cmpEd e l[k]) : PutAt l e (k + 1) (o ++ [l[k]]) pl := by
  cases pl with
  | true => exact putAt_done h hk
  | false =>
    obtain ⟨h1, h2⟩ := h
    exact ⟨by rw [h1, take_get hk], by rw [h2, List.drop_eq_getElem_cons hk, putE_gt hc, take_get hk, List.append_assoc]; rfl⟩
set_option maxHeartbeats 6400000 in
theorem l4Put_any (v : Value) (l : List Ed) (e : Ed) (he : I64E e) (w : World) (h : Edges w v l) (hn : l.length ≤ 1048576) :
    Calls Tryz.prog 44 #[v, edV e] w fun r w' => ∃ v', r = .returned v' ∧ OwnE w' w.heap.size v' (putE l e) ∧ Below w.heap.size w w' := by
  have hkeep := h
  obtain ⟨A, cap, rfl, hc, hr, hcell⟩ := h
  obtain ⟨a1, a2, a3⟩ := e
  have HA := Lib.hid he
  have HR := Lib.hid hr
  have hB1 : Below w.heap.size w (w.alloc (.cells #[.int .i64 a1, .int .i64 a2, .int .i64 a3] 28 (0, 0))) := (Below.refl _ _).alloc (Nat.le_refl _) _
  have hbx0 := (Box.new w (.cells #[.int .i64 a1, .int .i64 a2, .int .i64 a3] 28 (0, 0))).keep ((Below.refl _ _).alloc (Nat.le_refl _) (.cells #[] 28 (0, 0)))
  have hown0 : ((w.alloc (.cells #[.int .i64 a1, .int .i64 a2, .int .i64 a3] 28 (0, 0))).alloc (.cells #[] 28 (0, 0))).ownsRow w.heap.size 28 3 (.slice (some ⟨w.heap.size + 1, 0, none⟩) 0 0) 0 (edgesV []) := by
    have := World.ownsRow_made (base := w.heap.size) (e := 28) (size := 3) (w.alloc (.cells #[.int .i64 a1, .int .i64 a2, .int .i64 a3] 28 (0, 0))) #[] 0 (by simp) (by decide) rfl
    rw [edgesV_nil]; simpa using this
  have H := Lib.hid hcell
  clear hcell hr he
  go_enter Tryz.func44, Tryz.ntmps44
  go_wp2
  go_loopw [5, 6, 7, 8] (fun out pl_ i _ wr => ∃ (k g cap1 : Nat) (o : List Ed) (pl : Bool), k ≤ l.length ∧ i = .int .i64 k ∧ pl_ = .bool pl ∧ out = .slice (some ⟨g, 0, none⟩) o.length cap1 ∧ o.length ≤ 2 * k ∧ Kept (PutAt l (a1, a2, a3) k o pl) ∧ wr.ownsRow w.heap.size 28 3 (.slice (some ⟨g, 0, none⟩) o.length cap1) o.length (edgesV o) ∧ Box wr w.heap.size (.cells #[.int .i64 a1, .int .i64 a2, .int .i64 a3] 28 (0, 0)) ∧ w.heap.size < g ∧ Below w.heap.size w wr)
    (fun _ _ i _ _ => l.length - (intOf i).toNat)
  case atStart => exact ⟨0, _, 0, [], false, by omega, rfl, rfl, rfl, by simp, ⟨putAt_start _ _⟩, hown0, hbx0, by omega, hB1.alloc hB1.size _⟩
  case round =>
    clear hown0 hbx0 hB1
    obtain ⟨k, g, cap1, o, pl, hk, rfl, rfl, rfl, hol, hst, hown, hbx, hgg0, hbel⟩ := hrel
    rename World => W1
    have hgg : w.heap.size ≤ g := by omega
    by_cases hlt : k < l.length
    · obtain ⟨b, off, rfl, hb, hx⟩ := H.out (by omega)
      obtain ⟨e1, e2, e3⟩ := hx k hlt
      obtain ⟨q1, q2, q3⟩ := hbx.cells
      have hkI : (k : Int) < (l.length : Int) := by omega
      have heq := fun (hc9 : cmpEd (a1, a2, a3) l[k] = 0) => putAt_eq hst.out hlt hc9
      have hgt := fun (hc9 : 0 < cmpEd (a1, a2, a3) l[k]) => putAt_gt hst.out hlt hc9
      have hlow := fun (hp : pl = false) (hc9 : cmpEd (a1, a2, a3) l[k] < 0) => putAt_put (hp ▸ hst.out) hlt hc9
      have hdone := fun (hp : pl = true) => putAt_done (hp ▸ hst.out) hlt
      obtain ⟨⟨x1, x2, x3⟩, hxx⟩ : ∃ x, x = l[k] := ⟨_, rfl⟩
      rw [← hxx] at e1 e2 e3 heq hgt hlow hdone
      have c1 := (hbel.cell (p := ⟨b, off + k * 3, none⟩) hb).trans e1
      have c2 := (hbel.cell (p := ⟨b, off + k * 3 + 1, none⟩) hb).trans e2
      have c3 := (hbel.cell (p := ⟨b, off + k * 3 + 2, none⟩) hb).trans e3
      have hcm := fun W => compareEdgesS_any a1 a2 a3 x1 x2 x3 W
      obtain ⟨cv, hcv⟩ : ∃ z, z = cmpE a1 a2 a3 x1 x2 x3 := ⟨_, rfl⟩
      have HEQ : Hid (cv = 0 → PutAt l (a1, a2, a3) (k + 1) (o ++ [(x1, x2, x3)]) true) := Lib.hid (by rw [hcv]; exact heq)
      have HGT : Hid (0 < cv → PutAt l (a1, a2, a3) (k + 1) (o ++ [(x1, x2, x3)]) pl) := Lib.hid (by rw [hcv]; exact hgt)
      have HLOW : Hid (pl = false → cv < 0 → PutAt l (a1, a2, a3) (k + 1) (o ++ [(a1, a2, a3)] ++ [(x1, x2, x3)]) true) := Lib.hid (by rw [hcv]; exact hlow)
      have HDONE := Lib.hid hdone
      rw [← hcv] at hcm
      have HCM := Lib.hid hcm
      have E1 := Lib.hid e1
      have E2 := Lib.hid e2
      have E3 := Lib.hid e3
      have hod : o.length ≤ 2097152 := by omega
      clear heq hgt hlow hdone hcm hcv hxx hx e1 e2 e3 hst
      have hd0 := (Below.refl W1.heap.size W1).drew
      go_wp2
      go_region_with (go_at_call 33; refine (HCM.out _).mono ?_; rintro e' w2 ⟨rfl, hb2⟩)
      all_goals
        have hbA : Below W1.heap.size W1 w2 := hd0.trans (hb2.mono hd0.size)
        have hcx := (hbA.cell (p := ⟨b, off + k * 3, none⟩) (World.block_lt_of_cell? _ _ c1)).trans c1
        have hcy := (hbA.cell (p := ⟨b, off + k * 3 + 1, none⟩) (World.block_lt_of_cell? _ _ c2)).trans c2
        have hcz := (hbA.cell (p := ⟨b, off + k * 3 + 2, none⟩) (World.block_lt_of_cell? _ _ c3)).trans c3
        replace hown := ownsRow_keep hown hbA
        replace hbx := hbx.keep hbA
        have hbel2 := hbel.trans (hbA.mono hbel.size)
        clear q1 q2 q3 hd0 hb2 hbA hbel c1 c2 c3
        obtain ⟨q1, q2, q3⟩ := hbx.cells
        have hbw : b < w2.heap.size := World.block_lt_of_cell? _ _ hcx
        by_cases hz : cv = 0
        · have hst6 : Kept _ := ⟨HEQ.out hz⟩
          subst hz
          go_wp2_with (at_builtin; refine wpl_app elemE rfl (.tmp 34) (.tmp 39) rfl rfl (hown.alloc _) rfl (m := 1) (news := edC (x1, x2, x3)) rfl (World.news_of_block (cs := #[.int .i64 x1, .int .i64 x2, .int .i64 x3]) (Box.new _ _)) (edC_one _) (by omega) ?_; intro g6 c6 w6 hown6 hgrow6 hat6)
          have hb6 := below_push hbel2 hgrow6 hgg (Nat.le_refl _)
          have hl6 : o.length + 1 = (o ++ [(x1, x2, x3)]).length := by simp
          have hown7 : w6.ownsRow w.heap.size 28 3 (.slice (some ⟨g6, 0, none⟩) (o ++ [(x1, x2, x3)]).length c6) (o ++ [(x1, x2, x3)]).length (edgesV (o ++ [(x1, x2, x3)])) := by rw [← hl6, edgesV_append, edgesV_cons, edgesV_nil, List.append_nil]; exact hown6
          have bx6 := (hbx.keep ((Below.refl _ _).alloc (Nat.le_refl _) (.cells #[.int .i64 x1, .int .i64 x2, .int .i64 x3] 28 (0, 0)))).grown (v := .slice (some ⟨g, 0, none⟩) o.length cap1) hgrow6 (fun j hj => by simp only [Value.ownBlock, Option.some.injEq] at hj; omega)
          have hgg6 : w.heap.size < g6 := by
            rcases hat6 with e9 | e9
            · omega
            · have := hbel2.size
              simp only [World.alloc, Array.size_push] at e9; omega
          have HL6 := Lib.hid hl6
          clear hown6 hgrow6 hat6 hl6 q1 q2 q3
          go_roundw
          case rel => exact ⟨k + 1, g6, c6, o ++ [(x1, x2, x3)], true, by omega, by go_num, rfl, by rw [← HL6.out], by rw [← HL6.out]; omega, hst6, hown7, bx6, hgg6, hb6⟩
          case measure => simp [intOf]; omega
        · have tz : (cv == 0) = false := beq_eq_false_iff_ne.2 hz
          by_cases hneg : cv < 0
          · cases pl with
            | true =>
              have hst6 : Kept _ := ⟨HDONE.out rfl⟩
              go_wp2_with (at_builtin; refine wpl_app elemE rfl (.tmp 34) (.tmp 39) rfl rfl (hown.alloc _) rfl (m := 1) (news := edC (x1, x2, x3)) rfl (World.news_of_block (cs := #[.int .i64 x1, .int .i64 x2, .int .i64 x3]) (Box.new _ _)) (edC_one _) (by omega) ?_; intro g6 c6 w6 hown6 hgrow6 hat6)
              have hb6 := below_push hbel2 hgrow6 hgg (Nat.le_refl _)
              have hl6 : o.length + 1 = (o ++ [(x1, x2, x3)]).length := by simp
              have hown7 : w6.ownsRow w.heap.size 28 3 (.slice (some ⟨g6, 0, none⟩) (o ++ [(x1, x2, x3)]).length c6) (o ++ [(x1, x2, x3)]).length (edgesV (o ++ [(x1, x2, x3)])) := by rw [← hl6, edgesV_append, edgesV_cons, edgesV_nil, List.append_nil]; exact hown6
              have bx6 := (hbx.keep ((Below.refl _ _).alloc (Nat.le_refl _) (.cells #[.int .i64 x1, .int .i64 x2, .int .i64 x3] 28 (0, 0)))).grown (v := .slice (some ⟨g, 0, none⟩) o.length cap1) hgrow6 (fun j hj => by simp only [Value.ownBlock, Option.some.injEq] at hj; omega)
              have hgg6 : w.heap.size < g6 := by
                rcases hat6 with e9 | e9
                · omega
                · have := hbel2.size
                  simp only [World.alloc, Array.size_push] at e9; omega
              have HL6 := Lib.hid hl6
              clear hown6 hgrow6 hat6 hl6 q1 q2 q3
              go_roundw
              case rel => exact ⟨k + 1, g6, c6, o ++ [(x1, x2, x3)], true, by omega, by go_num, rfl, by rw [← HL6.out], by rw [← HL6.out]; omega, hst6, hown7, bx6, hgg6, hb6⟩
              case measure => simp [intOf]; omega
            | false =>
              have hst6 : Kept _ := ⟨HLOW.out rfl hneg⟩
              have hrow9 := hown
              go_wp2_with (first
                | (at_builtin; have hb99 := hb5; refine wpl_app elemE rfl (.tmp 34) (.tmp 39) rfl rfl (hown5.alloc _) rfl (m := 1) (news := edC (x1, x2, x3)) rfl (World.news_of_block (cs := #[.int .i64 x1, .int .i64 x2, .int .i64 x3]) (Box.new _ _)) (edC_one _) (by omega) ?_; intro g6 c6 w6 hown6 hgrow6 hat6)
                | (at_builtin; refine wpl_app elemE rfl (.tmp 30) (.tmp 32) rfl rfl (hown.alloc _) rfl (m := 1) (news := edC (a1, a2, a3)) rfl (World.news_of_block (cs := #[.int .i64 a1, .int .i64 a2, .int .i64 a3]) (Box.new _ _)) (edC_one _) (by omega) ?_; intro g5 c5 w5 hown5 hgrow5 hat5; have hb5 := below_push hbel2 hgrow5 hgg (Nat.le_refl _); have hal5 := (Below.refl w2.heap.size w2).alloc (Nat.le_refl _) (.cells #[.int .i64 a1, .int .i64 a2, .int .i64 a3] 28 (0, 0)); have bx5 := (hbx.keep hal5).grown (v := .slice (some ⟨g, 0, none⟩) o.length cap1) hgrow5 (fun j hj => by simp only [Value.ownBlock, Option.some.injEq] at hj; omega); have d1 := (hb5.cell (p := ⟨b, off + k * 3, none⟩) hb).trans E1.out; have d2 := (hb5.cell (p := ⟨b, off + k * 3 + 1, none⟩) hb).trans E2.out; have d3 := (hb5.cell (p := ⟨b, off + k * 3 + 2, none⟩) hb).trans E3.out))
              have hgg5 : w.heap.size < g5 := by
                rcases hat5 with e9 | e9
                · omega
                · have := hbel2.size
                  simp only [World.alloc, Array.size_push] at e9; omega
              have hb6 := below_push hb5 hgrow6 (by omega) (Nat.le_refl _)
              have hl6 : o.length + 1 + 1 = (o ++ [(a1, a2, a3)] ++ [(x1, x2, x3)]).length := by simp
              have hown7 : w6.ownsRow w.heap.size 28 3 (.slice (some ⟨g6, 0, none⟩) (o ++ [(a1, a2, a3)] ++ [(x1, x2, x3)]).length c6) (o ++ [(a1, a2, a3)] ++ [(x1, x2, x3)]).length (edgesV (o ++ [(a1, a2, a3)] ++ [(x1, x2, x3)])) := by rw [← hl6, edgesV_append, edgesV_append, edgesV_cons, edgesV_nil, List.append_nil, edgesV_cons, edgesV_nil, List.append_nil]; exact hown6
              have bx6 := (bx5.keep ((Below.refl _ _).alloc (Nat.le_refl _) (.cells #[.int .i64 x1, .int .i64 x2, .int .i64 x3] 28 (0, 0)))).grown (v := .slice (some ⟨g5, 0, none⟩) (o.length + 1) c5) hgrow6 (fun j hj => by simp only [Value.ownBlock, Option.some.injEq] at hj; omega)
              have hgg6 : w.heap.size < g6 := by
                rcases hat6 with e9 | e9
                · omega
                · have := hb5.size
                  simp only [World.alloc, Array.size_push] at e9; omega
              have HL6 := Lib.hid hl6
              clear hown6 hgrow6 hat6 hown5 hgrow5 hat5 hl6 q1 q2 q3 bx5 d1 d2 d3 hb5 hown hbx hrow9
              go_roundw
              case rel => exact ⟨k + 1, g6, c6, o ++ [(a1, a2, a3)] ++ [(x1, x2, x3)], true, by omega, by go_num, rfl, by rw [← HL6.out], by rw [← HL6.out]; omega, hst6, hown7, bx6, hgg6, hb6⟩
              case measure => simp [intOf]; omega
          · have hst6 : Kept _ := ⟨HGT.out (by omega)⟩
            go_wp2_with (at_builtin; refine wpl_app elemE rfl (.tmp 34) (.tmp 39) rfl rfl (hown.alloc _) rfl (m := 1) (news := edC (x1, x2, x3)) rfl (World.news_of_block (cs := #[.int .i64 x1, .int .i64 x2, .int .i64 x3]) (Box.new _ _)) (edC_one _) (by omega) ?_; intro g6 c6 w6 hown6 hgrow6 hat6)
            have hb6 := below_push hbel2 hgrow6 hgg (Nat.le_refl _)
            have hl6 : o.length + 1 = (o ++ [(x1, x2, x3)]).length := by simp
            have hown7 : w6.ownsRow w.heap.size 28 3 (.slice (some ⟨g6, 0, none⟩) (o ++ [(x1, x2, x3)]).length c6) (o ++ [(x1, x2, x3)]).length (edgesV (o ++ [(x1, x2, x3)])) := by rw [← hl6, edgesV_append, edgesV_cons, edgesV_nil, List.append_nil]; exact hown6
            have bx6 := (hbx.keep ((Below.refl _ _).alloc (Nat.le_refl _) (.cells #[.int .i64 x1, .int .i64 x2, .int .i64 x3] 28 (0, 0)))).grown (v := .slice (some ⟨g, 0, none⟩) o.length cap1) hgrow6 (fun j hj => by simp only [Value.ownBlock, Option.some.injEq] at hj; omega)
            have hgg6 : w.heap.size < g6 := by
              rcases hat6 with e9 | e9
              · omega
              · have := hbel2.size
                simp only [World.alloc, Array.size_push] at e9; omega
            have HL6 := Lib.hid hl6
            clear hown6 hgrow6 hat6 hl6 q1 q2 q3
            go_roundw
            case rel => exact ⟨k + 1, g6, c6, o ++ [(x1, x2, x3)], pl, by omega, by go_num, rfl, by rw [← HL6.out], by rw [← HL6.out]; omega, hst6, hown7, bx6, hgg6, hb6⟩
            case measure => simp [intOf]; omega
    · obtain rfl : k = l.length := by omega
      have hall : ∀ u ∈ putE l (a1, a2, a3), I64E u := fun u hu => by
        rcases putE_mem hu with h | h
        · rw [h]; exact HA.out
        · exact HR.out u h
      have HALL := Lib.hid hall
      obtain ⟨q1, q2, q3⟩ := hbx.cells
      have hod : o.length ≤ 2097152 := by omega
      clear hall
      cases pl with
      | true =>
        have hfin : o = putE l (a1, a2, a3) := by
          have h1 : o ++ l.drop l.length = putE l (a1, a2, a3) := hst.out
          rw [List.drop_length, List.append_nil] at h1; exact h1
        have HFIN := Lib.hid hfin
        clear hst hfin
        go_wp2
        go_ret
        rw [← HFIN.out]
        exact ⟨_, rfl, ⟨g, cap1, rfl, hown, by rw [HFIN.out]; exact HALL.out⟩, hbel⟩
      | false =>
        have hfin : o ++ [(a1, a2, a3)] = putE l (a1, a2, a3) := by
          obtain ⟨h1, h2⟩ : o = l.take l.length ∧ putE l (a1, a2, a3) = l.take l.length ++ putE (l.drop l.length) (a1, a2, a3) := hst.out
          rw [h2, List.drop_length, h1]; rfl
        have HFIN := Lib.hid hfin
        clear hst hfin
        go_wp2_with (at_builtin; refine wpl_app elemE rfl (.tmp 43) (.tmp 45) rfl rfl (hown.alloc _) rfl (m := 1) (news := edC (a1, a2, a3)) rfl (World.news_of_block (cs := #[.int .i64 a1, .int .i64 a2, .int .i64 a3]) (Box.new _ _)) (edC_one _) (by omega) ?_; intro g6 c6 w6 hown6 hgrow6 hat6)
        have hb6 := below_push hbel hgrow6 hgg (Nat.le_refl _)
        go_ret
        rw [← HFIN.out]
        exact ⟨.slice (some ⟨g6, 0, none⟩) (o.length + 1) c6, rfl, ⟨g6, c6, by simp, by rw [List.length_append, List.length_singleton, edgesV_append, edgesV_cons, edgesV_nil, List.append_nil]; exact hown6, by rw [HFIN.out]; exact HALL.out⟩, hb6⟩
end Go.Proofs.YtpebiacdkfpnpaaGreat
