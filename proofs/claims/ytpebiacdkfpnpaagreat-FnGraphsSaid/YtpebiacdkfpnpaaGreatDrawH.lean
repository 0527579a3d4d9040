/- Contract of l4Any. Conditions: codes of at most 2^20 bytes. -/
import Derived.Test.YtpebiacdkfpnpaaGreatDrawG
namespace Go.Proofs.YtpebiacdkfpnpaaGreat
open Go.RowKit

theorem DGSt.row {w wr : World} {k kg : Nat} {A : Option Addr} {len : Nat} {r n : Int} {Ad : Option Addr} {cap : Nat} {l : List Ed} (h : DGSt w wr k kg A len r n Ad cap l) : wr.ownsRow w.heap.size 28 3 (.slice Ad l.length cap) l.length (edgesV l) := by
  rcases h.own with ⟨hv, rfl⟩ | ⟨g, cap', hv, ho, _⟩
  · rw [hv]; exact World.ownsRow_nil _ _ _ _
  · exact ownsRow_base ho (by omega)
theorem DGSt.push {w W1 w1 : World} {k kg g' cap' : Nat} {A : Option Addr} {len : Nat} {r n : Int} {Ad : Option Addr} {cap : Nat} {l : List Ed} {e : Ed} (h : DGSt w W1 k kg A len r n Ad cap l) (he : I64E e)
    (hown : w1.ownsRow w.heap.size 28 3 (.slice (some ⟨g', 0, none⟩) (l.length + 1) cap') (l.length + 1) (edgesV l ++ edC e))
    (hg : W1.grownBy w1 (Value.slice Ad l.length cap).ownBlock) (hat : (Value.slice Ad l.length cap).ownBlock = some g' ∨ g' = W1.heap.size) :
    DGSt w (w1.setCell ⟨kg, 2, none⟩ (.slice (some ⟨g', 0, none⟩) (l.length + 1) cap')) k kg A len r n (some ⟨g', 0, none⟩) cap' (l ++ [e]) := by
  have hkb := h.kb
  have hlt := h.lt
  have hbl := h.box.lt
  have hgs := h.grown.size
  have hlo := h.own.lo
  have hrng := h.own.edges
  have hg' : w.heap.size < g' ∧ g' ≠ kg := by
    rcases hat with h2 | h2
    · exact ⟨by have := hlo _ h2; omega, h.far _ h2⟩
    · omega
  have hlen : (l ++ [e]).length = l.length + 1 := by simp
  have b1 := h.box.grown (v := .slice Ad l.length cap) hg fun j hj => (h.far j hj).symm
  have b2 := b1.put (i := 2) (.slice (some ⟨g', 0, none⟩) (l.length + 1) cap')
  have hsz := hg.size
  have hcg : Cur w1 k A len ∧ w.grownBy w1 (some k) := by
    cases hb : (Value.slice Ad l.length cap).ownBlock with
    | none =>
      rw [hb] at hg
      have hg9 : W1.grownBy w1 (some W1.heap.size) := ⟨hg.os, hg.tape, hg.output, hg.size, fun j hj _ => hg.block j hj (by simp)⟩
      exact ⟨h.cur.push hg9 hkb h.code hgs, grown_push h.grown hg9 hgs⟩
    | some g =>
      rw [hb] at hg
      have := hlo g hb
      exact ⟨h.cur.push hg hkb h.code (by omega), grown_push h.grown hg (by omega)⟩
  have hgS := grown_set w1 kg 2 (.slice (some ⟨g', 0, none⟩) (l.length + 1) cap')
  refine ⟨hkb, hlt, h.code, (h.res.grown (v := .slice Ad l.length cap) hg fun j hj => by have := hlo j hj; omega).off _ _ (by simp only [ne_eq]; omega), by rw [hlen]; exact b2, ?_, ?_, hcg.1.push hgS hkb h.code (by omega), grown_push hcg.2 hgS (by omega)⟩
  · obtain ⟨A9, c9, _, hc9, hr9, _⟩ := hrng
    have ho : OwnE w1 (w.heap.size + 1) (.slice (some ⟨g', 0, none⟩) (l ++ [e]).length cap') (l ++ [e]) := ⟨g', cap', rfl, by
      rw [hlen, edgesV_snoc]
      refine ⟨hown.1, ?_⟩
      rcases hown.2 with h3 | ⟨g3, c3, cur3, hv3, hb3, rest⟩
      · exact absurd h3.2 (by omega)
      · refine .inr ⟨g3, c3, cur3, hv3, ?_, rest⟩
        cases hv3; omega, fun u hu => by
      rcases List.mem_append.1 hu with h3 | h3
      · exact hr9 u h3
      · simp at h3; rw [h3]; exact he⟩
    exact OwnN.set_ (.inr ho) (fun j hj => by simp only [Value.ownBlock, Option.some.injEq] at hj; omega) _
  · intro j hj
    simp only [Value.ownBlock, Option.some.injEq] at hj; omega
set_option maxRecDepth 20000 in
set_option maxHeartbeats 3200000 in
theorem l4Any_any (k : Nat) (A : Option Addr) (len : Nat) (w : World) (h : Cur w k A len) : Calls Tryz.prog 36 #[.pointer (some ⟨k, 0, none⟩)] w (RetDG w k A len 9) := by
  have hk := h.lt
  have hA := h.code
  have bR : Box (w.alloc (Obj.cells #[.int .i64 0, .int .i64 0, .slice none 0 0] 26 (0, 0))) w.heap.size (Obj.cells #[.int .i64 0, .int .i64 0, .slice none 0 0] 26 (0, 0)) := Box.new _ _
  have hb1 : Below w.heap.size w (w.alloc (Obj.cells #[.int .i64 0, .int .i64 0, .slice none 0 0] 26 (0, 0))) := (Below.refl _ _).alloc (Nat.le_refl _) _
  have HG := Lib.hid (l4Graph_any k A len _ (h.keep hb1))
  clear h
  go_enter Tryz.func36, Tryz.ntmps36
  go_wp2_with fail
  refine (HG.out).mono ?_
  rintro e w1 ⟨r, n, v, l, rfl, ho, hq, hc1, hg1⟩
  obtain ⟨Ad, cap, rfl⟩ := ho.edges.form
  have HQ := Lib.hid hq
  have hl8 := hq.2.2.1
  replace bR := bR.apart hg1 (by omega)
  have hhi := ho.hi
  have hlt : w.heap.size < w1.heap.size := bR.lt
  have hal : Below w1.heap.size w1 (w1.alloc (.cells #[.int .i64 r, .int .i64 n, .slice Ad l.length cap] 26 (0, 0))) := (Below.refl _ _).alloc (Nat.le_refl _) _
  have hst : DGSt w (w1.alloc (.cells #[.int .i64 r, .int .i64 n, .slice Ad l.length cap] 26 (0, 0))) k w1.heap.size A len r n Ad cap l :=
    ⟨hk, hlt, hA, bR.keep hal, Box.new _ _, (ho.base (by simp)).keep hal, (fun j hj => by have := hhi j hj; omega), hc1.keep hal, ((grown_below hb1).trans hg1).trans (grown_below hal)⟩
  have HB := Lib.hid (l1Below_small k A len 14 _ hst.cur (by decide) (by decide))
  clear hq HG bR hb1 hal hc1 hg1 hhi ho
  go_wp2_with fail
  refine (HB.out).mono ?_
  rintro e w2 ⟨t, rfl, ht, hc2, hg2⟩
  replace hst := hst.turned hg2 hc2
  obtain ⟨kg, hkg⟩ : ∃ z, z = w1.heap.size := ⟨_, rfl⟩
  rw [← hkg] at hst hlt ⊢
  clear hkg HB hc2 hg2
  by_cases t0 : t = 0
  · subst t0
    have hal : Below w2.heap.size w2 (w2.alloc (.cells #[.int .i64 (-1), .int .i64 0, .int .i64 1, .int .i64 41] 3 (0, 0))) := (Below.refl _ _).alloc (Nat.le_refl _) _
    have hI : Ints (w2.alloc (.cells #[.int .i64 (-1), .int .i64 0, .int .i64 1, .int .i64 41] 3 (0, 0))) (.slice (some ⟨w2.heap.size, 0, none⟩) 4 4) [-1, 0, 1, 41] := ints_lit w2 [-1, 0, 1, 41] (by simp [I64])
    have HP := Lib.hid (l1PickInt_any k A len _ [-1, 0, 1, 41] _ (hst.cur.keep hal) hI (lit_neG hst.cur.lt) (by decide) (by decide))
    clear hI
    go_wp2_with fail
    refine (HP.out).mono ?_
    rintro e w3 ⟨x, rfl, hx, hc3, hg3⟩
    have hx' : -1 ≤ x ∧ x ≤ 41 := by simp at hx; omega
    replace hst := (hst.keep hal).turned hg3 hc3
    obtain ⟨q1, q2, q3⟩ := hst.box.cells
    have f4 := Box.froz hst.box 1
    obtain ⟨p1, p2, p3⟩ := hst.res.cells
    have f1 := Box.froz hst.res 0
    have f2 := Box.froz hst.res 1
    have f3 := Box.froz hst.res 2
    have hlt := hst.lt
    have hst3 := hst.set_ 1 (.int .i64 x) r x rfl
    have HF := Lib.hid (hst3.finish (.int .i64 (r)) (.int .i64 (x)) (.slice Ad l.length cap))
    have HQ9 : Hid (GQ 9 (r) (x) l) := Lib.hid ⟨HQ.out.1, hx', by have := HQ.out.2.2.1; omega, HQ.out.2.2.2⟩
    clear hx hx' hst3 hal HP hc3 hg3
    go_wp2
    exact bodyPost_ret (v := graphV (r) (x) (.slice Ad l.length cap)) (by simp [results, Tryz.results36, go_sem, p1, p2, p3]) rfl ⟨_, _, _, _, rfl, HF.out.1, HQ9.out, HF.out.2.1, HF.out.2.2⟩
  by_cases t1 : t = 1
  · subst t1
    have hal : Below w2.heap.size w2 (w2.alloc (.cells #[.int .i64 0, .int .i64 1, .int .i64 4] 3 (0, 0))) := (Below.refl _ _).alloc (Nat.le_refl _) _
    have hI : Ints (w2.alloc (.cells #[.int .i64 0, .int .i64 1, .int .i64 4] 3 (0, 0))) (.slice (some ⟨w2.heap.size, 0, none⟩) 3 3) [0, 1, 4] := ints_lit w2 [0, 1, 4] (by simp [I64])
    have HP := Lib.hid (l1PickInt_any k A len _ [0, 1, 4] _ (hst.cur.keep hal) hI (lit_neG hst.cur.lt) (by decide) (by decide))
    clear hI
    go_wp2_with fail
    refine (HP.out).mono ?_
    rintro e w3 ⟨x, rfl, hx, hc3, hg3⟩
    have hx' : -1 ≤ x ∧ x ≤ 4 := by simp at hx; omega
    replace hst := (hst.keep hal).turned hg3 hc3
    obtain ⟨q1, q2, q3⟩ := hst.box.cells
    have f4 := Box.froz hst.box 0
    obtain ⟨p1, p2, p3⟩ := hst.res.cells
    have f1 := Box.froz hst.res 0
    have f2 := Box.froz hst.res 1
    have f3 := Box.froz hst.res 2
    have hlt := hst.lt
    have hst3 := hst.set_ 0 (.int .i64 x) x n rfl
    have HF := Lib.hid (hst3.finish (.int .i64 (x)) (.int .i64 (n)) (.slice Ad l.length cap))
    have HQ9 : Hid (GQ 9 (x) (n) l) := Lib.hid ⟨hx', HQ.out.2.1, by have := HQ.out.2.2.1; omega, HQ.out.2.2.2⟩
    clear hx hx' hst3 hal HP hc3 hg3
    go_wp2
    exact bodyPost_ret (v := graphV (x) (n) (.slice Ad l.length cap)) (by simp [results, Tryz.results36, go_sem, p1, p2, p3]) rfl ⟨_, _, _, _, rfl, HF.out.1, HQ9.out, HF.out.2.1, HF.out.2.2⟩
  by_cases t2 : t = 2
  · subst t2
    go_wp2
    refine wp_region_held_drew (S := fun _ => True) (by kernel_rfl) trivial (fun hHeld => ?_)
    replace hst := hst.turned (World.grownBy_refl2 w2 (some k)) (show Cur w2.drew k A len from hst.cur)
    refine wpAnyH_take (i := 0) (v := ?v1) rfl (by kernel_rfl) (by kernel_rfl) (by kernel_rfl) (fun _ _ _ h => h) (Or.inl ⟨by rfl, ?hy1⟩) (by assumption) ?rest1
    case hy1 => intro X hX; (try dsimp only at hX); go_simp <;> with_reducible rfl
    try simp only [List.getElem_toArray, List.getElem_cons_zero, Act.put, List.setIfInBounds_toArray, List.set_cons_zero, List.set_cons_succ]
    refine wpAnyH_take (i := 2) (v := ?v2) rfl (by kernel_rfl) (by kernel_rfl) (by kernel_rfl) (fun _ _ _ h => h) (Or.inl ⟨by rfl, ?hy2⟩) (by assumption) ?rest2
    case hy2 => intro X hX; (try dsimp only at hX); go_simp <;> with_reducible rfl
    try simp only [List.getElem_toArray, List.getElem_cons_succ, List.getElem_cons_zero, Act.put, List.setIfInBounds_toArray, List.set_cons_zero, List.set_cons_succ]
    refine wpAnyH_ready (rs := [1, 3]) (by kernel_rfl) (by simp) ?_
    refine AllReadyH.cons rfl (fun K hK => ?_) (AllReadyH.cons rfl (fun K hK => ?_) AllReadyH.nil)
    · obtain ⟨q1, q2, q3⟩ := hst.box.cells
      go_simp
      refine hK.out _ _ trivial (fun hHeld2 => ?_)
      clear hHeld2 hK K
      try simp only [List.getElem_toArray, List.getElem_cons_succ, List.getElem_cons_zero, Act.put, List.setIfInBounds_toArray, List.set_cons_zero, List.set_cons_succ]
      clear q1 q2 q3
      refine wpAnyH_ready (rs := [3]) (by kernel_rfl) (by simp) ?_
      refine AllReadyH.cons rfl (fun K hK => ?_) AllReadyH.nil
      go_simp
      go_at_call 54
      refine (l1Below_small k A len 4 _ hst.cur (by decide) (by decide)).mono ?_
      rintro e q ⟨x1, rfl, hx1, hc, hg⟩
      replace hst := hst.turned hg hc
      (try go_simp)
      refine hK.out _ _ trivial (fun hHeld2 => ?_)
      clear hHeld2 hK K
      try simp only [List.getElem_toArray, List.getElem_cons_succ, List.getElem_cons_zero, Act.put, List.setIfInBounds_toArray, List.set_cons_zero, List.set_cons_succ]
      clear hc hg
      refine wpAnyH_take (i := 4) (v := ?v3) rfl (by kernel_rfl) (by kernel_rfl) (by kernel_rfl) (fun _ _ _ h => h) (Or.inl ⟨by rfl, ?hy3⟩) (by assumption) ?rest3
      case hy3 => intro X hX; (try dsimp only at hX); go_simp <;> with_reducible rfl
      try simp only [List.getElem_toArray, List.getElem_cons_succ, List.getElem_cons_zero, Act.put, List.setIfInBounds_toArray, List.set_cons_zero, List.set_cons_succ]
      refine wpAnyH_ready (rs := [5]) (by kernel_rfl) (by simp) ?_
      refine AllReadyH.cons rfl (fun K hK => ?_) AllReadyH.nil
      go_simp
      have bn : Box (q.alloc (Obj.cells #[.int .i64 (x1 : Int), .int .i64 1, .int .i64 0] 28 (0, 0))) q.heap.size (Obj.cells #[.int .i64 (x1 : Int), .int .i64 1, .int .i64 0] 28 (0, 0)) := Box.new _ _
      have hbx := (Below.refl q.heap.size q).alloc (Nat.le_refl _) (Obj.cells #[.int .i64 (x1 : Int), .int .i64 1, .int .i64 0] 28 (0, 0))
      replace hst := hst.keep hbx
      refine hK.out _ _ trivial (fun hHeld2 => ?_)
      clear hHeld2 hK K
      try simp only [List.getElem_toArray, List.getElem_cons_succ, List.getElem_cons_zero, Act.put, List.setIfInBounds_toArray, List.set_cons_zero, List.set_cons_succ]
      clear hbx
      have hgq : w.heap.size ≤ (q.alloc (Obj.cells #[.int .i64 (x1 : Int), .int .i64 1, .int .i64 0] 28 (0, 0))).heap.size := hst.grown.size
      have he1 : I64E ((x1 : Int), 1, 0) := by unfold I64E I64; simp only; omega
      refine wpAnyH_ready (rs := [6]) (by kernel_rfl) (by simp) ?_
      refine AllReadyH.cons rfl (fun K hK => ?_) AllReadyH.nil
      refine step_appV elemE rfl (.tmp 23) (.tmp 27) rfl rfl (hst.row) rfl (m := 1) (news := edC ((x1 : Int), 1, 0)) rfl (World.news_of_block (cs := #[.int .i64 (x1 : Int), .int .i64 1, .int .i64 0]) bn) (by simp [edC, Value.oneCell']) (by omega) (by omega) (by simp only [World.alloc, Array.size_push] at hgq ⊢; omega) ?_
      intro g' cap' w5 hown5 hgrow5 hat5
      refine hK.out _ _ trivial (fun hHeld2 => ?_)
      clear hHeld2 hK K
      try simp only [List.getElem_toArray, List.getElem_cons_succ, List.getElem_cons_zero, Act.put, List.setIfInBounds_toArray, List.set_cons_zero, List.set_cons_succ]
      have b5 := hst.box.grown (v := .slice Ad l.length cap) hgrow5 (fun j hj => (hst.far j hj).symm)
      replace hst := hst.push he1 hown5 hgrow5 hat5
      obtain ⟨d1, d2, d3⟩ := b5.cells
      have df := Box.froz b5 2
      refine wpAnyH_take (i := 7) (v := ?v4) rfl (by kernel_rfl) (by kernel_rfl) (by kernel_rfl) (fun _ _ _ h => h) (Or.inl ⟨by rfl, ?hy4⟩) (by assumption) ?rest4
      case hy4 => intro X hX; (try dsimp only at hX); go_simp <;> with_reducible rfl
      try simp only [List.getElem_toArray, List.getElem_cons_succ, List.getElem_cons_zero, Act.put, List.setIfInBounds_toArray, List.set_cons_zero, List.set_cons_succ]
      refine wpAnyH_ready (rs := [8]) (by kernel_rfl) (by simp) ?_
      refine AllReadyH.cons rfl (fun K hK => ?_) AllReadyH.nil
      go_simp
      refine hK.out _ _ trivial (fun hHeld2 => ?_)
      clear hHeld2 hK K
      try simp only [List.getElem_toArray, List.getElem_cons_succ, List.getElem_cons_zero, Act.put, List.setIfInBounds_toArray, List.set_cons_zero, List.set_cons_succ]
      refine wpAnyH_done (by kernel_rfl) ?_ _
      obtain ⟨W9, hW9⟩ : ∃ z, z = w5.setCell ⟨kg, 2, none⟩ (.slice (some ⟨g', 0, none⟩) (l.length + 1) cap') := ⟨_, rfl⟩
      rw [← hW9] at hst ⊢
      obtain ⟨L9, hL9⟩ : ∃ z, z = l ++ [((x1 : Int), (1 : Int), (0 : Int))] := ⟨_, rfl⟩
      rw [← hL9] at hst
      have hl9 : L9.length = l.length + 1 := by rw [hL9]; simp
      have hq9 : Hid (GQ 9 r n L9) := Lib.hid ⟨HQ.out.1, HQ.out.2.1, by have := HQ.out.2.2.1; omega, fun u hu => by
        rw [hL9] at hu
        rcases List.mem_append.1 hu with h9 | h9
        · exact HQ.out.2.2.2 u h9
        · simp at h9; rw [h9]; unfold SmE; simp only; omega⟩
      rw [← hl9]
      clear hl9 hL9 hW9 d1 d2 d3 df b5 hown5 hgrow5 hat5 bn hgq he1
      obtain ⟨q1, q2, q3⟩ := hst.box.cells
      obtain ⟨p1, p2, p3⟩ := hst.res.cells
      have f1 := Box.froz hst.res 0
      have f2 := Box.froz hst.res 1
      have f3 := Box.froz hst.res 2
      have HF := Lib.hid (hst.finish (.int .i64 (r)) (.int .i64 (n)) (.slice (some ⟨g', 0, none⟩) (L9).length cap'))
      go_wp2
      exact bodyPost_ret (v := graphV (r) (n) (.slice (some ⟨g', 0, none⟩) (L9).length cap')) (by simp [results, Tryz.results36, go_sem, p1, p2, p3]) rfl ⟨_, _, _, _, rfl, HF.out.1, hq9.out, HF.out.2.1, HF.out.2.2⟩
    · go_simp
      go_at_call 54
      refine (l1Below_small k A len 4 _ hst.cur (by decide) (by decide)).mono ?_
      rintro e q ⟨x1, rfl, hx1, hc, hg⟩
      replace hst := hst.turned hg hc
      (try go_simp)
      refine hK.out _ _ trivial (fun hHeld2 => ?_)
      clear hHeld2 hK K
      try simp only [List.getElem_toArray, List.getElem_cons_succ, List.getElem_cons_zero, Act.put, List.setIfInBounds_toArray, List.set_cons_zero, List.set_cons_succ]
      clear hc hg
      refine wpAnyH_take (i := 4) (v := ?v5) rfl (by kernel_rfl) (by kernel_rfl) (by kernel_rfl) (fun _ _ _ h => h) (Or.inl ⟨by rfl, ?hy5⟩) (by assumption) ?rest5
      case hy5 => intro X hX; (try dsimp only at hX); go_simp <;> with_reducible rfl
      try simp only [List.getElem_toArray, List.getElem_cons_succ, List.getElem_cons_zero, Act.put, List.setIfInBounds_toArray, List.set_cons_zero, List.set_cons_succ]
      refine wpAnyH_ready (rs := [1, 5]) (by kernel_rfl) (by simp) ?_
      refine AllReadyH.cons rfl (fun K hK => ?_) (AllReadyH.cons rfl (fun K hK => ?_) AllReadyH.nil)
      · obtain ⟨q1, q2, q3⟩ := hst.box.cells
        go_simp
        refine hK.out _ _ trivial (fun hHeld2 => ?_)
        clear hHeld2 hK K
        try simp only [List.getElem_toArray, List.getElem_cons_succ, List.getElem_cons_zero, Act.put, List.setIfInBounds_toArray, List.set_cons_zero, List.set_cons_succ]
        clear q1 q2 q3
        refine wpAnyH_ready (rs := [5]) (by kernel_rfl) (by simp) ?_
        refine AllReadyH.cons rfl (fun K hK => ?_) AllReadyH.nil
        go_simp
        have bn : Box (q.alloc (Obj.cells #[.int .i64 (x1 : Int), .int .i64 1, .int .i64 0] 28 (0, 0))) q.heap.size (Obj.cells #[.int .i64 (x1 : Int), .int .i64 1, .int .i64 0] 28 (0, 0)) := Box.new _ _
        have hbx := (Below.refl q.heap.size q).alloc (Nat.le_refl _) (Obj.cells #[.int .i64 (x1 : Int), .int .i64 1, .int .i64 0] 28 (0, 0))
        replace hst := hst.keep hbx
        refine hK.out _ _ trivial (fun hHeld2 => ?_)
        clear hHeld2 hK K
        try simp only [List.getElem_toArray, List.getElem_cons_succ, List.getElem_cons_zero, Act.put, List.setIfInBounds_toArray, List.set_cons_zero, List.set_cons_succ]
        clear hbx
        have hgq : w.heap.size ≤ (q.alloc (Obj.cells #[.int .i64 (x1 : Int), .int .i64 1, .int .i64 0] 28 (0, 0))).heap.size := hst.grown.size
        have he1 : I64E ((x1 : Int), 1, 0) := by unfold I64E I64; simp only; omega
        refine wpAnyH_ready (rs := [6]) (by kernel_rfl) (by simp) ?_
        refine AllReadyH.cons rfl (fun K hK => ?_) AllReadyH.nil
        refine step_appV elemE rfl (.tmp 23) (.tmp 27) rfl rfl (hst.row) rfl (m := 1) (news := edC ((x1 : Int), 1, 0)) rfl (World.news_of_block (cs := #[.int .i64 (x1 : Int), .int .i64 1, .int .i64 0]) bn) (by simp [edC, Value.oneCell']) (by omega) (by omega) (by simp only [World.alloc, Array.size_push] at hgq ⊢; omega) ?_
        intro g' cap' w5 hown5 hgrow5 hat5
        refine hK.out _ _ trivial (fun hHeld2 => ?_)
        clear hHeld2 hK K
        try simp only [List.getElem_toArray, List.getElem_cons_succ, List.getElem_cons_zero, Act.put, List.setIfInBounds_toArray, List.set_cons_zero, List.set_cons_succ]
        have b5 := hst.box.grown (v := .slice Ad l.length cap) hgrow5 (fun j hj => (hst.far j hj).symm)
        replace hst := hst.push he1 hown5 hgrow5 hat5
        obtain ⟨d1, d2, d3⟩ := b5.cells
        have df := Box.froz b5 2
        refine wpAnyH_take (i := 7) (v := ?v6) rfl (by kernel_rfl) (by kernel_rfl) (by kernel_rfl) (fun _ _ _ h => h) (Or.inl ⟨by rfl, ?hy6⟩) (by assumption) ?rest6
        case hy6 => intro X hX; (try dsimp only at hX); go_simp <;> with_reducible rfl
        try simp only [List.getElem_toArray, List.getElem_cons_succ, List.getElem_cons_zero, Act.put, List.setIfInBounds_toArray, List.set_cons_zero, List.set_cons_succ]
        refine wpAnyH_ready (rs := [8]) (by kernel_rfl) (by simp) ?_
        refine AllReadyH.cons rfl (fun K hK => ?_) AllReadyH.nil
        go_simp
        refine hK.out _ _ trivial (fun hHeld2 => ?_)
        clear hHeld2 hK K
        try simp only [List.getElem_toArray, List.getElem_cons_succ, List.getElem_cons_zero, Act.put, List.setIfInBounds_toArray, List.set_cons_zero, List.set_cons_succ]
        refine wpAnyH_done (by kernel_rfl) ?_ _
        obtain ⟨W9, hW9⟩ : ∃ z, z = w5.setCell ⟨kg, 2, none⟩ (.slice (some ⟨g', 0, none⟩) (l.length + 1) cap') := ⟨_, rfl⟩
        rw [← hW9] at hst ⊢
        obtain ⟨L9, hL9⟩ : ∃ z, z = l ++ [((x1 : Int), (1 : Int), (0 : Int))] := ⟨_, rfl⟩
        rw [← hL9] at hst
        have hl9 : L9.length = l.length + 1 := by rw [hL9]; simp
        have hq9 : Hid (GQ 9 r n L9) := Lib.hid ⟨HQ.out.1, HQ.out.2.1, by have := HQ.out.2.2.1; omega, fun u hu => by
          rw [hL9] at hu
          rcases List.mem_append.1 hu with h9 | h9
          · exact HQ.out.2.2.2 u h9
          · simp at h9; rw [h9]; unfold SmE; simp only; omega⟩
        rw [← hl9]
        clear hl9 hL9 hW9 d1 d2 d3 df b5 hown5 hgrow5 hat5 bn hgq he1
        obtain ⟨q1, q2, q3⟩ := hst.box.cells
        obtain ⟨p1, p2, p3⟩ := hst.res.cells
        have f1 := Box.froz hst.res 0
        have f2 := Box.froz hst.res 1
        have f3 := Box.froz hst.res 2
        have HF := Lib.hid (hst.finish (.int .i64 (r)) (.int .i64 (n)) (.slice (some ⟨g', 0, none⟩) (L9).length cap'))
        go_wp2
        exact bodyPost_ret (v := graphV (r) (n) (.slice (some ⟨g', 0, none⟩) (L9).length cap')) (by simp [results, Tryz.results36, go_sem, p1, p2, p3]) rfl ⟨_, _, _, _, rfl, HF.out.1, hq9.out, HF.out.2.1, HF.out.2.2⟩
      · go_simp
        have bn : Box (q.alloc (Obj.cells #[.int .i64 (x1 : Int), .int .i64 1, .int .i64 0] 28 (0, 0))) q.heap.size (Obj.cells #[.int .i64 (x1 : Int), .int .i64 1, .int .i64 0] 28 (0, 0)) := Box.new _ _
        have hbx := (Below.refl q.heap.size q).alloc (Nat.le_refl _) (Obj.cells #[.int .i64 (x1 : Int), .int .i64 1, .int .i64 0] 28 (0, 0))
        replace hst := hst.keep hbx
        refine hK.out _ _ trivial (fun hHeld2 => ?_)
        clear hHeld2 hK K
        try simp only [List.getElem_toArray, List.getElem_cons_succ, List.getElem_cons_zero, Act.put, List.setIfInBounds_toArray, List.set_cons_zero, List.set_cons_succ]
        clear hbx
        refine wpAnyH_ready (rs := [1]) (by kernel_rfl) (by simp) ?_
        refine AllReadyH.cons rfl (fun K hK => ?_) AllReadyH.nil
        obtain ⟨q1, q2, q3⟩ := hst.box.cells
        go_simp
        refine hK.out _ _ trivial (fun hHeld2 => ?_)
        clear hHeld2 hK K
        try simp only [List.getElem_toArray, List.getElem_cons_succ, List.getElem_cons_zero, Act.put, List.setIfInBounds_toArray, List.set_cons_zero, List.set_cons_succ]
        clear q1 q2 q3
        have hgq : w.heap.size ≤ (q.alloc (Obj.cells #[.int .i64 (x1 : Int), .int .i64 1, .int .i64 0] 28 (0, 0))).heap.size := hst.grown.size
        have he1 : I64E ((x1 : Int), 1, 0) := by unfold I64E I64; simp only; omega
        refine wpAnyH_ready (rs := [6]) (by kernel_rfl) (by simp) ?_
        refine AllReadyH.cons rfl (fun K hK => ?_) AllReadyH.nil
        refine step_appV elemE rfl (.tmp 23) (.tmp 27) rfl rfl (hst.row) rfl (m := 1) (news := edC ((x1 : Int), 1, 0)) rfl (World.news_of_block (cs := #[.int .i64 (x1 : Int), .int .i64 1, .int .i64 0]) bn) (by simp [edC, Value.oneCell']) (by omega) (by omega) (by simp only [World.alloc, Array.size_push] at hgq ⊢; omega) ?_
        intro g' cap' w5 hown5 hgrow5 hat5
        refine hK.out _ _ trivial (fun hHeld2 => ?_)
        clear hHeld2 hK K
        try simp only [List.getElem_toArray, List.getElem_cons_succ, List.getElem_cons_zero, Act.put, List.setIfInBounds_toArray, List.set_cons_zero, List.set_cons_succ]
        have b5 := hst.box.grown (v := .slice Ad l.length cap) hgrow5 (fun j hj => (hst.far j hj).symm)
        replace hst := hst.push he1 hown5 hgrow5 hat5
        obtain ⟨d1, d2, d3⟩ := b5.cells
        have df := Box.froz b5 2
        refine wpAnyH_take (i := 7) (v := ?v7) rfl (by kernel_rfl) (by kernel_rfl) (by kernel_rfl) (fun _ _ _ h => h) (Or.inl ⟨by rfl, ?hy7⟩) (by assumption) ?rest7
        case hy7 => intro X hX; (try dsimp only at hX); go_simp <;> with_reducible rfl
        try simp only [List.getElem_toArray, List.getElem_cons_succ, List.getElem_cons_zero, Act.put, List.setIfInBounds_toArray, List.set_cons_zero, List.set_cons_succ]
        refine wpAnyH_ready (rs := [8]) (by kernel_rfl) (by simp) ?_
        refine AllReadyH.cons rfl (fun K hK => ?_) AllReadyH.nil
        go_simp
        refine hK.out _ _ trivial (fun hHeld2 => ?_)
        clear hHeld2 hK K
        try simp only [List.getElem_toArray, List.getElem_cons_succ, List.getElem_cons_zero, Act.put, List.setIfInBounds_toArray, List.set_cons_zero, List.set_cons_succ]
        refine wpAnyH_done (by kernel_rfl) ?_ _
        obtain ⟨W9, hW9⟩ : ∃ z, z = w5.setCell ⟨kg, 2, none⟩ (.slice (some ⟨g', 0, none⟩) (l.length + 1) cap') := ⟨_, rfl⟩
        rw [← hW9] at hst ⊢
        obtain ⟨L9, hL9⟩ : ∃ z, z = l ++ [((x1 : Int), (1 : Int), (0 : Int))] := ⟨_, rfl⟩
        rw [← hL9] at hst
        have hl9 : L9.length = l.length + 1 := by rw [hL9]; simp
        have hq9 : Hid (GQ 9 r n L9) := Lib.hid ⟨HQ.out.1, HQ.out.2.1, by have := HQ.out.2.2.1; omega, fun u hu => by
          rw [hL9] at hu
          rcases List.mem_append.1 hu with h9 | h9
          · exact HQ.out.2.2.2 u h9
          · simp at h9; rw [h9]; unfold SmE; simp only; omega⟩
        rw [← hl9]
        clear hl9 hL9 hW9 d1 d2 d3 df b5 hown5 hgrow5 hat5 bn hgq he1
        obtain ⟨q1, q2, q3⟩ := hst.box.cells
        obtain ⟨p1, p2, p3⟩ := hst.res.cells
        have f1 := Box.froz hst.res 0
        have f2 := Box.froz hst.res 1
        have f3 := Box.froz hst.res 2
        have HF := Lib.hid (hst.finish (.int .i64 (r)) (.int .i64 (n)) (.slice (some ⟨g', 0, none⟩) (L9).length cap'))
        go_wp2
        exact bodyPost_ret (v := graphV (r) (n) (.slice (some ⟨g', 0, none⟩) (L9).length cap')) (by simp [results, Tryz.results36, go_sem, p1, p2, p3]) rfl ⟨_, _, _, _, rfl, HF.out.1, hq9.out, HF.out.2.1, HF.out.2.2⟩
  have t0I : ¬ (t : Int) = 0 := by omega
  have t1I : ¬ (t : Int) = 1 := by omega
  have t2I : ¬ (t : Int) = 2 := by omega
  obtain ⟨q1, q2, q3⟩ := hst.box.cells
  obtain ⟨p1, p2, p3⟩ := hst.res.cells
  have f1 := Box.froz hst.res 0
  have f2 := Box.froz hst.res 1
  have f3 := Box.froz hst.res 2
  have HF := Lib.hid (hst.finish (.int .i64 (r)) (.int .i64 (n)) (.slice Ad (l).length cap))
  go_wp2
  exact bodyPost_ret (v := graphV (r) (n) (.slice Ad (l).length cap)) (by simp [results, Tryz.results36, go_sem, p1, p2, p3]) rfl ⟨_, _, _, _, rfl, HF.out.1, ⟨HQ.out.1, HQ.out.2.1, by have := HQ.out.2.2.1; omega, HQ.out.2.2.2⟩, HF.out.2.1, HF.out.2.2⟩
end Go.Proofs.YtpebiacdkfpnpaaGreat
