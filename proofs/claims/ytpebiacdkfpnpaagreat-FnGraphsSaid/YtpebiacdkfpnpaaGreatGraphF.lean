/- Contracts of copyGraph and l4Copy. Conditions: at most 2^20 edges. -/
import Derived.Test.YtpebiacdkfpnpaaGreatRetG
import Derived.Deep.RegionHeld3
namespace Go.Proofs.YtpebiacdkfpnpaaGreat
open Go.RowKit

theorem edgesV_one (l : List Ed) : ∀ u ∈ edgesV l, u.oneCell' = true := by
  intro u hu
  simp only [edgesV, List.mem_flatMap, edC, List.mem_cons, List.not_mem_nil, or_false] at hu
  obtain ⟨e, _, h⟩ := hu
  rcases h with rfl | rfl | rfl <;> rfl
theorem edgesV_at (l : List Ed) (j : Nat) (u : Value) (h : (edgesV l)[j]? = some u) : ∃ (i : Nat) (hi : i < l.length), (j = i * 3 ∧ u = .int .i64 l[i].1) ∨ (j = i * 3 + 1 ∧ u = .int .i64 l[i].2.1) ∨ (j = i * 3 + 2 ∧ u = .int .i64 l[i].2.2) := by
  have hj : j < l.length * 3 := by
    have := (List.getElem?_eq_some_iff.1 h).1
    rwa [edgesV_length] at this
  have hi : j / 3 < l.length := by omega
  obtain ⟨h1, h2, h3⟩ := edgesV_get l (j / 3) hi
  have hc : j = j / 3 * 3 ∨ j = j / 3 * 3 + 1 ∨ j = j / 3 * 3 + 2 := by omega
  refine ⟨j / 3, hi, ?_⟩
  rcases hc with hc | hc | hc
  · left; refine ⟨hc, ?_⟩; rw [hc] at h; rw [h] at h1; exact Option.some.inj h1
  · right; left; refine ⟨hc, ?_⟩; rw [hc] at h; rw [h] at h2; exact Option.some.inj h2
  · right; right; refine ⟨hc, ?_⟩; rw [hc] at h; rw [h] at h3; exact Option.some.inj h3
/-- The cells of a slice of edges, for an append. -/
theorem Edges.news {w : World} {ad : Addr} {cap n : Nat} {l : List Ed} (h : Edges w (.slice (some ad) n cap) l) : ∀ j u, (edgesV l)[j]? = some u → w.cell? (ad.add j) = some u := by
  obtain ⟨A, cap', hv, hc, hr, hcell⟩ := h
  simp only [Value.slice.injEq] at hv
  obtain ⟨rfl, rfl, rfl⟩ := hv
  intro j u hu
  obtain ⟨i, hi, h⟩ := edgesV_at l j u hu
  obtain ⟨b', off', hA, hb, hx⟩ := hcell (by omega)
  simp only [Option.some.injEq] at hA
  subst hA
  obtain ⟨h1, h2, h3⟩ := hx i hi
  rw [Addr.add_lit]
  rcases h with ⟨rfl, rfl⟩ | ⟨rfl, rfl⟩ | ⟨rfl, rfl⟩
  · exact h1
  · exact h2
  · exact h3
theorem Box.apart {w w' : World} {k g : Nat} {o : Obj} (h : Box w k o) (hg : w.grownBy w' (some g)) (hne : k ≠ g) : Box w' k o :=
  (hg.block k h.lt fun e => hne (Option.some.inj e)).trans h
theorem Box.set_ {w : World} {k : Nat} {o : Obj} (h : Box w k o) (a : Addr) (u : Value) (hne : k ≠ a.block) : Box (w.setCell a u) k o := (Below.heap_setCell w a u k hne).trans h
theorem Box.frozen {w : World} {k : Nat} {cs : Array Value} {t : TypeId} (h : Box w k (.cells cs t (0, 0))) (j : Nat) : w.frozen? ⟨k, j, none⟩ = false := frozen_of_row w k j cs t h
/-- append of a nil slice, in a region. -/
theorem step_app_none {P : Program} {t e : TypeId} {z : Value} {size bytes : Nat} (E : Elem P t e z size bytes) {w : World} {ops : Array Oper} {o : Oper} {a : Act} {K : Act → World → Prop} {Q : Exit → Act → World → Prop} {F : Prop} (hgd : o.guard = none) (s x : Operand)
    (ho : o.op = .call { callee := .builtin .append, args := #[s, x], argTypes := #[t, t] })
    {base g n cap : Nat} {xs : List Value} (hs : a.eval s = .slice (some ⟨g, 0, none⟩) n cap) (hown : w.ownsRow base e size (.slice (some ⟨g, 0, none⟩) n cap) n xs)
    (hx : a.eval x = .slice none 0 0) (h : K (a.put o.dst (.slice (some ⟨g, 0, none⟩) n cap)) w) :
    if Region.wanted o (yielded ops a.tmps) = true then Oper.wp P o a w K Q else F := by
  have hw : Region.wanted o (yielded ops a.tmps) = true := by simp [Region.wanted, hgd]
  rw [if_pos hw]
  have hr := run_app_none E o.type w base g n cap xs hown
  unfold Oper.wp execOp
  simp only [ho, resolve, invoke, builtin, Sem.run_bind, Sem.run_pure, Result.andThen_ok, List.map_toArray, List.map_cons, List.map_nil, hs, hx, hr]
  exact h
set_option maxHeartbeats 1600000 in
theorem copyGraph_any (r n : Int) (v : Value) (l : List Ed) (w : World) (h : Edges w v l) (hk : NilOk v) (hn : l.length ≤ 1048576) :
    Calls Tryz.prog 38 #[graphV r n v] w (RetG w r n l) := by
  have hkeep := h
  obtain ⟨A, cap, rfl, hc, hr, hcell⟩ := h
  obtain ⟨W, hW⟩ : ∃ W, W = ((w.alloc (.cells #[.int .i64 r, .int .i64 n, .slice A l.length cap] 26 (0, 0))).alloc (.cells #[.int .i64 0, .int .i64 0, .slice none 0 0] 26 (0, 0))) := ⟨_, rfl⟩
  have hB : Below w.heap.size w W := by rw [hW]; exact ((Below.refl _ _).alloc (Nat.le_refl _) _).alloc (by simp) _
  have bx1 : Box W w.heap.size (.cells #[.int .i64 r, .int .i64 n, .slice A l.length cap] 26 (0, 0)) := by rw [hW]; exact Box.first _ _ _
  have bx2 : Box W (w.heap.size + 1) (.cells #[.int .i64 0, .int .i64 0, .slice none 0 0] 26 (0, 0)) := by rw [hW]; exact Box.two _ _ _
  have hsz : W.heap.size = w.heap.size + 2 := by rw [hW]; simp
  have HSZ := Lib.hid hsz
  clear hsz
  have hd := (Below.refl W.heap.size W).drew
  have hal := ((Below.refl W.heap.size W).alloc (Nat.le_refl _) (.cells #[] 28 (0, 0))).drew
  have bx3 := bx2.keep hal
  have hmade : (W.alloc (.cells #[] 28 (0, 0))).drew.ownsRow W.heap.size 28 3 (.slice (some ⟨W.heap.size, 0, none⟩) 0 0) 0 [] := (World.ownsRow_made _ _ _ (Nat.le_refl _) (by decide) rfl).drew
  have hS0 : Below w.heap.size w W.drew ∧ Box W.drew w.heap.size (.cells #[.int .i64 r, .int .i64 n, .slice A l.length cap] 26 (0, 0)) := ⟨hB.drew, bx1.keep hd⟩
  cases A with
  | none =>
    have hl : l = [] := by
      cases l with
      | nil => rfl
      | cons e l => obtain ⟨b, off, h, _⟩ := hcell (by simp); cases h
    subst hl
    obtain rfl : cap = 0 := hk _ _ rfl
    clear hcell hkeep
    simp only [List.length_nil] at hS0 hW
    have HW := Lib.hid hW
    clear hW
    have bx5 := bx2.keep ((Below.refl W.heap.size W).alloc (Nat.le_refl _) (.cells #[] 28 (0, 0)))
    obtain ⟨d0, d1, d2⟩ := bx5.cells
    have f0 := bx5.frozen 0
    have f1 := bx5.frozen 1
    have f2 := bx5.frozen 2
    go_enter Tryz.func38, Tryz.ntmps38
    go_wp2
    rw [← HW.out]
    refine wp_region_held_drew (S := fun X => Below w.heap.size w X ∧ Box X w.heap.size (.cells #[.int .i64 r, .int .i64 n, .slice none 0 0] 26 (0, 0))) (by kernel_rfl) hS0 (fun hHeld => ?_)
    refine wpAnyH_take (i := 0) (v := ?v15) rfl (by kernel_rfl) (by kernel_rfl) (by kernel_rfl) (fun _ _ _ h => h) (Or.inl ⟨by rfl, ?hy15⟩) (by assumption) ?rest15
    case hy15 => intro X hX; (try dsimp only at hX); go_simp <;> with_reducible rfl
    try simp only [List.getElem_toArray, List.getElem_cons_zero, Act.put, List.setIfInBounds_toArray, List.set_cons_zero, List.set_cons_succ]
    refine wpAnyH_take (i := 1) (v := ?v16) rfl (by kernel_rfl) (by kernel_rfl) (by kernel_rfl) (fun _ _ _ h => h) (Or.inl ⟨by rfl, ?hy16⟩) (by assumption) ?rest16
    case hy16 => intro X hX; (try dsimp only at hX); obtain ⟨q1, q2, q3⟩ := hX.2.cells; go_simp <;> with_reducible rfl
    try simp only [List.getElem_toArray, List.getElem_cons_succ, List.getElem_cons_zero, Act.put, List.setIfInBounds_toArray, List.set_cons_zero, List.set_cons_succ]
    refine wpAnyH_take (i := 2) (v := ?v17) rfl (by kernel_rfl) (by kernel_rfl) (by kernel_rfl) (fun _ _ _ h => h) (Or.inl ⟨by rfl, ?hy17⟩) (by assumption) ?rest17
    case hy17 => intro X hX; (try dsimp only at hX); go_simp <;> with_reducible rfl
    try simp only [List.getElem_toArray, List.getElem_cons_succ, List.getElem_cons_zero, Act.put, List.setIfInBounds_toArray, List.set_cons_zero, List.set_cons_succ]
    refine wpAnyH_take (i := 3) (v := ?v18) rfl (by kernel_rfl) (by kernel_rfl) (by kernel_rfl) (fun _ _ _ h => h) (Or.inl ⟨by rfl, ?hy18⟩) (by assumption) ?rest18
    case hy18 => intro X hX; (try dsimp only at hX); obtain ⟨q1, q2, q3⟩ := hX.2.cells; go_simp <;> with_reducible rfl
    try simp only [List.getElem_toArray, List.getElem_cons_succ, List.getElem_cons_zero, Act.put, List.setIfInBounds_toArray, List.set_cons_zero, List.set_cons_succ]
    refine wpAnyH_take (i := 5) (v := ?v19) rfl (by kernel_rfl) (by kernel_rfl) (by kernel_rfl) (fun _ _ _ h => h) (Or.inl ⟨by rfl, ?hy19⟩) (by assumption) ?rest19
    case hy19 => intro X hX; (try dsimp only at hX); go_simp <;> with_reducible rfl
    try simp only [List.getElem_toArray, List.getElem_cons_succ, List.getElem_cons_zero, Act.put, List.setIfInBounds_toArray, List.set_cons_zero, List.set_cons_succ]
    refine wpAnyH_take (i := 6) (v := ?v20) rfl (by kernel_rfl) (by kernel_rfl) (by kernel_rfl) (fun _ _ _ h => h) (Or.inl ⟨by rfl, ?hy20⟩) (by assumption) ?rest20
    case hy20 => intro X hX; (try dsimp only at hX); obtain ⟨q1, q2, q3⟩ := hX.2.cells; go_simp <;> with_reducible rfl
    try simp only [List.getElem_toArray, List.getElem_cons_succ, List.getElem_cons_zero, Act.put, List.setIfInBounds_toArray, List.set_cons_zero, List.set_cons_succ]
    refine wpAnyH_ready (rs := [4]) (by kernel_rfl) (by simp) ?_
    refine AllReadyH.cons rfl (fun K hK => ?_) AllReadyH.nil
    go_simp
    refine hK.out _ _ (⟨hHeld.1.alloc hHeld.1.size _, hHeld.2.keep ((Below.refl _ _).alloc (Nat.le_refl _) _)⟩) (fun hHeld2 => ?_)
    replace hHeld := hHeld2
    clear hHeld2 hK K
    try simp only [List.getElem_toArray, List.getElem_cons_succ, List.getElem_cons_zero, Act.put, List.setIfInBounds_toArray, List.set_cons_zero, List.set_cons_succ]
    refine wpAnyH_ready (rs := [7]) (by kernel_rfl) (by simp) ?_
    refine AllReadyH.cons rfl (fun K hK => ?_) AllReadyH.nil
    refine step_app_none elemE rfl (.tmp 7) (.tmp 9) rfl rfl hmade rfl ?_
    refine hK.out _ _ (hHeld) (fun hHeld2 => ?_)
    replace hHeld := hHeld2
    clear hHeld2 hK K
    try simp only [List.getElem_toArray, List.getElem_cons_succ, List.getElem_cons_zero, Act.put, List.setIfInBounds_toArray, List.set_cons_zero, List.set_cons_succ]
    refine wpAnyH_take (i := 8) (v := ?v21) rfl (by kernel_rfl) (by kernel_rfl) (by kernel_rfl) (fun _ _ _ h => h) (Or.inl ⟨by rfl, ?hy21⟩) (by assumption) ?rest21
    case hy21 => intro X hX; (try dsimp only at hX); go_simp <;> with_reducible rfl
    try simp only [List.getElem_toArray, List.getElem_cons_succ, List.getElem_cons_zero, Act.put, List.setIfInBounds_toArray, List.set_cons_zero, List.set_cons_succ]
    have hT : Below w.heap.size w ((((W.alloc (.cells #[] 28 (0, 0))).drew.setCell ⟨w.heap.size + 1, 0, none⟩ (.int .i64 r)).setCell ⟨w.heap.size + 1, 1, none⟩ (.int .i64 n)).setCell ⟨w.heap.size + 1, 2, none⟩ (.slice (some ⟨W.heap.size, 0, none⟩) 0 0)) ∧ Box ((((W.alloc (.cells #[] 28 (0, 0))).drew.setCell ⟨w.heap.size + 1, 0, none⟩ (.int .i64 r)).setCell ⟨w.heap.size + 1, 1, none⟩ (.int .i64 n)).setCell ⟨w.heap.size + 1, 2, none⟩ (.slice (some ⟨W.heap.size, 0, none⟩) 0 0)) w.heap.size (.cells #[.int .i64 r, .int .i64 n, .slice none 0 0] 26 (0, 0)) := ⟨((hHeld.1.setCell (by simp) _).setCell (by simp) _).setCell (by simp) _, ((hHeld.2.set_ _ _ (by simp)).set_ _ _ (by simp)).set_ _ _ (by simp)⟩
    have hO : ((((W.alloc (.cells #[] 28 (0, 0))).drew.setCell ⟨w.heap.size + 1, 0, none⟩ (.int .i64 r)).setCell ⟨w.heap.size + 1, 1, none⟩ (.int .i64 n)).setCell ⟨w.heap.size + 1, 2, none⟩ (.slice (some ⟨W.heap.size, 0, none⟩) 0 0)).ownsRow w.heap.size 28 3 (.slice (some ⟨W.heap.size, 0, none⟩) 0 0) 0 _ := ownsRow_same (ownsRow_base hmade hB.size) fun k hk => by
      cases hk
      rw [Below.heap_setCell _ _ _ _ (by have := HSZ.out; simp; omega), Below.heap_setCell _ _ _ _ (by have := HSZ.out; simp; omega), Below.heap_setCell _ _ _ _ (by have := HSZ.out; simp; omega)]
    refine wpAnyH_ready (rs := [9]) (by kernel_rfl) (by simp) ?_
    refine AllReadyH.cons rfl (fun K hK => ?_) AllReadyH.nil
    go_simp
    refine hK.out _ _ (hT) (fun hHeld2 => ?_)
    replace hHeld := hHeld2
    clear hHeld2 hK K
    try simp only [List.getElem_toArray, List.getElem_cons_succ, List.getElem_cons_zero, Act.put, List.setIfInBounds_toArray, List.set_cons_zero, List.set_cons_succ]
    refine wpAnyH_done (by kernel_rfl) ?_ _
    go_wp2
    exact bodyPost_ret (v := graphV r n (.slice (some ⟨W.heap.size, 0, none⟩) 0 0)) (by simp [results, Tryz.results38, go_sem, d0, d1, d2]) rfl ⟨_, rfl, ⟨_, _, rfl, hO, hr⟩, hT.1⟩
  | some ad =>
    have HW := Lib.hid hW
    clear hW
    have hnews := (hkeep.keep (hB.trans (hal.mono hB.size))).news
    clear hcell
    go_enter Tryz.func38, Tryz.ntmps38
    go_wp2
    rw [← HW.out]
    refine wp_region_held_drew (S := fun X => Below w.heap.size w X ∧ Box X w.heap.size (.cells #[.int .i64 r, .int .i64 n, .slice (some ad) l.length cap] 26 (0, 0))) (by kernel_rfl) hS0 (fun hHeld => ?_)
    refine wpAnyH_take (i := 0) (v := ?v1) rfl (by kernel_rfl) (by kernel_rfl) (by kernel_rfl) (fun _ _ _ h => h) (Or.inl ⟨by rfl, ?hy1⟩) (by assumption) ?rest1
    case hy1 => intro X hX; (try dsimp only at hX); go_simp <;> with_reducible rfl
    try simp only [List.getElem_toArray, List.getElem_cons_zero, Act.put, List.setIfInBounds_toArray, List.set_cons_zero, List.set_cons_succ]
    refine wpAnyH_take (i := 1) (v := ?v2) rfl (by kernel_rfl) (by kernel_rfl) (by kernel_rfl) (fun _ _ _ h => h) (Or.inl ⟨by rfl, ?hy2⟩) (by assumption) ?rest2
    case hy2 => intro X hX; (try dsimp only at hX); obtain ⟨q1, q2, q3⟩ := hX.2.cells; go_simp <;> with_reducible rfl
    try simp only [List.getElem_toArray, List.getElem_cons_succ, List.getElem_cons_zero, Act.put, List.setIfInBounds_toArray, List.set_cons_zero, List.set_cons_succ]
    refine wpAnyH_take (i := 2) (v := ?v3) rfl (by kernel_rfl) (by kernel_rfl) (by kernel_rfl) (fun _ _ _ h => h) (Or.inl ⟨by rfl, ?hy3⟩) (by assumption) ?rest3
    case hy3 => intro X hX; (try dsimp only at hX); go_simp <;> with_reducible rfl
    try simp only [List.getElem_toArray, List.getElem_cons_succ, List.getElem_cons_zero, Act.put, List.setIfInBounds_toArray, List.set_cons_zero, List.set_cons_succ]
    refine wpAnyH_take (i := 3) (v := ?v4) rfl (by kernel_rfl) (by kernel_rfl) (by kernel_rfl) (fun _ _ _ h => h) (Or.inl ⟨by rfl, ?hy4⟩) (by assumption) ?rest4
    case hy4 => intro X hX; (try dsimp only at hX); obtain ⟨q1, q2, q3⟩ := hX.2.cells; go_simp <;> with_reducible rfl
    try simp only [List.getElem_toArray, List.getElem_cons_succ, List.getElem_cons_zero, Act.put, List.setIfInBounds_toArray, List.set_cons_zero, List.set_cons_succ]
    refine wpAnyH_take (i := 5) (v := ?v5) rfl (by kernel_rfl) (by kernel_rfl) (by kernel_rfl) (fun _ _ _ h => h) (Or.inl ⟨by rfl, ?hy5⟩) (by assumption) ?rest5
    case hy5 => intro X hX; (try dsimp only at hX); go_simp <;> with_reducible rfl
    try simp only [List.getElem_toArray, List.getElem_cons_succ, List.getElem_cons_zero, Act.put, List.setIfInBounds_toArray, List.set_cons_zero, List.set_cons_succ]
    refine wpAnyH_take (i := 6) (v := ?v6) rfl (by kernel_rfl) (by kernel_rfl) (by kernel_rfl) (fun _ _ _ h => h) (Or.inl ⟨by rfl, ?hy6⟩) (by assumption) ?rest6
    case hy6 => intro X hX; (try dsimp only at hX); obtain ⟨q1, q2, q3⟩ := hX.2.cells; go_simp <;> with_reducible rfl
    try simp only [List.getElem_toArray, List.getElem_cons_succ, List.getElem_cons_zero, Act.put, List.setIfInBounds_toArray, List.set_cons_zero, List.set_cons_succ]
    refine wpAnyH_ready (rs := [4]) (by kernel_rfl) (by simp) ?_
    refine AllReadyH.cons rfl (fun K hK => ?_) AllReadyH.nil
    go_simp
    refine hK.out _ _ (⟨hHeld.1.alloc hHeld.1.size _, hHeld.2.keep ((Below.refl _ _).alloc (Nat.le_refl _) _)⟩) (fun hHeld2 => ?_)
    replace hHeld := hHeld2
    clear hHeld2 hK K
    try simp only [List.getElem_toArray, List.getElem_cons_succ, List.getElem_cons_zero, Act.put, List.setIfInBounds_toArray, List.set_cons_zero, List.set_cons_succ]
    refine wpAnyH_ready (rs := [7]) (by kernel_rfl) (by simp) ?_
    refine AllReadyH.cons rfl (fun K hK => ?_) AllReadyH.nil
    refine step_app elemE rfl (.tmp 7) (.tmp 9) rfl rfl hmade rfl (by rw [edgesV_length]) hnews (edgesV_one l) (by omega) ?_
    intro g1 c1 w1 hown1 hgrow1 hat1
    refine hK.out _ _ (⟨below_grown hHeld.1 hgrow1 hHeld.1.size hB.size, hHeld.2.apart hgrow1 (by have := HSZ.out; omega)⟩) (fun hHeld2 => ?_)
    replace hHeld := hHeld2
    clear hHeld2 hK K
    try simp only [List.getElem_toArray, List.getElem_cons_succ, List.getElem_cons_zero, Act.put, List.setIfInBounds_toArray, List.set_cons_zero, List.set_cons_succ]
    refine wpAnyH_take (i := 8) (v := ?v7) rfl (by kernel_rfl) (by kernel_rfl) (by kernel_rfl) (fun _ _ _ h => h) (Or.inl ⟨by rfl, ?hy7⟩) (by assumption) ?rest7
    case hy7 => intro X hX; (try dsimp only at hX); go_simp <;> with_reducible rfl
    try simp only [List.getElem_toArray, List.getElem_cons_succ, List.getElem_cons_zero, Act.put, List.setIfInBounds_toArray, List.set_cons_zero, List.set_cons_succ]
    simp only [Nat.zero_add, List.nil_append] at hown1
    have bx4 := bx3.apart hgrow1 (by have := HSZ.out; omega)
    obtain ⟨x0, x1, x2⟩ := bx4.cells
    have f0 := bx4.frozen 0
    have f1 := bx4.frozen 1
    have f2 := bx4.frozen 2
    have hT : Below w.heap.size w (((w1.setCell ⟨w.heap.size + 1, 0, none⟩ (.int .i64 r)).setCell ⟨w.heap.size + 1, 1, none⟩ (.int .i64 n)).setCell ⟨w.heap.size + 1, 2, none⟩ (.slice (some ⟨g1, 0, none⟩) l.length c1)) ∧ Box (((w1.setCell ⟨w.heap.size + 1, 0, none⟩ (.int .i64 r)).setCell ⟨w.heap.size + 1, 1, none⟩ (.int .i64 n)).setCell ⟨w.heap.size + 1, 2, none⟩ (.slice (some ⟨g1, 0, none⟩) l.length c1)) w.heap.size (.cells #[.int .i64 r, .int .i64 n, .slice (some ad) l.length cap] 26 (0, 0)) := ⟨((hHeld.1.setCell (by simp) _).setCell (by simp) _).setCell (by simp) _, ((hHeld.2.set_ _ _ (by simp)).set_ _ _ (by simp)).set_ _ _ (by simp)⟩
    have hO : (((w1.setCell ⟨w.heap.size + 1, 0, none⟩ (.int .i64 r)).setCell ⟨w.heap.size + 1, 1, none⟩ (.int .i64 n)).setCell ⟨w.heap.size + 1, 2, none⟩ (.slice (some ⟨g1, 0, none⟩) l.length c1)).ownsRow w.heap.size 28 3 (.slice (some ⟨g1, 0, none⟩) l.length c1) l.length _ := ownsRow_same (ownsRow_base hown1 hB.size) fun k hk => by
      cases hk
      rw [Below.heap_setCell _ _ _ _ (by have := HSZ.out; have := (ownsRow_parts hown1).1; simp; omega), Below.heap_setCell _ _ _ _ (by have := HSZ.out; have := (ownsRow_parts hown1).1; simp; omega), Below.heap_setCell _ _ _ _ (by have := HSZ.out; have := (ownsRow_parts hown1).1; simp; omega)]
    refine wpAnyH_ready (rs := [9]) (by kernel_rfl) (by simp) ?_
    refine AllReadyH.cons rfl (fun K hK => ?_) AllReadyH.nil
    go_simp
    refine hK.out _ _ (hT) (fun hHeld2 => ?_)
    replace hHeld := hHeld2
    clear hHeld2 hK K
    try simp only [List.getElem_toArray, List.getElem_cons_succ, List.getElem_cons_zero, Act.put, List.setIfInBounds_toArray, List.set_cons_zero, List.set_cons_succ]
    refine wpAnyH_done (by kernel_rfl) ?_ _
    go_wp2
    exact bodyPost_ret (v := graphV r n (.slice (some ⟨g1, 0, none⟩) l.length c1)) (by simp [results, Tryz.results38, go_sem, x0, x1, x2]) rfl ⟨_, rfl, ⟨_, _, rfl, hO, hr⟩, hT.1⟩
set_option maxHeartbeats 1600000 in
theorem l4Copy_any (r n : Int) (v : Value) (l : List Ed) (w : World) (h : Edges w v l) (hk : NilOk v) (hn : l.length ≤ 1048576) :
    Calls Tryz.prog 42 #[graphV r n v] w (RetG w r n l) := by
  have hkeep := h
  obtain ⟨A, cap, rfl, hc, hr, hcell⟩ := h
  obtain ⟨W, hW⟩ : ∃ W, W = ((w.alloc (.cells #[.int .i64 r, .int .i64 n, .slice A l.length cap] 26 (0, 0))).alloc (.cells #[.int .i64 0, .int .i64 0, .slice none 0 0] 26 (0, 0))) := ⟨_, rfl⟩
  have hB : Below w.heap.size w W := by rw [hW]; exact ((Below.refl _ _).alloc (Nat.le_refl _) _).alloc (by simp) _
  have bx1 : Box W w.heap.size (.cells #[.int .i64 r, .int .i64 n, .slice A l.length cap] 26 (0, 0)) := by rw [hW]; exact Box.first _ _ _
  have bx2 : Box W (w.heap.size + 1) (.cells #[.int .i64 0, .int .i64 0, .slice none 0 0] 26 (0, 0)) := by rw [hW]; exact Box.two _ _ _
  have hsz : W.heap.size = w.heap.size + 2 := by rw [hW]; simp
  have HSZ := Lib.hid hsz
  clear hsz
  have hd := (Below.refl W.heap.size W).drew
  have hal := ((Below.refl W.heap.size W).alloc (Nat.le_refl _) (.cells #[] 28 (0, 0))).drew
  have bx3 := bx2.keep hal
  have hmade : (W.alloc (.cells #[] 28 (0, 0))).drew.ownsRow W.heap.size 28 3 (.slice (some ⟨W.heap.size, 0, none⟩) 0 0) 0 [] := (World.ownsRow_made _ _ _ (Nat.le_refl _) (by decide) rfl).drew
  have hS0 : Below w.heap.size w W.drew ∧ Box W.drew w.heap.size (.cells #[.int .i64 r, .int .i64 n, .slice A l.length cap] 26 (0, 0)) := ⟨hB.drew, bx1.keep hd⟩
  cases A with
  | none =>
    have hl : l = [] := by
      cases l with
      | nil => rfl
      | cons e l => obtain ⟨b, off, h, _⟩ := hcell (by simp); cases h
    subst hl
    obtain rfl : cap = 0 := hk _ _ rfl
    clear hcell hkeep
    simp only [List.length_nil] at hS0 hW
    have HW := Lib.hid hW
    clear hW
    have bx5 := bx2.keep ((Below.refl W.heap.size W).alloc (Nat.le_refl _) (.cells #[] 28 (0, 0)))
    obtain ⟨d0, d1, d2⟩ := bx5.cells
    have f0 := bx5.frozen 0
    have f1 := bx5.frozen 1
    have f2 := bx5.frozen 2
    go_enter Tryz.func42, Tryz.ntmps42
    go_wp2
    rw [← HW.out]
    refine wp_region_held_drew (S := fun X => Below w.heap.size w X ∧ Box X w.heap.size (.cells #[.int .i64 r, .int .i64 n, .slice none 0 0] 26 (0, 0))) (by kernel_rfl) hS0 (fun hHeld => ?_)
    refine wpAnyH_take (i := 0) (v := ?v22) rfl (by kernel_rfl) (by kernel_rfl) (by kernel_rfl) (fun _ _ _ h => h) (Or.inl ⟨by rfl, ?hy22⟩) (by assumption) ?rest22
    case hy22 => intro X hX; (try dsimp only at hX); go_simp <;> with_reducible rfl
    try simp only [List.getElem_toArray, List.getElem_cons_zero, Act.put, List.setIfInBounds_toArray, List.set_cons_zero, List.set_cons_succ]
    refine wpAnyH_take (i := 1) (v := ?v23) rfl (by kernel_rfl) (by kernel_rfl) (by kernel_rfl) (fun _ _ _ h => h) (Or.inl ⟨by rfl, ?hy23⟩) (by assumption) ?rest23
    case hy23 => intro X hX; (try dsimp only at hX); obtain ⟨q1, q2, q3⟩ := hX.2.cells; go_simp <;> with_reducible rfl
    try simp only [List.getElem_toArray, List.getElem_cons_succ, List.getElem_cons_zero, Act.put, List.setIfInBounds_toArray, List.set_cons_zero, List.set_cons_succ]
    refine wpAnyH_take (i := 2) (v := ?v24) rfl (by kernel_rfl) (by kernel_rfl) (by kernel_rfl) (fun _ _ _ h => h) (Or.inl ⟨by rfl, ?hy24⟩) (by assumption) ?rest24
    case hy24 => intro X hX; (try dsimp only at hX); go_simp <;> with_reducible rfl
    try simp only [List.getElem_toArray, List.getElem_cons_succ, List.getElem_cons_zero, Act.put, List.setIfInBounds_toArray, List.set_cons_zero, List.set_cons_succ]
    refine wpAnyH_take (i := 3) (v := ?v25) rfl (by kernel_rfl) (by kernel_rfl) (by kernel_rfl) (fun _ _ _ h => h) (Or.inl ⟨by rfl, ?hy25⟩) (by assumption) ?rest25
    case hy25 => intro X hX; (try dsimp only at hX); obtain ⟨q1, q2, q3⟩ := hX.2.cells; go_simp <;> with_reducible rfl
    try simp only [List.getElem_toArray, List.getElem_cons_succ, List.getElem_cons_zero, Act.put, List.setIfInBounds_toArray, List.set_cons_zero, List.set_cons_succ]
    refine wpAnyH_take (i := 5) (v := ?v26) rfl (by kernel_rfl) (by kernel_rfl) (by kernel_rfl) (fun _ _ _ h => h) (Or.inl ⟨by rfl, ?hy26⟩) (by assumption) ?rest26
    case hy26 => intro X hX; (try dsimp only at hX); go_simp <;> with_reducible rfl
    try simp only [List.getElem_toArray, List.getElem_cons_succ, List.getElem_cons_zero, Act.put, List.setIfInBounds_toArray, List.set_cons_zero, List.set_cons_succ]
    refine wpAnyH_take (i := 6) (v := ?v27) rfl (by kernel_rfl) (by kernel_rfl) (by kernel_rfl) (fun _ _ _ h => h) (Or.inl ⟨by rfl, ?hy27⟩) (by assumption) ?rest27
    case hy27 => intro X hX; (try dsimp only at hX); obtain ⟨q1, q2, q3⟩ := hX.2.cells; go_simp <;> with_reducible rfl
    try simp only [List.getElem_toArray, List.getElem_cons_succ, List.getElem_cons_zero, Act.put, List.setIfInBounds_toArray, List.set_cons_zero, List.set_cons_succ]
    refine wpAnyH_ready (rs := [4]) (by kernel_rfl) (by simp) ?_
    refine AllReadyH.cons rfl (fun K hK => ?_) AllReadyH.nil
    go_simp
    refine hK.out _ _ (⟨hHeld.1.alloc hHeld.1.size _, hHeld.2.keep ((Below.refl _ _).alloc (Nat.le_refl _) _)⟩) (fun hHeld2 => ?_)
    replace hHeld := hHeld2
    clear hHeld2 hK K
    try simp only [List.getElem_toArray, List.getElem_cons_succ, List.getElem_cons_zero, Act.put, List.setIfInBounds_toArray, List.set_cons_zero, List.set_cons_succ]
    refine wpAnyH_ready (rs := [7]) (by kernel_rfl) (by simp) ?_
    refine AllReadyH.cons rfl (fun K hK => ?_) AllReadyH.nil
    refine step_app_none elemE rfl (.tmp 7) (.tmp 9) rfl rfl hmade rfl ?_
    refine hK.out _ _ (hHeld) (fun hHeld2 => ?_)
    replace hHeld := hHeld2
    clear hHeld2 hK K
    try simp only [List.getElem_toArray, List.getElem_cons_succ, List.getElem_cons_zero, Act.put, List.setIfInBounds_toArray, List.set_cons_zero, List.set_cons_succ]
    refine wpAnyH_take (i := 8) (v := ?v28) rfl (by kernel_rfl) (by kernel_rfl) (by kernel_rfl) (fun _ _ _ h => h) (Or.inl ⟨by rfl, ?hy28⟩) (by assumption) ?rest28
    case hy28 => intro X hX; (try dsimp only at hX); go_simp <;> with_reducible rfl
    try simp only [List.getElem_toArray, List.getElem_cons_succ, List.getElem_cons_zero, Act.put, List.setIfInBounds_toArray, List.set_cons_zero, List.set_cons_succ]
    have hT : Below w.heap.size w ((((W.alloc (.cells #[] 28 (0, 0))).drew.setCell ⟨w.heap.size + 1, 0, none⟩ (.int .i64 r)).setCell ⟨w.heap.size + 1, 1, none⟩ (.int .i64 n)).setCell ⟨w.heap.size + 1, 2, none⟩ (.slice (some ⟨W.heap.size, 0, none⟩) 0 0)) ∧ Box ((((W.alloc (.cells #[] 28 (0, 0))).drew.setCell ⟨w.heap.size + 1, 0, none⟩ (.int .i64 r)).setCell ⟨w.heap.size + 1, 1, none⟩ (.int .i64 n)).setCell ⟨w.heap.size + 1, 2, none⟩ (.slice (some ⟨W.heap.size, 0, none⟩) 0 0)) w.heap.size (.cells #[.int .i64 r, .int .i64 n, .slice none 0 0] 26 (0, 0)) := ⟨((hHeld.1.setCell (by simp) _).setCell (by simp) _).setCell (by simp) _, ((hHeld.2.set_ _ _ (by simp)).set_ _ _ (by simp)).set_ _ _ (by simp)⟩
    have hO : ((((W.alloc (.cells #[] 28 (0, 0))).drew.setCell ⟨w.heap.size + 1, 0, none⟩ (.int .i64 r)).setCell ⟨w.heap.size + 1, 1, none⟩ (.int .i64 n)).setCell ⟨w.heap.size + 1, 2, none⟩ (.slice (some ⟨W.heap.size, 0, none⟩) 0 0)).ownsRow w.heap.size 28 3 (.slice (some ⟨W.heap.size, 0, none⟩) 0 0) 0 _ := ownsRow_same (ownsRow_base hmade hB.size) fun k hk => by
      cases hk
      rw [Below.heap_setCell _ _ _ _ (by have := HSZ.out; simp; omega), Below.heap_setCell _ _ _ _ (by have := HSZ.out; simp; omega), Below.heap_setCell _ _ _ _ (by have := HSZ.out; simp; omega)]
    refine wpAnyH_ready (rs := [9]) (by kernel_rfl) (by simp) ?_
    refine AllReadyH.cons rfl (fun K hK => ?_) AllReadyH.nil
    go_simp
    refine hK.out _ _ (hT) (fun hHeld2 => ?_)
    replace hHeld := hHeld2
    clear hHeld2 hK K
    try simp only [List.getElem_toArray, List.getElem_cons_succ, List.getElem_cons_zero, Act.put, List.setIfInBounds_toArray, List.set_cons_zero, List.set_cons_succ]
    refine wpAnyH_done (by kernel_rfl) ?_ _
    go_wp2
    exact bodyPost_ret (v := graphV r n (.slice (some ⟨W.heap.size, 0, none⟩) 0 0)) (by simp [results, Tryz.results42, go_sem, d0, d1, d2]) rfl ⟨_, rfl, ⟨_, _, rfl, hO, hr⟩, hT.1⟩
  | some ad =>
    have HW := Lib.hid hW
    clear hW
    have hnews := (hkeep.keep (hB.trans (hal.mono hB.size))).news
    clear hcell
    go_enter Tryz.func42, Tryz.ntmps42
    go_wp2
    rw [← HW.out]
    refine wp_region_held_drew (S := fun X => Below w.heap.size w X ∧ Box X w.heap.size (.cells #[.int .i64 r, .int .i64 n, .slice (some ad) l.length cap] 26 (0, 0))) (by kernel_rfl) hS0 (fun hHeld => ?_)
    refine wpAnyH_take (i := 0) (v := ?v8) rfl (by kernel_rfl) (by kernel_rfl) (by kernel_rfl) (fun _ _ _ h => h) (Or.inl ⟨by rfl, ?hy8⟩) (by assumption) ?rest8
    case hy8 => intro X hX; (try dsimp only at hX); go_simp <;> with_reducible rfl
    try simp only [List.getElem_toArray, List.getElem_cons_zero, Act.put, List.setIfInBounds_toArray, List.set_cons_zero, List.set_cons_succ]
    refine wpAnyH_take (i := 1) (v := ?v9) rfl (by kernel_rfl) (by kernel_rfl) (by kernel_rfl) (fun _ _ _ h => h) (Or.inl ⟨by rfl, ?hy9⟩) (by assumption) ?rest9
    case hy9 => intro X hX; (try dsimp only at hX); obtain ⟨q1, q2, q3⟩ := hX.2.cells; go_simp <;> with_reducible rfl
    try simp only [List.getElem_toArray, List.getElem_cons_succ, List.getElem_cons_zero, Act.put, List.setIfInBounds_toArray, List.set_cons_zero, List.set_cons_succ]
    refine wpAnyH_take (i := 2) (v := ?v10) rfl (by kernel_rfl) (by kernel_rfl) (by kernel_rfl) (fun _ _ _ h => h) (Or.inl ⟨by rfl, ?hy10⟩) (by assumption) ?rest10
    case hy10 => intro X hX; (try dsimp only at hX); go_simp <;> with_reducible rfl
    try simp only [List.getElem_toArray, List.getElem_cons_succ, List.getElem_cons_zero, Act.put, List.setIfInBounds_toArray, List.set_cons_zero, List.set_cons_succ]
    refine wpAnyH_take (i := 3) (v := ?v11) rfl (by kernel_rfl) (by kernel_rfl) (by kernel_rfl) (fun _ _ _ h => h) (Or.inl ⟨by rfl, ?hy11⟩) (by assumption) ?rest11
    case hy11 => intro X hX; (try dsimp only at hX); obtain ⟨q1, q2, q3⟩ := hX.2.cells; go_simp <;> with_reducible rfl
    try simp only [List.getElem_toArray, List.getElem_cons_succ, List.getElem_cons_zero, Act.put, List.setIfInBounds_toArray, List.set_cons_zero, List.set_cons_succ]
    refine wpAnyH_take (i := 5) (v := ?v12) rfl (by kernel_rfl) (by kernel_rfl) (by kernel_rfl) (fun _ _ _ h => h) (Or.inl ⟨by rfl, ?hy12⟩) (by assumption) ?rest12
    case hy12 => intro X hX; (try dsimp only at hX); go_simp <;> with_reducible rfl
    try simp only [List.getElem_toArray, List.getElem_cons_succ, List.getElem_cons_zero, Act.put, List.setIfInBounds_toArray, List.set_cons_zero, List.set_cons_succ]
    refine wpAnyH_take (i := 6) (v := ?v13) rfl (by kernel_rfl) (by kernel_rfl) (by kernel_rfl) (fun _ _ _ h => h) (Or.inl ⟨by rfl, ?hy13⟩) (by assumption) ?rest13
    case hy13 => intro X hX; (try dsimp only at hX); obtain ⟨q1, q2, q3⟩ := hX.2.cells; go_simp <;> with_reducible rfl
    try simp only [List.getElem_toArray, List.getElem_cons_succ, List.getElem_cons_zero, Act.put, List.setIfInBounds_toArray, List.set_cons_zero, List.set_cons_succ]
    refine wpAnyH_ready (rs := [4]) (by kernel_rfl) (by simp) ?_
    refine AllReadyH.cons rfl (fun K hK => ?_) AllReadyH.nil
    go_simp
    refine hK.out _ _ (⟨hHeld.1.alloc hHeld.1.size _, hHeld.2.keep ((Below.refl _ _).alloc (Nat.le_refl _) _)⟩) (fun hHeld2 => ?_)
    replace hHeld := hHeld2
    clear hHeld2 hK K
    try simp only [List.getElem_toArray, List.getElem_cons_succ, List.getElem_cons_zero, Act.put, List.setIfInBounds_toArray, List.set_cons_zero, List.set_cons_succ]
    refine wpAnyH_ready (rs := [7]) (by kernel_rfl) (by simp) ?_
    refine AllReadyH.cons rfl (fun K hK => ?_) AllReadyH.nil
    refine step_app elemE rfl (.tmp 7) (.tmp 9) rfl rfl hmade rfl (by rw [edgesV_length]) hnews (edgesV_one l) (by omega) ?_
    intro g1 c1 w1 hown1 hgrow1 hat1
    refine hK.out _ _ (⟨below_grown hHeld.1 hgrow1 hHeld.1.size hB.size, hHeld.2.apart hgrow1 (by have := HSZ.out; omega)⟩) (fun hHeld2 => ?_)
    replace hHeld := hHeld2
    clear hHeld2 hK K
    try simp only [List.getElem_toArray, List.getElem_cons_succ, List.getElem_cons_zero, Act.put, List.setIfInBounds_toArray, List.set_cons_zero, List.set_cons_succ]
    refine wpAnyH_take (i := 8) (v := ?v14) rfl (by kernel_rfl) (by kernel_rfl) (by kernel_rfl) (fun _ _ _ h => h) (Or.inl ⟨by rfl, ?hy14⟩) (by assumption) ?rest14
    case hy14 => intro X hX; (try dsimp only at hX); go_simp <;> with_reducible rfl
    try simp only [List.getElem_toArray, List.getElem_cons_succ, List.getElem_cons_zero, Act.put, List.setIfInBounds_toArray, List.set_cons_zero, List.set_cons_succ]
    simp only [Nat.zero_add, List.nil_append] at hown1
    have bx4 := bx3.apart hgrow1 (by have := HSZ.out; omega)
    obtain ⟨x0, x1, x2⟩ := bx4.cells
    have f0 := bx4.frozen 0
    have f1 := bx4.frozen 1
    have f2 := bx4.frozen 2
    have hT : Below w.heap.size w (((w1.setCell ⟨w.heap.size + 1, 0, none⟩ (.int .i64 r)).setCell ⟨w.heap.size + 1, 1, none⟩ (.int .i64 n)).setCell ⟨w.heap.size + 1, 2, none⟩ (.slice (some ⟨g1, 0, none⟩) l.length c1)) ∧ Box (((w1.setCell ⟨w.heap.size + 1, 0, none⟩ (.int .i64 r)).setCell ⟨w.heap.size + 1, 1, none⟩ (.int .i64 n)).setCell ⟨w.heap.size + 1, 2, none⟩ (.slice (some ⟨g1, 0, none⟩) l.length c1)) w.heap.size (.cells #[.int .i64 r, .int .i64 n, .slice (some ad) l.length cap] 26 (0, 0)) := ⟨((hHeld.1.setCell (by simp) _).setCell (by simp) _).setCell (by simp) _, ((hHeld.2.set_ _ _ (by simp)).set_ _ _ (by simp)).set_ _ _ (by simp)⟩
    have hO : (((w1.setCell ⟨w.heap.size + 1, 0, none⟩ (.int .i64 r)).setCell ⟨w.heap.size + 1, 1, none⟩ (.int .i64 n)).setCell ⟨w.heap.size + 1, 2, none⟩ (.slice (some ⟨g1, 0, none⟩) l.length c1)).ownsRow w.heap.size 28 3 (.slice (some ⟨g1, 0, none⟩) l.length c1) l.length _ := ownsRow_same (ownsRow_base hown1 hB.size) fun k hk => by
      cases hk
      rw [Below.heap_setCell _ _ _ _ (by have := HSZ.out; have := (ownsRow_parts hown1).1; simp; omega), Below.heap_setCell _ _ _ _ (by have := HSZ.out; have := (ownsRow_parts hown1).1; simp; omega), Below.heap_setCell _ _ _ _ (by have := HSZ.out; have := (ownsRow_parts hown1).1; simp; omega)]
    refine wpAnyH_ready (rs := [9]) (by kernel_rfl) (by simp) ?_
    refine AllReadyH.cons rfl (fun K hK => ?_) AllReadyH.nil
    go_simp
    refine hK.out _ _ (hT) (fun hHeld2 => ?_)
    replace hHeld := hHeld2
    clear hHeld2 hK K
    try simp only [List.getElem_toArray, List.getElem_cons_succ, List.getElem_cons_zero, Act.put, List.setIfInBounds_toArray, List.set_cons_zero, List.set_cons_succ]
    refine wpAnyH_done (by kernel_rfl) ?_ _
    go_wp2
    exact bodyPost_ret (v := graphV r n (.slice (some ⟨g1, 0, none⟩) l.length c1)) (by simp [results, Tryz.results42, go_sem, x0, x1, x2]) rfl ⟨_, rfl, ⟨_, _, rfl, hO, hr⟩, hT.1⟩
end Go.Proofs.YtpebiacdkfpnpaaGreat
