/- Contracts of the references' draws for the law on graphs. Conditions: codes of at most 2^20 bytes. Contracts of DrawCompareEdges, DrawAddEdge. Conditions: codes of at most 2^20 bytes. Contracts of DrawAddEdge, DrawEqualGraphs. Conditions: codes of at most 2^20 bytes. -/
import Derived.Test.YtpebiacdkfpnpaaGreatDrawH
namespace Go.Proofs.YtpebiacdkfpnpaaGreat
open Go.RowKit

theorem Cur.push2 {w w' : World} {k j n : Nat} {A : Option Addr} {len : Nat} (h : Cur w k A len) (hg : w.grownBy w' (some j)) (hk : k ≠ j) (hA : CodeLt A len n) (hj : n ≤ j) : Cur w' k A len := by
  have hkl := h.lt
  obtain ⟨cap, i, hh, h1, h2, h3, h4⟩ := h
  refine ⟨cap, i, hh, (hg.block k hkl (by simp; omega)).trans h1, h2, h3, fun h0 => ?_⟩
  obtain ⟨b, off, e, hn, hb, hc⟩ := h4 h0
  obtain ⟨b', off', e', hb'⟩ := hA h0
  rw [e] at e'
  simp only [Option.some.injEq, Addr.mk.injEq] at e'
  obtain ⟨rfl, rfl, _⟩ := e'
  refine ⟨b, off, e, hn, Nat.lt_of_lt_of_le hb hg.size, fun m hm => ?_⟩
  obtain ⟨x, hx, h9⟩ := hc m hm
  exact ⟨x, hx, (World.cell?_of_block (a := ⟨b, off + m, none⟩) (hg.block b hb (by simp; omega))).trans h9⟩
theorem CodeArg.lt {w : World} {A : Option Addr} {len : Nat} (h : CodeArg w A len) : CodeLt A len w.heap.size := fun h0 => by
  obtain ⟨b, off, e, hb, _⟩ := h h0
  exact ⟨b, off, e, hb⟩
theorem below_turn {w w1 w2 : World} {k : Nat} (h : Below w.heap.size w w1) (hg : w1.grownBy w2 (some k)) (hk : w.heap.size ≤ k) : Below w.heap.size w w2 := h.grown hg h.size fun j hj => by cases hj; exact hk
theorem fmtI_short {x : Int} (h : -100 < x ∧ x < 100) : (fmtI x).length ≤ 3 := by
  have h2 := dig_length 2 x.natAbs (by have : (10 : Nat) ^ 2 = 100 := by decide
                                       omega)
  unfold fmtI
  split
  · simp
  · split
    · simp; omega
    · omega
theorem edTxt_short {e : Ed} (h : SmE e) : (edTxt e).length ≤ 8 := by
  unfold SmE at h
  have h1 := fmtI_short (x := e.1) (by omega)
  have h2 := fmtI_short (x := e.2.2) (by omega)
  simp only [edTxt, List.length_append, List.length_singleton]; omega
theorem flat_short : ∀ {l : List Ed}, (∀ u ∈ l, SmE u) → (l.flatMap edTxt).length ≤ 8 * l.length
  | [], _ => by simp
  | e :: l, h => by
    have h1 := edTxt_short (h e (by simp))
    have h2 := flat_short (l := l) fun u hu => h u (by simp [hu])
    simp only [List.flatMap_cons, List.length_append, List.length_cons]; omega
theorem fmt_short {r n : Int} {l : List Ed} (h : GQ 9 r n l) : (fmtG r n l).length ≤ 150 := by
  obtain ⟨h1, h2, h3, h4⟩ := h
  cases hg : isG r n l with
  | false => rw [fmtG_no hg]; simp
  | true =>
    rw [fmtG_yes hg]
    have f1 := fmtI_short (x := r) (by omega)
    have f2 := fmtI_short (x := n) (by omega)
    have f3 := flat_short h4
    simp only [headG, List.length_append, List.length_singleton]; omega
/-- A drawn graph is handed back. -/
def RetGD (w : World) (e : Ending) (w' : World) : Prop := ∃ r n v l, e = .returned (graphV r n v) ∧ OwnN w' w.heap.size v l ∧ GQ 9 r n l ∧ Below w.heap.size w w'
/-- A drawn graph and a number. -/
def RetGD2 (w : World) (e : Ending) (w' : World) : Prop := ∃ r n v l x, e = .returned (.tuple #[graphV r n v, .int .i64 x]) ∧ OwnN w' w.heap.size v l ∧ GQ 9 r n l ∧ (0 ≤ x ∧ x ≤ 5) ∧ Below w.heap.size w w'
/-- A drawn graph, a vertex and a letter. -/
def RetGD3 (w : World) (e : Ending) (w' : World) : Prop := ∃ r n v l x y, e = .returned (.tuple #[graphV r n v, .int .i64 x, .int .i64 y]) ∧ OwnN w' w.heap.size v l ∧ GQ 9 r n l ∧ (0 ≤ x ∧ x ≤ 5) ∧ (-3 ≤ y ∧ y ≤ 3) ∧ Below w.heap.size w w'
/-- A drawn graph and an edge. -/
def RetGDE (w : World) (e : Ending) (w' : World) : Prop := ∃ r n v l a b c, e = .returned (.tuple #[graphV r n v, edgeV a b c]) ∧ OwnN w' w.heap.size v l ∧ GQ 9 r n l ∧ SmE (a, b, c) ∧ Below w.heap.size w w'
/-- Two drawn graphs. -/
def RetGDG (w : World) (e : Ending) (w' : World) : Prop := ∃ r n v l r2 n2 v2 l2, e = .returned (.tuple #[graphV r n v, graphV r2 n2 v2]) ∧ OwnN w' w.heap.size v l ∧ GQ 9 r n l ∧ OwnN w' w.heap.size v2 l2 ∧ GQ 9 r2 n2 l2 ∧ Below w.heap.size w w'
/-- Two drawn edges. -/
def RetEE (w : World) (e : Ending) (w' : World) : Prop := ∃ a b c a2 b2 c2, e = .returned (.tuple #[edgeV a b c, edgeV a2 b2 c2]) ∧ SmE (a, b, c) ∧ SmE (a2, b2, c2) ∧ Below w.heap.size w w'
def RetID (w : World) (e : Ending) (w' : World) : Prop := ∃ x, e = .returned (.int .i64 x) ∧ (-1 ≤ x ∧ x ≤ 4) ∧ Below w.heap.size w w'
def RetSD (w : World) (e : Ending) (w' : World) : Prop := ∃ s : ByteArray, e = .returned (.string s) ∧ s.size ≤ 1000 ∧ Below w.heap.size w w'
set_option maxHeartbeats 800000 in
theorem drawNewGraph_any (A : Option Addr) (len cap0 : Nat) (w : World) (h : CodeArg w A len) (hl : len ≤ 1048576) : Calls Tryz.prog 25 #[.slice A len cap0] w (RetID w) := by
  have HN := Lib.hid (l1New_any A len cap0 w h hl)
  clear h
  go_enter Tryz.func25, Tryz.ntmps25
  go_wp2_with fail
  refine (HN.out).mono ?_
  rintro e w1 ⟨k, rfl, hk, hc, hb⟩
  go_wp2_with fail
  refine (l1Below_small k A len 6 w1 hc (by decide) (by decide)).mono ?_
  rintro e w2 ⟨x, rfl, hx, hc2, hg⟩
  go_wp2
  go_ret
  exact ⟨(x : Int) - 1, by go_num, by omega, below_turn hb hg hk⟩
set_option maxHeartbeats 1600000 in
theorem drawAddVertex_any (A : Option Addr) (len cap0 : Nat) (w : World) (h : CodeArg w A len) (hl : len ≤ 1048576) : Calls Tryz.prog 20 #[.slice A len cap0] w (RetGD w) := by
  have bR : Box (w.alloc (Obj.cells #[.int .i64 0, .int .i64 0, .slice none 0 0] 26 (0, 0))) w.heap.size (Obj.cells #[.int .i64 0, .int .i64 0, .slice none 0 0] 26 (0, 0)) := Box.new _ _
  have hb1 : Below w.heap.size w (w.alloc (Obj.cells #[.int .i64 0, .int .i64 0, .slice none 0 0] 26 (0, 0))) := (Below.refl _ _).alloc (Nat.le_refl _) _
  have HN := Lib.hid (l1New_any A len cap0 _ (h.keep hb1) hl)
  clear h
  go_enter Tryz.func20, Tryz.ntmps20
  go_wp2_with fail
  refine (HN.out).mono ?_
  rintro e w1 ⟨k, rfl, hk, hc, hb⟩
  have hk1 : w.heap.size < k := by simp only [World.alloc, Array.size_push] at hk; omega
  have hB := hb1.trans (hb.mono hb1.size)
  replace bR := bR.keep hb
  have hlt := bR.lt
  clear HN hb1 hb hk
  go_wp2_with fail
  refine (l4Any_any k A len w1 hc).mono ?_
  rintro e w2 ⟨r, n, v, l, rfl, ho, hq, hc2, hg⟩
  obtain ⟨Ad, cap, rfl⟩ := ho.edges.form
  replace hB := below_turn hB hg (by omega)
  replace bR := bR.apart hg (by omega)
  have hlo := ho.lo
  have HQ := Lib.hid hq
  have HF := Lib.hid (own_fin (k := w.heap.size) (ho.base (B' := w.heap.size) (by omega)) hB (Nat.le_refl _) (fun j hj => by have := hlo j hj; omega) (.int .i64 r) (.int .i64 n) (.slice Ad l.length cap))
  obtain ⟨p1, p2, p3⟩ := bR.cells
  have f1 := Box.froz bR 0
  have f2 := Box.froz bR 1
  have f3 := Box.froz bR 2
  clear hq ho hB bR hc2 hg hlo hc
  go_wp2
  exact bodyPost_ret (v := graphV r n (.slice Ad l.length cap)) (by simp [results, Tryz.results20, go_sem, p1, p2, p3]) rfl ⟨_, _, _, _, rfl, HF.out.1, HQ.out, HF.out.2⟩
set_option maxRecDepth 20000 in
set_option maxHeartbeats 3200000 in
theorem drawParseGraph_any (A : Option Addr) (len cap0 : Nat) (w : World) (h : CodeArg w A len) (hl : len ≤ 1048576) : Calls Tryz.prog 14 #[.slice A len cap0] w (RetSD w) := by
  have HN := Lib.hid (l1New_any A len cap0 w h hl)
  clear h
  go_enter Tryz.func14, Tryz.ntmps14
  go_wp2_with fail
  refine (HN.out).mono ?_
  rintro e w1 ⟨k, rfl, hk, hc, hB⟩
  go_wp2_with fail
  refine (l4Any_any k A len w1 hc).mono ?_
  rintro e w2 ⟨r, n, v, l, rfl, ho, hq, hc2, hg⟩
  obtain ⟨Ad, cap, rfl⟩ := id ho.edges.form
  replace hB := below_turn hB hg hk
  have hfl := fmt_short hq
  obtain ⟨F, hF⟩ : ∃ z, z = fmtG r n l := ⟨_, rfl⟩
  have hfm := formatGraphS_any r n _ l w2 ho.edges (by have := hq.2.2.1; omega)
  rw [← hF] at hfm hfl
  have HFM := Lib.hid hfm
  clear hfm hq ho hg hc hF
  go_wp2_with fail
  refine (HFM.out).mono ?_
  rintro e w3 ⟨rfl, hb⟩
  replace hB := hB.trans (hb.mono hB.size)
  replace hc2 := hc2.keep hb
  clear hb HFM
  go_wp2_with fail
  refine (l1Below_small k A len 4 w3 hc2 (by decide) (by decide)).mono ?_
  rintro e w4 ⟨t, rfl, ht, hc4, hg⟩
  replace hB := below_turn hB hg hk
  clear hg hc2
  by_cases t0 : t = 0
  · subst t0
    go_wp2_with fail
    refine (l1Spoil_any k A len 150 _ w4 hc4 (by show F.toArray.size ≤ _; simpa using hfl) (by decide)).mono ?_
    rintro e w5 ⟨s, rfl, hs, _, hg⟩
    go_wp2
    go_ret
    exact ⟨s, rfl, by omega, below_turn hB hg hk⟩
  by_cases t1 : t = 1
  · subst t1
    have hlk := hc4.lt
    obtain ⟨LS, hLS⟩ : ∃ z : Array Value, z = #[.string ⟨#[]⟩, .string ⟨#[50, 32, 49]⟩, .string ⟨#[50]⟩, .string ⟨#[50, 32, 49, 32, 48, 97, 48]⟩, .string ⟨#[50, 32, 49, 32, 48, 97, 49]⟩, .string ⟨#[50, 32, 50, 32, 48, 97, 49, 32, 48, 97, 48]⟩, .string ⟨#[52, 32, 49]⟩, .string ⟨#[50, 32, 49, 32, 48, 100, 48]⟩, .string ⟨#[50, 32, 48, 49]⟩] := ⟨_, rfl⟩
    have hal : Below w4.heap.size w4 (w4.alloc (.cells LS 9 (0, 0))) := (Below.refl _ _).alloc (Nat.le_refl _) _
    have hcs : ∀ j, j < 9 → ∃ s : ByteArray, s.size ≤ 20 ∧ (w4.alloc (.cells LS 9 (0, 0))).cell? ⟨w4.heap.size, 0 + j, none⟩ = some (.string s) := fun j hj => by
      rw [Nat.zero_add, cell_of_row _ _ _ _ _ _ (heap_alloc_new w4 _), hLS]
      rcases (show j = 0 ∨ j = 1 ∨ j = 2 ∨ j = 3 ∨ j = 4 ∨ j = 5 ∨ j = 6 ∨ j = 7 ∨ j = 8 by omega) with rfl | rfl | rfl | rfl | rfl | rfl | rfl | rfl | rfl <;> exact ⟨_, by decide, rfl⟩
    have HPK := Lib.hid (l1Pick_any k A len 9 20 w4.heap.size _ (hc4.keep hal) (by omega) (by simp) hcs (by decide) (by decide))
    rw [hLS] at HPK hal
    clear hcs hLS
    go_wp2_with fail
    refine (HPK.out).mono ?_
    rintro e w5 ⟨s, rfl, hs, _, hg⟩
    go_wp2
    go_ret
    exact ⟨s, rfl, by omega, below_turn (hB.trans (hal.mono hB.size)) hg hk⟩
  have t0I : ¬ (t : Int) = 0 := by omega
  have t1I : ¬ (t : Int) = 1 := by omega
  go_wp2
  go_ret
  exact ⟨_, rfl, by show F.toArray.size ≤ _; simp; omega, hB⟩
set_option maxRecDepth 20000 in
set_option maxHeartbeats 1600000 in
theorem drawDegreeOf_any (A : Option Addr) (len cap0 : Nat) (w : World) (h : CodeArg w A len) (hl : len ≤ 1048576) : Calls Tryz.prog 23 #[.slice A len cap0] w (RetGD2 w) := by
  have bR : Box (w.alloc (Obj.cells #[.int .i64 0, .int .i64 0, .slice none 0 0] 26 (0, 0))) w.heap.size (Obj.cells #[.int .i64 0, .int .i64 0, .slice none 0 0] 26 (0, 0)) := Box.new _ _
  have hb1 : Below w.heap.size w (w.alloc (Obj.cells #[.int .i64 0, .int .i64 0, .slice none 0 0] 26 (0, 0))) := (Below.refl _ _).alloc (Nat.le_refl _) _
  have HN := Lib.hid (l1New_any A len cap0 _ (h.keep hb1) hl)
  clear h
  go_enter Tryz.func23, Tryz.ntmps23
  go_wp2_with fail
  refine (HN.out).mono ?_
  rintro e w1 ⟨k, rfl, hk0, hc, hb⟩
  have hk1 : w.heap.size < k := by simp only [World.alloc, Array.size_push] at hk0; omega
  have hk : w.heap.size ≤ k := by omega
  have hB := hb1.trans (hb.mono hb1.size)
  replace bR := bR.keep hb
  have hlt := bR.lt
  clear HN hb1 hb hk0
  go_wp2_with fail
  have hkc := hc.lt
  refine (l4Any_any k A len w1 hc).mono ?_
  rintro e w2 ⟨r, n, v, l, rfl, ho, hq, hcur, hg⟩
  obtain ⟨Ad, cap, rfl⟩ := id ho.edges.form
  replace hB := below_turn hB hg hk
  replace bR := bR.apart hg (by omega)
  have hkB : k < w1.heap.size := hkc
  have hlo := ho.lo
  have hhi := ho.hi
  have HQ := Lib.hid hq
  have hkR : w.heap.size ≠ k := by omega
  have hkG : w2.heap.size ≠ k := by have := hcur.lt; omega
  have hkF : w2.heap.size ≠ w.heap.size := by have := bR.lt; omega
  have bG := Box.new w2 (.cells #[.int .i64 r, .int .i64 n, .slice Ad l.length cap] 26 (0, 0))
  have hal : Below w2.heap.size w2 (w2.alloc (.cells #[.int .i64 r, .int .i64 n, .slice Ad l.length cap] 26 (0, 0))) := (Below.refl _ _).alloc (Nat.le_refl _) _
  replace bR := bR.keep hal
  replace ho := ho.keep hal
  replace hB := hB.trans (hal.mono hB.size)
  replace hcur := hcur.keep hal
  clear hq hg hc hal
  go_wp2
  refine wp_region_held_drew (S := fun X => Box X w2.heap.size (.cells #[.int .i64 r, .int .i64 n, .slice Ad l.length cap] 26 (0, 0))) (by kernel_rfl) bG (fun hHeld => ?_)
  replace hcur : Cur (w2.alloc (.cells #[.int .i64 r, .int .i64 n, .slice Ad l.length cap] 26 (0, 0))).drew k A len := hcur
  replace bR : Box (w2.alloc (.cells #[.int .i64 r, .int .i64 n, .slice Ad l.length cap] 26 (0, 0))).drew w.heap.size (Obj.cells #[.int .i64 0, .int .i64 0, .slice none 0 0] 26 (0, 0)) := bR
  replace bG : Box (w2.alloc (.cells #[.int .i64 r, .int .i64 n, .slice Ad l.length cap] 26 (0, 0))).drew w2.heap.size (.cells #[.int .i64 r, .int .i64 n, .slice Ad l.length cap] 26 (0, 0)) := bG
  replace ho : OwnN (w2.alloc (.cells #[.int .i64 r, .int .i64 n, .slice Ad l.length cap] 26 (0, 0))).drew w1.heap.size (.slice Ad l.length cap) l := ho.keep (Below.refl _ _).drew
  replace hB := hB.trans ((Below.refl _ _).drew.mono hB.size)
  refine wpAnyH_take (i := 0) (v := ?v1) rfl (by kernel_rfl) (by kernel_rfl) (by kernel_rfl) (fun _ _ _ h => h) (Or.inl ⟨by rfl, ?hy1⟩) (by assumption) ?rest1
  case hy1 => intro X hX; (try dsimp only at hX); obtain ⟨z1, z2, z3⟩ := Box.cells hX; go_simp <;> with_reducible rfl
  try simp only [List.getElem_toArray, List.getElem_cons_zero, Act.put, List.setIfInBounds_toArray, List.set_cons_zero, List.set_cons_succ]
  refine wpAnyH_take (i := 1) (v := ?v2) rfl (by kernel_rfl) (by kernel_rfl) (by kernel_rfl) (fun _ _ _ h => h) (Or.inl ⟨by rfl, ?hy2⟩) (by assumption) ?rest2
  case hy2 => intro X hX; (try dsimp only at hX); go_simp <;> with_reducible rfl
  try simp only [List.getElem_toArray, List.getElem_cons_succ, List.getElem_cons_zero, Act.put, List.setIfInBounds_toArray, List.set_cons_zero, List.set_cons_succ]
  refine wpAnyH_ready (rs := [2]) (by kernel_rfl) (by simp) ?_
  refine AllReadyH.cons rfl (fun K hK => ?_) AllReadyH.nil
  go_simp
  go_at_call 54
  refine (l1Below_small k A len 6 _ hcur (by decide) (by decide)).mono ?_
  rintro e q ⟨x, rfl, hx, hc, hg⟩
  replace hcur := hc
  replace bR := bR.apart hg hkR
  replace bG := bG.apart hg hkG
  replace ho := ho.turned hg hkB
  replace hB := below_turn hB hg hk
  (try go_simp)
  refine hK.out _ _ bG (fun hHeld2 => ?_)
  clear hHeld2 hK K hc hg
  try simp only [List.getElem_toArray, List.getElem_cons_succ, List.getElem_cons_zero, Act.put, List.setIfInBounds_toArray, List.set_cons_zero, List.set_cons_succ]
  refine wpAnyH_ready (rs := [3]) (by kernel_rfl) (by simp) ?_
  refine AllReadyH.cons rfl (fun K hK => ?_) AllReadyH.nil
  obtain ⟨p1, p2, p3⟩ := bR.cells
  have f1 := Box.froz bR 0
  have f2 := Box.froz bR 1
  have f3 := Box.froz bR 2
  have HF := Lib.hid (own_fin (k := w.heap.size) (ho.base (B' := w.heap.size) (by omega)) hB (Nat.le_refl _) (fun j hj => by have := hlo j hj; omega) (.int .i64 r) (.int .i64 n) (.slice Ad l.length cap))
  go_simp
  refine hK.out _ _ (((bG.off ⟨w.heap.size, 0, none⟩ (.int .i64 r) hkF).off ⟨w.heap.size, 1, none⟩ (.int .i64 n) hkF).off ⟨w.heap.size, 2, none⟩ (.slice Ad l.length cap) hkF) (fun hHeld2 => ?_)
  replace hHeld := hHeld2
  clear hHeld2 hK K
  try simp only [List.getElem_toArray, List.getElem_cons_succ, List.getElem_cons_zero, Act.put, List.setIfInBounds_toArray, List.set_cons_zero, List.set_cons_succ]
  refine wpAnyH_take (i := 4) (v := ?v3) rfl (by kernel_rfl) (by kernel_rfl) (by kernel_rfl) (fun _ _ _ h => h) (Or.inl ⟨by rfl, ?hy3⟩) (by assumption) ?rest3
  case hy3 => intro X hX; (try dsimp only at hX); go_simp <;> with_reducible rfl
  try simp only [List.getElem_toArray, List.getElem_cons_succ, List.getElem_cons_zero, Act.put, List.setIfInBounds_toArray, List.set_cons_zero, List.set_cons_succ]
  refine wpAnyH_done (by kernel_rfl) ?_ _
  clear bG bR ho hB hcur
  go_wp2
  exact bodyPost_ret (v := .tuple #[graphV r n (.slice Ad l.length cap), .int .i64 (x : Int)]) (by simp [results, Tryz.results23, go_sem, p1, p2, p3]) rfl ⟨_, _, _, _, _, rfl, HF.out.1, HQ.out, by omega, HF.out.2⟩
set_option maxRecDepth 20000 in
set_option maxHeartbeats 1600000 in
theorem drawStepsFrom_any (A : Option Addr) (len cap0 : Nat) (w : World) (h : CodeArg w A len) (hl : len ≤ 1048576) : Calls Tryz.prog 16 #[.slice A len cap0] w (RetGD3 w) := by
  have bR : Box (w.alloc (Obj.cells #[.int .i64 0, .int .i64 0, .slice none 0 0] 26 (0, 0))) w.heap.size (Obj.cells #[.int .i64 0, .int .i64 0, .slice none 0 0] 26 (0, 0)) := Box.new _ _
  have hb1 : Below w.heap.size w (w.alloc (Obj.cells #[.int .i64 0, .int .i64 0, .slice none 0 0] 26 (0, 0))) := (Below.refl _ _).alloc (Nat.le_refl _) _
  have HN := Lib.hid (l1New_any A len cap0 _ (h.keep hb1) hl)
  clear h
  go_enter Tryz.func16, Tryz.ntmps16
  go_wp2_with fail
  refine (HN.out).mono ?_
  rintro e w1 ⟨k, rfl, hk0, hc, hb⟩
  have hk1 : w.heap.size < k := by simp only [World.alloc, Array.size_push] at hk0; omega
  have hk : w.heap.size ≤ k := by omega
  have hB := hb1.trans (hb.mono hb1.size)
  replace bR := bR.keep hb
  have hlt := bR.lt
  clear HN hb1 hb hk0
  go_wp2_with fail
  have hkc := hc.lt
  refine (l4Any_any k A len w1 hc).mono ?_
  rintro e w2 ⟨r, n, v, l, rfl, ho, hq, hcur, hg⟩
  obtain ⟨Ad, cap, rfl⟩ := id ho.edges.form
  replace hB := below_turn hB hg hk
  replace bR := bR.apart hg (by omega)
  have hkB : k < w1.heap.size := hkc
  have hlo := ho.lo
  have hhi := ho.hi
  have HQ := Lib.hid hq
  have hkR : w.heap.size ≠ k := by omega
  have hkG : w2.heap.size ≠ k := by have := hcur.lt; omega
  have hkF : w2.heap.size ≠ w.heap.size := by have := bR.lt; omega
  have bG := Box.new w2 (.cells #[.int .i64 r, .int .i64 n, .slice Ad l.length cap] 26 (0, 0))
  have hal : Below w2.heap.size w2 (w2.alloc (.cells #[.int .i64 r, .int .i64 n, .slice Ad l.length cap] 26 (0, 0))) := (Below.refl _ _).alloc (Nat.le_refl _) _
  replace bR := bR.keep hal
  replace ho := ho.keep hal
  replace hB := hB.trans (hal.mono hB.size)
  replace hcur := hcur.keep hal
  clear hq hg hc hal
  go_wp2_with fail
  refine (l1Below_small k A len 6 _ hcur (by decide) (by decide)).mono ?_
  rintro e w3 ⟨x, rfl, hx, hcur3, hg⟩
  replace bR := bR.apart hg hkR
  replace bG := bG.apart hg hkG
  replace ho := ho.turned hg hkB
  replace hB := below_turn hB hg hk
  clear hcur hg
  have hcur := hcur3
  clear hcur3
  go_wp2
  refine wp_region_held_drew (S := fun X => Box X w2.heap.size (.cells #[.int .i64 r, .int .i64 n, .slice Ad l.length cap] 26 (0, 0))) (by kernel_rfl) bG (fun hHeld => ?_)
  replace hcur : Cur w3.drew k A len := hcur
  replace bR : Box w3.drew w.heap.size (Obj.cells #[.int .i64 0, .int .i64 0, .slice none 0 0] 26 (0, 0)) := bR
  replace bG : Box w3.drew w2.heap.size (.cells #[.int .i64 r, .int .i64 n, .slice Ad l.length cap] 26 (0, 0)) := bG
  replace ho : OwnN w3.drew w1.heap.size (.slice Ad l.length cap) l := ho.keep (Below.refl _ _).drew
  replace hB := hB.trans ((Below.refl _ _).drew.mono hB.size)
  refine wpAnyH_take (i := 0) (v := ?v4) rfl (by kernel_rfl) (by kernel_rfl) (by kernel_rfl) (fun _ _ _ h => h) (Or.inl ⟨by rfl, ?hy4⟩) (by assumption) ?rest4
  case hy4 => intro X hX; (try dsimp only at hX); obtain ⟨z1, z2, z3⟩ := Box.cells hX; go_simp <;> with_reducible rfl
  try simp only [List.getElem_toArray, List.getElem_cons_zero, Act.put, List.setIfInBounds_toArray, List.set_cons_zero, List.set_cons_succ]
  refine wpAnyH_take (i := 1) (v := ?v5) rfl (by kernel_rfl) (by kernel_rfl) (by kernel_rfl) (fun _ _ _ h => h) (Or.inl ⟨by rfl, ?hy5⟩) (by assumption) ?rest5
  case hy5 => intro X hX; (try dsimp only at hX); go_simp <;> with_reducible rfl
  try simp only [List.getElem_toArray, List.getElem_cons_succ, List.getElem_cons_zero, Act.put, List.setIfInBounds_toArray, List.set_cons_zero, List.set_cons_succ]
  refine wpAnyH_take (i := 2) (v := ?v6) rfl (by kernel_rfl) (by kernel_rfl) (by kernel_rfl) (fun _ _ _ h => h) (Or.inl ⟨by rfl, ?hy6⟩) (by assumption) ?rest6
  case hy6 => intro X hX; (try dsimp only at hX); go_simp <;> with_reducible rfl
  try simp only [List.getElem_toArray, List.getElem_cons_succ, List.getElem_cons_zero, Act.put, List.setIfInBounds_toArray, List.set_cons_zero, List.set_cons_succ]
  refine wpAnyH_ready (rs := [3]) (by kernel_rfl) (by simp) ?_
  refine AllReadyH.cons rfl (fun K hK => ?_) AllReadyH.nil
  go_simp
  go_at_call 54
  refine (l1Below_small k A len 7 _ hcur (by decide) (by decide)).mono ?_
  rintro e q ⟨y, rfl, hy, hc, hg⟩
  replace hcur := hc
  replace bR := bR.apart hg hkR
  replace bG := bG.apart hg hkG
  replace ho := ho.turned hg hkB
  replace hB := below_turn hB hg hk
  (try go_simp)
  refine hK.out _ _ bG (fun hHeld2 => ?_)
  clear hHeld2 hK K hc hg
  try simp only [List.getElem_toArray, List.getElem_cons_succ, List.getElem_cons_zero, Act.put, List.setIfInBounds_toArray, List.set_cons_zero, List.set_cons_succ]
  have hwy : IntKind.i64.wrap ((y : Int) - 3) = (y : Int) - 3 := IntWalk.i64_in _ (by omega)
  refine wpAnyH_take (i := 4) (v := ?v7) rfl (by kernel_rfl) (by kernel_rfl) (by kernel_rfl) (fun _ _ _ h => h) (Or.inl ⟨by rfl, ?hy7⟩) (by assumption) ?rest7
  case hy7 => intro X hX; (try dsimp only at hX); go_simp <;> with_reducible rfl
  try simp only [List.getElem_toArray, List.getElem_cons_succ, List.getElem_cons_zero, Act.put, List.setIfInBounds_toArray, List.set_cons_zero, List.set_cons_succ]
  refine wpAnyH_ready (rs := [5]) (by kernel_rfl) (by simp) ?_
  refine AllReadyH.cons rfl (fun K hK => ?_) AllReadyH.nil
  obtain ⟨p1, p2, p3⟩ := bR.cells
  have f1 := Box.froz bR 0
  have f2 := Box.froz bR 1
  have f3 := Box.froz bR 2
  have HF := Lib.hid (own_fin (k := w.heap.size) (ho.base (B' := w.heap.size) (by omega)) hB (Nat.le_refl _) (fun j hj => by have := hlo j hj; omega) (.int .i64 r) (.int .i64 n) (.slice Ad l.length cap))
  go_simp
  refine hK.out _ _ (((bG.off ⟨w.heap.size, 0, none⟩ (.int .i64 r) hkF).off ⟨w.heap.size, 1, none⟩ (.int .i64 n) hkF).off ⟨w.heap.size, 2, none⟩ (.slice Ad l.length cap) hkF) (fun hHeld2 => ?_)
  replace hHeld := hHeld2
  clear hHeld2 hK K
  try simp only [List.getElem_toArray, List.getElem_cons_succ, List.getElem_cons_zero, Act.put, List.setIfInBounds_toArray, List.set_cons_zero, List.set_cons_succ]
  refine wpAnyH_take (i := 6) (v := ?v8) rfl (by kernel_rfl) (by kernel_rfl) (by kernel_rfl) (fun _ _ _ h => h) (Or.inl ⟨by rfl, ?hy8⟩) (by assumption) ?rest8
  case hy8 => intro X hX; (try dsimp only at hX); go_simp <;> with_reducible rfl
  try simp only [List.getElem_toArray, List.getElem_cons_succ, List.getElem_cons_zero, Act.put, List.setIfInBounds_toArray, List.set_cons_zero, List.set_cons_succ]
  refine wpAnyH_take (i := 7) (v := ?v9) rfl (by kernel_rfl) (by kernel_rfl) (by kernel_rfl) (fun _ _ _ h => h) (Or.inl ⟨by rfl, ?hy9⟩) (by assumption) ?rest9
  case hy9 => intro X hX; (try dsimp only at hX); go_simp <;> with_reducible rfl
  try simp only [List.getElem_toArray, List.getElem_cons_succ, List.getElem_cons_zero, Act.put, List.setIfInBounds_toArray, List.set_cons_zero, List.set_cons_succ]
  refine wpAnyH_done (by kernel_rfl) ?_ _
  clear bG bR ho hB hcur
  go_wp2
  exact bodyPost_ret (v := .tuple #[graphV r n (.slice Ad l.length cap), .int .i64 (x : Int), .int .i64 ((y : Int) - 3)]) (by simp [results, Tryz.results16, go_sem, p1, p2, p3]) rfl ⟨_, _, _, _, _, _, rfl, HF.out.1, HQ.out, by omega, by omega, HF.out.2⟩
set_option maxRecDepth 20000 in
set_option maxHeartbeats 3200000 in
theorem l4Two_any (A : Option Addr) (len cap0 : Nat) (w : World) (h : CodeArg w A len) (hl : len ≤ 1048576) : Calls Tryz.prog 37 #[.slice A len cap0] w (RetEE w) := by
  have bR : Box ((w.alloc (Obj.cells #[.int .i64 0, .int .i64 0, .int .i64 0] 28 (0, 0))).alloc (Obj.cells #[.int .i64 0, .int .i64 0, .int .i64 0] 28 (0, 0))) w.heap.size (Obj.cells #[.int .i64 0, .int .i64 0, .int .i64 0] 28 (0, 0)) := Box.first _ _ _
  have bS : Box ((w.alloc (Obj.cells #[.int .i64 0, .int .i64 0, .int .i64 0] 28 (0, 0))).alloc (Obj.cells #[.int .i64 0, .int .i64 0, .int .i64 0] 28 (0, 0))) (w.heap.size + 1) (Obj.cells #[.int .i64 0, .int .i64 0, .int .i64 0] 28 (0, 0)) := Box.two _ _ _
  have hb1 : Below w.heap.size w ((w.alloc (Obj.cells #[.int .i64 0, .int .i64 0, .int .i64 0] 28 (0, 0))).alloc (Obj.cells #[.int .i64 0, .int .i64 0, .int .i64 0] 28 (0, 0))) := ((Below.refl _ _).alloc (Nat.le_refl _) _).alloc (by simp) _
  have HN := Lib.hid (l1New_any A len cap0 _ (h.keep hb1) hl)
  clear h
  go_enter Tryz.func37, Tryz.ntmps37
  go_wp2_with fail
  refine (HN.out).mono ?_
  rintro e w1 ⟨k, rfl, hk0, hcur, hb⟩
  have hk1 : w.heap.size + 1 < k := by simp only [World.alloc, Array.size_push] at hk0; omega
  have hk : w.heap.size ≤ k := by omega
  have hkR : w.heap.size ≠ k := by omega
  have hkS : w.heap.size + 1 ≠ k := by omega
  have hB := hb1.trans (hb.mono hb1.size)
  replace bR := bR.keep hb
  replace bS := bS.keep hb
  clear HN hb1 hb hk0
  go_wp2_with fail
  refine (l1Below_small k A len 3 _ hcur (by decide) (by decide)).mono ?_
  rintro e w2 ⟨x1, rfl, hx1, hc, hg⟩
  replace hcur := hc
  replace bR := bR.apart hg hkR
  replace bS := bS.apart hg hkS
  replace hB := below_turn hB hg hk
  clear hg hc
  go_wp2_with fail
  refine (l1Below_small k A len 2 _ hcur (by decide) (by decide)).mono ?_
  rintro e w3 ⟨x2, rfl, hx2, hc, hg⟩
  replace hcur := hc
  replace bR := bR.apart hg hkR
  replace bS := bS.apart hg hkS
  replace hB := below_turn hB hg hk
  clear hg hc
  go_wp2_with fail
  refine (l1Below_small k A len 3 _ hcur (by decide) (by decide)).mono ?_
  rintro e w4 ⟨x3, rfl, hx3, hc, hg⟩
  replace hcur := hc
  replace bR := bR.apart hg hkR
  replace bS := bS.apart hg hkS
  replace hB := below_turn hB hg hk
  clear hg hc
  obtain ⟨y2, hy2, hy2b⟩ : ∃ y : Nat, (1 + (x2 : Int)) = (y : Int) ∧ (1 ≤ y ∧ y ≤ 2) := ⟨1 + x2, by omega, by omega⟩
  have bS4 := bS.lt
  have bE := Box.new w4 (.cells #[.int .i64 (x1 : Int), .int .i64 (y2 : Int), .int .i64 (x3 : Int)] 28 (0, 0))
  have hal : Below w4.heap.size w4 (w4.alloc (.cells #[.int .i64 (x1 : Int), .int .i64 (y2 : Int), .int .i64 (x3 : Int)] 28 (0, 0))) := (Below.refl _ _).alloc (Nat.le_refl _) _
  have hkbE : w4.heap.size ≠ k := by have := hcur.lt; omega
  replace hcur := hcur.keep hal
  replace bR := bR.keep hal
  replace bS := bS.keep hal
  replace hB := hB.trans (hal.mono hB.size)
  clear hal
  go_wp2_with fail
  refine (l1Below_small k A len 3 _ hcur (by decide) (by decide)).mono ?_
  rintro e w5 ⟨x4, rfl, hx4, hc, hg⟩
  replace hcur := hc
  replace bR := bR.apart hg hkR
  replace bS := bS.apart hg hkS
  replace bE := bE.apart hg hkbE
  replace hB := below_turn hB hg hk
  clear hg hc
  go_wp2_with fail
  refine (l1Below_small k A len 2 _ hcur (by decide) (by decide)).mono ?_
  rintro e w6 ⟨x5, rfl, hx5, hc, hg⟩
  replace hcur := hc
  replace bR := bR.apart hg hkR
  replace bS := bS.apart hg hkS
  replace bE := bE.apart hg hkbE
  replace hB := below_turn hB hg hk
  clear hg hc
  go_wp2_with fail
  refine (l1Below_small k A len 3 _ hcur (by decide) (by decide)).mono ?_
  rintro e w7 ⟨x6, rfl, hx6, hc, hg⟩
  replace hcur := hc
  replace bR := bR.apart hg hkR
  replace bS := bS.apart hg hkS
  replace bE := bE.apart hg hkbE
  replace hB := below_turn hB hg hk
  clear hg hc
  obtain ⟨y5, hy5, hy5b⟩ : ∃ y : Nat, (1 + (x5 : Int)) = (y : Int) ∧ (1 ≤ y ∧ y ≤ 2) := ⟨1 + x5, by omega, by omega⟩
  have bS7 := bS.lt
  have bF := Box.new w7 (.cells #[.int .i64 (x4 : Int), .int .i64 (y5 : Int), .int .i64 (x6 : Int)] 28 (0, 0))
  have hal : Below w7.heap.size w7 (w7.alloc (.cells #[.int .i64 (x4 : Int), .int .i64 (y5 : Int), .int .i64 (x6 : Int)] 28 (0, 0))) := (Below.refl _ _).alloc (Nat.le_refl _) _
  have hkbF : w7.heap.size ≠ k := by have := hcur.lt; omega
  replace hcur := hcur.keep hal
  replace bR := bR.keep hal
  replace bS := bS.keep hal
  replace hB := hB.trans (hal.mono hB.size)
  replace bE := bE.keep hal
  clear hal
  have hs1 : Hid (SmE ((x1 : Int), (y2 : Int), (x3 : Int))) := Lib.hid (by unfold SmE; simp only; omega)
  have hs2 : Hid (SmE ((x4 : Int), (y5 : Int), (x6 : Int))) := Lib.hid (by unfold SmE; simp only; omega)
  obtain ⟨a1, a2, a3⟩ := bE.cells
  obtain ⟨c1, c2, c3⟩ := bF.cells
  obtain ⟨p1, p2, p3⟩ := bR.cells
  obtain ⟨s1, s2, s3⟩ := bS.cells
  have f1 := Box.froz bR 0
  have f2 := Box.froz bR 1
  have f3 := Box.froz bR 2
  have f4 := Box.froz bS 0
  have f5 := Box.froz bS 1
  have f6 := Box.froz bS 2
  go_wp2
  have hkE0 : w.heap.size + 1 < w4.heap.size := by have := bS4; exact this
  have hkF0 : w.heap.size + 1 < w7.heap.size := by have := bS7; exact this
  have hBd := hB.trans ((Below.refl _ _).drew.mono hB.size)
  have ne1 : w4.heap.size ≠ w.heap.size := by have := hkE0; omega
  have ne2 : w4.heap.size ≠ w.heap.size + 1 := by have := hkE0; omega
  have ne3 : w7.heap.size ≠ w.heap.size := by have := hkF0; omega
  have ne4 : w7.heap.size ≠ w.heap.size + 1 := by have := hkF0; omega
  refine wp_region_held_drew (S := fun X => Box X w4.heap.size (.cells #[(.int .i64 (x1 : Int)), (.int .i64 (y2 : Int)), (.int .i64 (x3 : Int))] 28 (0, 0)) ∧ Box X w7.heap.size (.cells #[(.int .i64 (x4 : Int)), (.int .i64 (y5 : Int)), (.int .i64 (x6 : Int))] 28 (0, 0))) (by kernel_rfl) ⟨bE, bF⟩ (fun hHeld => ?_)
  refine wpAnyH_take (i := 0) (v := ?v10) rfl (by kernel_rfl) (by kernel_rfl) (by kernel_rfl) (fun _ _ _ h => h) (Or.inl ⟨by rfl, ?hy10⟩) (by assumption) ?rest10
  case hy10 => intro X hX; (try dsimp only at hX); obtain ⟨z1, z2, z3⟩ := Box.cells hX.1; go_simp <;> with_reducible rfl
  try simp only [List.getElem_toArray, List.getElem_cons_zero, Act.put, List.setIfInBounds_toArray, List.set_cons_zero, List.set_cons_succ]
  refine wpAnyH_take (i := 1) (v := ?v11) rfl (by kernel_rfl) (by kernel_rfl) (by kernel_rfl) (fun _ _ _ h => h) (Or.inl ⟨by rfl, ?hy11⟩) (by assumption) ?rest11
  case hy11 => intro X hX; (try dsimp only at hX); obtain ⟨z1, z2, z3⟩ := Box.cells hX.2; go_simp <;> with_reducible rfl
  try simp only [List.getElem_toArray, List.getElem_cons_succ, List.getElem_cons_zero, Act.put, List.setIfInBounds_toArray, List.set_cons_zero, List.set_cons_succ]
  refine wpAnyH_ready (rs := [2]) (by kernel_rfl) (by simp) ?_
  refine AllReadyH.cons rfl (fun K hK => ?_) AllReadyH.nil
  go_simp
  refine hK.out _ _ ?hk2 (fun hHeld2 => ?_)
  case hk2 => exact ⟨(((bE.off ⟨w.heap.size, 0, none⟩ (.int .i64 (x1 : Int)) ne1).off ⟨w.heap.size, 1, none⟩ (.int .i64 (y2 : Int)) ne1).off ⟨w.heap.size, 2, none⟩ (.int .i64 (x3 : Int)) ne1), (((bF.off ⟨w.heap.size, 0, none⟩ (.int .i64 (x1 : Int)) ne3).off ⟨w.heap.size, 1, none⟩ (.int .i64 (y2 : Int)) ne3).off ⟨w.heap.size, 2, none⟩ (.int .i64 (x3 : Int)) ne3)⟩
  replace hHeld := hHeld2
  clear hHeld2 hK K
  try simp only [List.getElem_toArray, List.getElem_cons_succ, List.getElem_cons_zero, Act.put, List.setIfInBounds_toArray, List.set_cons_zero, List.set_cons_succ]
  have bE2 := (((bE.off ⟨w.heap.size, 0, none⟩ (.int .i64 (x1 : Int)) ne1).off ⟨w.heap.size, 1, none⟩ (.int .i64 (y2 : Int)) ne1).off ⟨w.heap.size, 2, none⟩ (.int .i64 (x3 : Int)) ne1)
  have bF2 := (((bF.off ⟨w.heap.size, 0, none⟩ (.int .i64 (x1 : Int)) ne3).off ⟨w.heap.size, 1, none⟩ (.int .i64 (y2 : Int)) ne3).off ⟨w.heap.size, 2, none⟩ (.int .i64 (x3 : Int)) ne3)
  have bS2 := (((bS.off ⟨w.heap.size, 0, none⟩ (.int .i64 (x1 : Int)) (Nat.succ_ne_self _)).off ⟨w.heap.size, 1, none⟩ (.int .i64 (y2 : Int)) (Nat.succ_ne_self _)).off ⟨w.heap.size, 2, none⟩ (.int .i64 (x3 : Int)) (Nat.succ_ne_self _))
  have bR2 : Box _ w.heap.size (.cells #[(.int .i64 (x1 : Int)), (.int .i64 (y2 : Int)), (.int .i64 (x3 : Int))] 28 (0, 0)) := (((bR.put (i := 0) (.int .i64 (x1 : Int))).put (i := 1) (.int .i64 (y2 : Int))).put (i := 2) (.int .i64 (x3 : Int)))
  have hB2 := (((hB.setCell (p := ⟨w.heap.size, 0, none⟩) (Nat.le_refl _) (.int .i64 (x1 : Int))).setCell (p := ⟨w.heap.size, 1, none⟩) (Nat.le_refl _) (.int .i64 (y2 : Int))).setCell (p := ⟨w.heap.size, 2, none⟩) (Nat.le_refl _) (.int .i64 (x3 : Int)))
  clear bE bF bR bS hB hBd p1 p2 p3 s1 s2 s3 f1 f2 f3 f4 f5 f6 a1 a2 a3 c1 c2 c3 hcur
  generalize (((World.setCell _ ⟨w.heap.size, 0, none⟩ _).setCell ⟨w.heap.size, 1, none⟩ _).setCell ⟨w.heap.size, 2, none⟩ _) = X at *
  obtain ⟨p1, p2, p3⟩ := bR2.cells
  obtain ⟨s1, s2, s3⟩ := bS2.cells
  have f4 := Box.froz bS2 0
  have f5 := Box.froz bS2 1
  have f6 := Box.froz bS2 2
  refine wpAnyH_ready (rs := [3]) (by kernel_rfl) (by simp) ?_
  refine AllReadyH.cons rfl (fun K hK => ?_) AllReadyH.nil
  go_simp
  refine hK.out _ _ ?hk3 (fun hHeld2 => ?_)
  case hk3 => exact ⟨(((bE2.off ⟨(w.heap.size + 1), 0, none⟩ (.int .i64 (x4 : Int)) ne2).off ⟨(w.heap.size + 1), 1, none⟩ (.int .i64 (y5 : Int)) ne2).off ⟨(w.heap.size + 1), 2, none⟩ (.int .i64 (x6 : Int)) ne2), (((bF2.off ⟨(w.heap.size + 1), 0, none⟩ (.int .i64 (x4 : Int)) ne4).off ⟨(w.heap.size + 1), 1, none⟩ (.int .i64 (y5 : Int)) ne4).off ⟨(w.heap.size + 1), 2, none⟩ (.int .i64 (x6 : Int)) ne4)⟩
  replace hHeld := hHeld2
  clear hHeld2 hK K
  try simp only [List.getElem_toArray, List.getElem_cons_succ, List.getElem_cons_zero, Act.put, List.setIfInBounds_toArray, List.set_cons_zero, List.set_cons_succ]
  refine wpAnyH_done (by kernel_rfl) ?_ _
  have HF := Lib.hid ((((hB2.setCell (p := ⟨w.heap.size + 1, 0, none⟩) (Nat.le_succ _) (.int .i64 (x4 : Int))).setCell (p := ⟨w.heap.size + 1, 1, none⟩) (Nat.le_succ _) (.int .i64 (y5 : Int))).setCell (p := ⟨w.heap.size + 1, 2, none⟩) (Nat.le_succ _) (.int .i64 (x6 : Int))).drew)
  clear bE2 bF2 bS2 bR2 hB2 hHeld
  go_wp2
  exact bodyPost_ret (v := .tuple #[.agg #[(.int .i64 (x1 : Int)), (.int .i64 (y2 : Int)), (.int .i64 (x3 : Int))], .agg #[(.int .i64 (x4 : Int)), (.int .i64 (y5 : Int)), (.int .i64 (x6 : Int))]]) (by simp [results, Tryz.results37, go_sem, p1, p2, p3, s1, s2, s3]) rfl ⟨_, _, _, _, _, _, rfl, hs1.out, hs2.out, HF.out⟩

set_option maxRecDepth 20000 in
set_option maxHeartbeats 3200000 in
theorem drawCompareEdges_any (A : Option Addr) (len cap0 : Nat) (w : World) (h : CodeArg w A len) (hl : len ≤ 1048576) : Calls Tryz.prog 24 #[.slice A len cap0] w (RetEE w) := by
  have bR : Box ((w.alloc (Obj.cells #[.int .i64 0, .int .i64 0, .int .i64 0] 28 (0, 0))).alloc (Obj.cells #[.int .i64 0, .int .i64 0, .int .i64 0] 28 (0, 0))) w.heap.size (Obj.cells #[.int .i64 0, .int .i64 0, .int .i64 0] 28 (0, 0)) := Box.first _ _ _
  have bS : Box ((w.alloc (Obj.cells #[.int .i64 0, .int .i64 0, .int .i64 0] 28 (0, 0))).alloc (Obj.cells #[.int .i64 0, .int .i64 0, .int .i64 0] 28 (0, 0))) (w.heap.size + 1) (Obj.cells #[.int .i64 0, .int .i64 0, .int .i64 0] 28 (0, 0)) := Box.two _ _ _
  have hb1 : Below w.heap.size w ((w.alloc (Obj.cells #[.int .i64 0, .int .i64 0, .int .i64 0] 28 (0, 0))).alloc (Obj.cells #[.int .i64 0, .int .i64 0, .int .i64 0] 28 (0, 0))) := ((Below.refl _ _).alloc (Nat.le_refl _) _).alloc (by simp) _
  have HN := Lib.hid (l4Two_any A len cap0 _ (h.keep hb1) hl)
  clear h
  go_enter Tryz.func24, Tryz.ntmps24
  go_wp2_with fail
  refine (HN.out).mono ?_
  rintro e w1 ⟨m1, m2, m3, n1, n2, n3, rfl, hsm1, hsm2, hb⟩
  have hs1 := Lib.hid hsm1
  have hs2 := Lib.hid hsm2
  have hB := hb1.trans (hb.mono hb1.size)
  replace bR := bR.keep hb
  replace bS := bS.keep hb
  have hkE0 := bS.lt
  have hkF0 : w.heap.size + 1 < w1.heap.size + 1 := by omega
  have hcur : True := trivial
  have bE := Box.first w1 (.cells #[(.int .i64 m1), (.int .i64 m2), (.int .i64 m3)] 28 (0, 0)) (.cells #[(.int .i64 n1), (.int .i64 n2), (.int .i64 n3)] 28 (0, 0))
  have bF := Box.two w1 (.cells #[(.int .i64 m1), (.int .i64 m2), (.int .i64 m3)] 28 (0, 0)) (.cells #[(.int .i64 n1), (.int .i64 n2), (.int .i64 n3)] 28 (0, 0))
  have hal : Below w1.heap.size w1 ((w1.alloc (.cells #[(.int .i64 m1), (.int .i64 m2), (.int .i64 m3)] 28 (0, 0))).alloc (.cells #[(.int .i64 n1), (.int .i64 n2), (.int .i64 n3)] 28 (0, 0))) := ((Below.refl _ _).alloc (Nat.le_refl _) _).alloc (by simp) _
  replace bR := bR.keep hal
  replace bS := bS.keep hal
  replace hB := hB.trans (hal.mono hB.size)
  clear HN hb1 hb hal hsm1 hsm2
  obtain ⟨a1, a2, a3⟩ := bE.cells
  obtain ⟨c1, c2, c3⟩ := bF.cells
  obtain ⟨p1, p2, p3⟩ := bR.cells
  obtain ⟨s1, s2, s3⟩ := bS.cells
  have f1 := Box.froz bR 0
  have f2 := Box.froz bR 1
  have f3 := Box.froz bR 2
  have f4 := Box.froz bS 0
  have f5 := Box.froz bS 1
  have f6 := Box.froz bS 2
  go_wp2
  have hBd := hB.trans ((Below.refl _ _).drew.mono hB.size)
  have ne1 : w1.heap.size ≠ w.heap.size := by have := hkE0; omega
  have ne2 : w1.heap.size ≠ w.heap.size + 1 := by have := hkE0; omega
  have ne3 : (w1.heap.size + 1) ≠ w.heap.size := by have := hkF0; omega
  have ne4 : (w1.heap.size + 1) ≠ w.heap.size + 1 := by have := hkF0; omega
  refine wp_region_held_drew (S := fun X => Box X w1.heap.size (.cells #[(.int .i64 m1), (.int .i64 m2), (.int .i64 m3)] 28 (0, 0)) ∧ Box X (w1.heap.size + 1) (.cells #[(.int .i64 n1), (.int .i64 n2), (.int .i64 n3)] 28 (0, 0))) (by kernel_rfl) ⟨bE, bF⟩ (fun hHeld => ?_)
  refine wpAnyH_take (i := 0) (v := ?v12) rfl (by kernel_rfl) (by kernel_rfl) (by kernel_rfl) (fun _ _ _ h => h) (Or.inl ⟨by rfl, ?hy12⟩) (by assumption) ?rest12
  case hy12 => intro X hX; (try dsimp only at hX); obtain ⟨z1, z2, z3⟩ := Box.cells hX.1; go_simp <;> with_reducible rfl
  try simp only [List.getElem_toArray, List.getElem_cons_zero, Act.put, List.setIfInBounds_toArray, List.set_cons_zero, List.set_cons_succ]
  refine wpAnyH_take (i := 1) (v := ?v13) rfl (by kernel_rfl) (by kernel_rfl) (by kernel_rfl) (fun _ _ _ h => h) (Or.inl ⟨by rfl, ?hy13⟩) (by assumption) ?rest13
  case hy13 => intro X hX; (try dsimp only at hX); obtain ⟨z1, z2, z3⟩ := Box.cells hX.2; go_simp <;> with_reducible rfl
  try simp only [List.getElem_toArray, List.getElem_cons_succ, List.getElem_cons_zero, Act.put, List.setIfInBounds_toArray, List.set_cons_zero, List.set_cons_succ]
  refine wpAnyH_ready (rs := [2]) (by kernel_rfl) (by simp) ?_
  refine AllReadyH.cons rfl (fun K hK => ?_) AllReadyH.nil
  go_simp
  refine hK.out _ _ ?hk2 (fun hHeld2 => ?_)
  case hk2 => exact ⟨(((bE.off ⟨w.heap.size, 0, none⟩ (.int .i64 m1) ne1).off ⟨w.heap.size, 1, none⟩ (.int .i64 m2) ne1).off ⟨w.heap.size, 2, none⟩ (.int .i64 m3) ne1), (((bF.off ⟨w.heap.size, 0, none⟩ (.int .i64 m1) ne3).off ⟨w.heap.size, 1, none⟩ (.int .i64 m2) ne3).off ⟨w.heap.size, 2, none⟩ (.int .i64 m3) ne3)⟩
  replace hHeld := hHeld2
  clear hHeld2 hK K
  try simp only [List.getElem_toArray, List.getElem_cons_succ, List.getElem_cons_zero, Act.put, List.setIfInBounds_toArray, List.set_cons_zero, List.set_cons_succ]
  have bE2 := (((bE.off ⟨w.heap.size, 0, none⟩ (.int .i64 m1) ne1).off ⟨w.heap.size, 1, none⟩ (.int .i64 m2) ne1).off ⟨w.heap.size, 2, none⟩ (.int .i64 m3) ne1)
  have bF2 := (((bF.off ⟨w.heap.size, 0, none⟩ (.int .i64 m1) ne3).off ⟨w.heap.size, 1, none⟩ (.int .i64 m2) ne3).off ⟨w.heap.size, 2, none⟩ (.int .i64 m3) ne3)
  have bS2 := (((bS.off ⟨w.heap.size, 0, none⟩ (.int .i64 m1) (Nat.succ_ne_self _)).off ⟨w.heap.size, 1, none⟩ (.int .i64 m2) (Nat.succ_ne_self _)).off ⟨w.heap.size, 2, none⟩ (.int .i64 m3) (Nat.succ_ne_self _))
  have bR2 : Box _ w.heap.size (.cells #[(.int .i64 m1), (.int .i64 m2), (.int .i64 m3)] 28 (0, 0)) := (((bR.put (i := 0) (.int .i64 m1)).put (i := 1) (.int .i64 m2)).put (i := 2) (.int .i64 m3))
  have hB2 := (((hB.setCell (p := ⟨w.heap.size, 0, none⟩) (Nat.le_refl _) (.int .i64 m1)).setCell (p := ⟨w.heap.size, 1, none⟩) (Nat.le_refl _) (.int .i64 m2)).setCell (p := ⟨w.heap.size, 2, none⟩) (Nat.le_refl _) (.int .i64 m3))
  clear bE bF bR bS hB hBd p1 p2 p3 s1 s2 s3 f1 f2 f3 f4 f5 f6 a1 a2 a3 c1 c2 c3 hcur
  generalize (((World.setCell _ ⟨w.heap.size, 0, none⟩ _).setCell ⟨w.heap.size, 1, none⟩ _).setCell ⟨w.heap.size, 2, none⟩ _) = X at *
  obtain ⟨p1, p2, p3⟩ := bR2.cells
  obtain ⟨s1, s2, s3⟩ := bS2.cells
  have f4 := Box.froz bS2 0
  have f5 := Box.froz bS2 1
  have f6 := Box.froz bS2 2
  refine wpAnyH_ready (rs := [3]) (by kernel_rfl) (by simp) ?_
  refine AllReadyH.cons rfl (fun K hK => ?_) AllReadyH.nil
  go_simp
  refine hK.out _ _ ?hk3 (fun hHeld2 => ?_)
  case hk3 => exact ⟨(((bE2.off ⟨(w.heap.size + 1), 0, none⟩ (.int .i64 n1) ne2).off ⟨(w.heap.size + 1), 1, none⟩ (.int .i64 n2) ne2).off ⟨(w.heap.size + 1), 2, none⟩ (.int .i64 n3) ne2), (((bF2.off ⟨(w.heap.size + 1), 0, none⟩ (.int .i64 n1) ne4).off ⟨(w.heap.size + 1), 1, none⟩ (.int .i64 n2) ne4).off ⟨(w.heap.size + 1), 2, none⟩ (.int .i64 n3) ne4)⟩
  replace hHeld := hHeld2
  clear hHeld2 hK K
  try simp only [List.getElem_toArray, List.getElem_cons_succ, List.getElem_cons_zero, Act.put, List.setIfInBounds_toArray, List.set_cons_zero, List.set_cons_succ]
  refine wpAnyH_done (by kernel_rfl) ?_ _
  have HF := Lib.hid ((((hB2.setCell (p := ⟨w.heap.size + 1, 0, none⟩) (Nat.le_succ _) (.int .i64 n1)).setCell (p := ⟨w.heap.size + 1, 1, none⟩) (Nat.le_succ _) (.int .i64 n2)).setCell (p := ⟨w.heap.size + 1, 2, none⟩) (Nat.le_succ _) (.int .i64 n3)).drew)
  clear bE2 bF2 bS2 bR2 hB2 hHeld
  go_wp2
  exact bodyPost_ret (v := .tuple #[.agg #[(.int .i64 m1), (.int .i64 m2), (.int .i64 m3)], .agg #[(.int .i64 n1), (.int .i64 n2), (.int .i64 n3)]]) (by simp [results, Tryz.results24, go_sem, p1, p2, p3, s1, s2, s3]) rfl ⟨_, _, _, _, _, _, rfl, hs1.out, hs2.out, HF.out⟩

set_option maxRecDepth 20000 in
set_option maxHeartbeats 3200000 in
theorem drawAddEdge_any (A : Option Addr) (len cap0 : Nat) (w : World) (h : CodeArg w A len) (hl : len ≤ 1048576) : Calls Tryz.prog 5 #[.slice A len cap0] w (RetGDE w) := by
  have bR : Box ((w.alloc (Obj.cells #[.int .i64 0, .int .i64 0, .slice none 0 0] 26 (0, 0))).alloc (Obj.cells #[.int .i64 0, .int .i64 0, .int .i64 0] 28 (0, 0))) w.heap.size (Obj.cells #[.int .i64 0, .int .i64 0, .slice none 0 0] 26 (0, 0)) := Box.first _ _ _
  have bS : Box ((w.alloc (Obj.cells #[.int .i64 0, .int .i64 0, .slice none 0 0] 26 (0, 0))).alloc (Obj.cells #[.int .i64 0, .int .i64 0, .int .i64 0] 28 (0, 0))) (w.heap.size + 1) (Obj.cells #[.int .i64 0, .int .i64 0, .int .i64 0] 28 (0, 0)) := Box.two _ _ _
  have hb1 : Below w.heap.size w ((w.alloc (Obj.cells #[.int .i64 0, .int .i64 0, .slice none 0 0] 26 (0, 0))).alloc (Obj.cells #[.int .i64 0, .int .i64 0, .int .i64 0] 28 (0, 0))) := ((Below.refl _ _).alloc (Nat.le_refl _) _).alloc (by simp) _
  have HN := Lib.hid (l1New_any A len cap0 _ (h.keep hb1) hl)
  have HC := Lib.hid h
  clear h
  go_enter Tryz.func5, Tryz.ntmps5
  go_wp2_with fail
  refine (HN.out).mono ?_
  rintro e w1 ⟨k, rfl, hk0, hc, hb⟩
  have hk1 : w.heap.size + 1 < k := by simp only [World.alloc, Array.size_push] at hk0; omega
  have hk : w.heap.size ≤ k := by omega
  have hB := hb1.trans (hb.mono hb1.size)
  replace bR := bR.keep hb
  replace bS := bS.keep hb
  have hlt1 := bS.lt
  clear HN hb1 hb hk0
  go_wp2_with fail
  have hkc := hc.lt
  refine (l4Any_any k A len w1 hc).mono ?_
  rintro e w2 ⟨r, n, v, l, rfl, ho, hq, hc2, hg⟩
  obtain ⟨Ad, cap, rfl⟩ := id ho.edges.form
  replace hB := below_turn hB hg hk
  replace bR := bR.apart hg (by omega)
  replace bS := bS.apart hg (by omega)
  have hlt2 := bS.lt
  have hlo := ho.lo
  have ho_1 : ∀ j, (Value.slice Ad l.length cap).ownBlock = some j → j ≠ w.heap.size := fun j hj => by have := hlo j hj; omega
  have ho_2 : ∀ j, (Value.slice Ad l.length cap).ownBlock = some j → j ≠ w.heap.size + 1 := fun j hj => by have := hlo j hj; omega
  have HQ := Lib.hid hq
  have hal : Below w2.heap.size w2 (w2.alloc (.cells #[.int .i64 r, .int .i64 n, .slice Ad l.length cap] 26 (0, 0))) := (Below.refl _ _).alloc (Nat.le_refl _) _
  have bE := Box.new w2 (.cells #[.int .i64 r, .int .i64 n, .slice Ad l.length cap] 26 (0, 0))
  replace bR := bR.keep hal
  replace bS := bS.keep hal
  replace ho := ho.keep hal
  replace hB := hB.trans (hal.mono hB.size)
  have HT := Lib.hid (l4Two_any A len cap0 _ (HC.out.keep hB) hl)
  clear hq hg hal hc hc2
  go_wp2_with fail
  refine (HT.out).mono ?_
  rintro e w4 ⟨m1, m2, m3, n1, n2, n3, rfl, hsm1, _, hb⟩
  have hs1 := Lib.hid hsm1
  replace bR := bR.keep hb
  replace bS := bS.keep hb
  replace bE := bE.keep hb
  replace ho := ho.keep hb
  replace hB := hB.trans (hb.mono hB.size)
  have hkE0 := hlt2
  have hkF0 := bS.lt
  have hcur : True := trivial
  have bF := Box.first w4 (.cells #[(.int .i64 m1), (.int .i64 m2), (.int .i64 m3)] 28 (0, 0)) (.cells #[(.int .i64 n1), (.int .i64 n2), (.int .i64 n3)] 28 (0, 0))
  have hal : Below w4.heap.size w4 ((w4.alloc (.cells #[(.int .i64 m1), (.int .i64 m2), (.int .i64 m3)] 28 (0, 0))).alloc (.cells #[(.int .i64 n1), (.int .i64 n2), (.int .i64 n3)] 28 (0, 0))) := ((Below.refl _ _).alloc (Nat.le_refl _) _).alloc (by simp) _
  replace bR := bR.keep hal
  replace bS := bS.keep hal
  replace bE := bE.keep hal
  replace ho := ho.keep hal
  replace hB := hB.trans (hal.mono hB.size)
  clear hb hal hsm1 HT HC
  obtain ⟨a1, a2, a3⟩ := bE.cells
  obtain ⟨c1, c2, c3⟩ := bF.cells
  obtain ⟨p1, p2, p3⟩ := bR.cells
  obtain ⟨s1, s2, s3⟩ := bS.cells
  have f1 := Box.froz bR 0
  have f2 := Box.froz bR 1
  have f3 := Box.froz bR 2
  have f4 := Box.froz bS 0
  have f5 := Box.froz bS 1
  have f6 := Box.froz bS 2
  go_wp2
  have ne1 : w2.heap.size ≠ w.heap.size := by have := hkE0; omega
  have ne2 : w2.heap.size ≠ w.heap.size + 1 := by have := hkE0; omega
  have ne3 : w4.heap.size ≠ w.heap.size := by have := hkF0; omega
  have ne4 : w4.heap.size ≠ w.heap.size + 1 := by have := hkF0; omega
  refine wp_region_held_drew (S := fun X => Box X w2.heap.size (.cells #[(.int .i64 r), (.int .i64 n), (.slice Ad l.length cap)] 26 (0, 0)) ∧ Box X w4.heap.size (.cells #[(.int .i64 m1), (.int .i64 m2), (.int .i64 m3)] 28 (0, 0))) (by kernel_rfl) ⟨bE, bF⟩ (fun hHeld => ?_)
  refine wpAnyH_take (i := 0) (v := ?v14) rfl (by kernel_rfl) (by kernel_rfl) (by kernel_rfl) (fun _ _ _ h => h) (Or.inl ⟨by rfl, ?hy14⟩) (by assumption) ?rest14
  case hy14 => intro X hX; (try dsimp only at hX); obtain ⟨z1, z2, z3⟩ := Box.cells hX.1; go_simp <;> with_reducible rfl
  try simp only [List.getElem_toArray, List.getElem_cons_zero, Act.put, List.setIfInBounds_toArray, List.set_cons_zero, List.set_cons_succ]
  refine wpAnyH_take (i := 1) (v := ?v15) rfl (by kernel_rfl) (by kernel_rfl) (by kernel_rfl) (fun _ _ _ h => h) (Or.inl ⟨by rfl, ?hy15⟩) (by assumption) ?rest15
  case hy15 => intro X hX; (try dsimp only at hX); obtain ⟨z1, z2, z3⟩ := Box.cells hX.2; go_simp <;> with_reducible rfl
  try simp only [List.getElem_toArray, List.getElem_cons_succ, List.getElem_cons_zero, Act.put, List.setIfInBounds_toArray, List.set_cons_zero, List.set_cons_succ]
  refine wpAnyH_ready (rs := [2]) (by kernel_rfl) (by simp) ?_
  refine AllReadyH.cons rfl (fun K hK => ?_) AllReadyH.nil
  go_simp
  refine hK.out _ _ ?hk2 (fun hHeld2 => ?_)
  case hk2 => exact ⟨(((bE.off ⟨w.heap.size, 0, none⟩ (.int .i64 r) ne1).off ⟨w.heap.size, 1, none⟩ (.int .i64 n) ne1).off ⟨w.heap.size, 2, none⟩ (.slice Ad l.length cap) ne1), (((bF.off ⟨w.heap.size, 0, none⟩ (.int .i64 r) ne3).off ⟨w.heap.size, 1, none⟩ (.int .i64 n) ne3).off ⟨w.heap.size, 2, none⟩ (.slice Ad l.length cap) ne3)⟩
  replace hHeld := hHeld2
  clear hHeld2 hK K
  try simp only [List.getElem_toArray, List.getElem_cons_succ, List.getElem_cons_zero, Act.put, List.setIfInBounds_toArray, List.set_cons_zero, List.set_cons_succ]
  have bE2 := (((bE.off ⟨w.heap.size, 0, none⟩ (.int .i64 r) ne1).off ⟨w.heap.size, 1, none⟩ (.int .i64 n) ne1).off ⟨w.heap.size, 2, none⟩ (.slice Ad l.length cap) ne1)
  have bF2 := (((bF.off ⟨w.heap.size, 0, none⟩ (.int .i64 r) ne3).off ⟨w.heap.size, 1, none⟩ (.int .i64 n) ne3).off ⟨w.heap.size, 2, none⟩ (.slice Ad l.length cap) ne3)
  have ho2 := (((ho.set_ (k := w.heap.size) (i := 0) ho_1 (.int .i64 r)).set_ (k := w.heap.size) (i := 1) ho_1 (.int .i64 n)).set_ (k := w.heap.size) (i := 2) ho_1 (.slice Ad l.length cap))
  have bS2 := (((bS.off ⟨w.heap.size, 0, none⟩ (.int .i64 r) (Nat.succ_ne_self _)).off ⟨w.heap.size, 1, none⟩ (.int .i64 n) (Nat.succ_ne_self _)).off ⟨w.heap.size, 2, none⟩ (.slice Ad l.length cap) (Nat.succ_ne_self _))
  have bR2 : Box _ w.heap.size (.cells #[(.int .i64 r), (.int .i64 n), (.slice Ad l.length cap)] 26 (0, 0)) := (((bR.put (i := 0) (.int .i64 r)).put (i := 1) (.int .i64 n)).put (i := 2) (.slice Ad l.length cap))
  have hB2 := (((hB.setCell (p := ⟨w.heap.size, 0, none⟩) (Nat.le_refl _) (.int .i64 r)).setCell (p := ⟨w.heap.size, 1, none⟩) (Nat.le_refl _) (.int .i64 n)).setCell (p := ⟨w.heap.size, 2, none⟩) (Nat.le_refl _) (.slice Ad l.length cap))
  clear bE bF ho bR bS hB p1 p2 p3 s1 s2 s3 f1 f2 f3 f4 f5 f6 a1 a2 a3 c1 c2 c3 hcur
  generalize (((World.setCell _ ⟨w.heap.size, 0, none⟩ _).setCell ⟨w.heap.size, 1, none⟩ _).setCell ⟨w.heap.size, 2, none⟩ _) = X at *
  obtain ⟨p1, p2, p3⟩ := bR2.cells
  obtain ⟨s1, s2, s3⟩ := bS2.cells
  have f4 := Box.froz bS2 0
  have f5 := Box.froz bS2 1
  have f6 := Box.froz bS2 2
  refine wpAnyH_ready (rs := [3]) (by kernel_rfl) (by simp) ?_
  refine AllReadyH.cons rfl (fun K hK => ?_) AllReadyH.nil
  go_simp
  refine hK.out _ _ ?hk3 (fun hHeld2 => ?_)
  case hk3 => exact ⟨(((bE2.off ⟨(w.heap.size + 1), 0, none⟩ (.int .i64 m1) ne2).off ⟨(w.heap.size + 1), 1, none⟩ (.int .i64 m2) ne2).off ⟨(w.heap.size + 1), 2, none⟩ (.int .i64 m3) ne2), (((bF2.off ⟨(w.heap.size + 1), 0, none⟩ (.int .i64 m1) ne4).off ⟨(w.heap.size + 1), 1, none⟩ (.int .i64 m2) ne4).off ⟨(w.heap.size + 1), 2, none⟩ (.int .i64 m3) ne4)⟩
  replace hHeld := hHeld2
  clear hHeld2 hK K
  try simp only [List.getElem_toArray, List.getElem_cons_succ, List.getElem_cons_zero, Act.put, List.setIfInBounds_toArray, List.set_cons_zero, List.set_cons_succ]
  refine wpAnyH_done (by kernel_rfl) ?_ _
  have HF := Lib.hid ((((hB2.setCell (p := ⟨w.heap.size + 1, 0, none⟩) (Nat.le_succ _) (.int .i64 m1)).setCell (p := ⟨w.heap.size + 1, 1, none⟩) (Nat.le_succ _) (.int .i64 m2)).setCell (p := ⟨w.heap.size + 1, 2, none⟩) (Nat.le_succ _) (.int .i64 m3)).drew)
  have Hho := Lib.hid ((((ho2.set_ (k := w.heap.size + 1) (i := 0) ho_2 (.int .i64 m1)).set_ (k := w.heap.size + 1) (i := 1) ho_2 (.int .i64 m2)).set_ (k := w.heap.size + 1) (i := 2) ho_2 (.int .i64 m3)).keep (Below.refl _ _).drew)
  clear ho2
  clear bE2 bF2 bS2 bR2 hB2 hHeld
  go_wp2
  exact bodyPost_ret (v := .tuple #[.agg #[(.int .i64 r), (.int .i64 n), (.slice Ad l.length cap)], .agg #[(.int .i64 m1), (.int .i64 m2), (.int .i64 m3)]]) (by simp [results, Tryz.results5, go_sem, p1, p2, p3, s1, s2, s3]) rfl ⟨_, _, _, _, _, _, _, rfl, Hho.out.base (by omega), HQ.out, hs1.out, HF.out⟩
set_option maxRecDepth 20000 in
set_option maxHeartbeats 3200000 in
theorem drawEqualGraphs_any (A : Option Addr) (len cap0 : Nat) (w : World) (h : CodeArg w A len) (hl : len ≤ 1048576) : Calls Tryz.prog 28 #[.slice A len cap0] w (RetGDG w) := by
  have bR : Box ((w.alloc (Obj.cells #[.int .i64 0, .int .i64 0, .slice none 0 0] 26 (0, 0))).alloc (Obj.cells #[.int .i64 0, .int .i64 0, .slice none 0 0] 26 (0, 0))) w.heap.size (Obj.cells #[.int .i64 0, .int .i64 0, .slice none 0 0] 26 (0, 0)) := Box.first _ _ _
  have bS : Box ((w.alloc (Obj.cells #[.int .i64 0, .int .i64 0, .slice none 0 0] 26 (0, 0))).alloc (Obj.cells #[.int .i64 0, .int .i64 0, .slice none 0 0] 26 (0, 0))) (w.heap.size + 1) (Obj.cells #[.int .i64 0, .int .i64 0, .slice none 0 0] 26 (0, 0)) := Box.two _ _ _
  have hb1 : Below w.heap.size w ((w.alloc (Obj.cells #[.int .i64 0, .int .i64 0, .slice none 0 0] 26 (0, 0))).alloc (Obj.cells #[.int .i64 0, .int .i64 0, .slice none 0 0] 26 (0, 0))) := ((Below.refl _ _).alloc (Nat.le_refl _) _).alloc (by simp) _
  have HN := Lib.hid (l1New_any A len cap0 _ (h.keep hb1) hl)
  clear h
  go_enter Tryz.func28, Tryz.ntmps28
  go_wp2_with fail
  refine (HN.out).mono ?_
  rintro e w1 ⟨k, rfl, hk0, hc, hb⟩
  have hk1 : w.heap.size + 1 < k := by simp only [World.alloc, Array.size_push] at hk0; omega
  have hk : w.heap.size ≤ k := by omega
  have hkR : w.heap.size ≠ k := by omega
  have hkS : w.heap.size + 1 ≠ k := by omega
  have hB := hb1.trans (hb.mono hb1.size)
  replace bR := bR.keep hb
  replace bS := bS.keep hb
  have hlt1 := bS.lt
  clear HN hb1 hb hk0
  go_wp2_with fail
  have hkc := hc.lt
  refine (l4Any_any k A len w1 hc).mono ?_
  rintro e w2 ⟨r, n, v, l, rfl, ho, hq, hcur, hg⟩
  obtain ⟨Ad, cap, rfl⟩ := id ho.edges.form
  replace hB := below_turn hB hg hk
  replace bR := bR.apart hg hkR
  replace bS := bS.apart hg hkS
  have hlt2 := bS.lt
  have hlo := ho.lo
  have ho_1 : ∀ j, (Value.slice Ad l.length cap).ownBlock = some j → j ≠ w.heap.size := fun j hj => by have := hlo j hj; omega
  have ho_2 : ∀ j, (Value.slice Ad l.length cap).ownBlock = some j → j ≠ w.heap.size + 1 := fun j hj => by have := hlo j hj; omega
  have HQ := Lib.hid hq
  have hal : Below w2.heap.size w2 (w2.alloc (.cells #[.int .i64 r, .int .i64 n, .slice Ad l.length cap] 26 (0, 0))) := (Below.refl _ _).alloc (Nat.le_refl _) _
  have bE := Box.new w2 (.cells #[.int .i64 r, .int .i64 n, .slice Ad l.length cap] 26 (0, 0))
  replace bR := bR.keep hal
  replace bS := bS.keep hal
  replace ho := ho.keep hal
  replace hB := hB.trans (hal.mono hB.size)
  replace hcur := hcur.keep hal
  have hkG : w2.heap.size ≠ k := by have h9 := hg.size; omega
  have HO := Lib.hid (l1Once_small k A len 2 _ hcur (by decide) (by decide))
  clear hq hg hal hc hcur
  go_wp2_with fail
  refine (HO.out).mono ?_
  rintro e w3 ⟨x, rfl, hcur, hg⟩
  replace bR := bR.apart hg hkR
  replace bS := bS.apart hg hkS
  replace bE := bE.apart hg hkG
  replace ho := ho.turned hg hkc
  replace hB := below_turn hB hg hk
  have ne1 : w2.heap.size ≠ w.heap.size := by omega
  have ne2 : w2.heap.size ≠ w.heap.size + 1 := by omega
  have hlt3 := bS.lt
  clear HO hg
  cases x with
  | true =>
    go_wp2
    refine wp_region_held_drew (S := fun X => Box X w2.heap.size (.cells #[.int .i64 r, .int .i64 n, .slice Ad l.length cap] 26 (0, 0))) (by kernel_rfl) bE (fun hHeld => ?_)
    replace hcur : Cur w3.drew k A len := hcur
    replace bR : Box w3.drew w.heap.size (Obj.cells #[.int .i64 0, .int .i64 0, .slice none 0 0] 26 (0, 0)) := bR
    replace bS : Box w3.drew (w.heap.size + 1) (Obj.cells #[.int .i64 0, .int .i64 0, .slice none 0 0] 26 (0, 0)) := bS
    replace bE : Box w3.drew w2.heap.size (.cells #[.int .i64 r, .int .i64 n, .slice Ad l.length cap] 26 (0, 0)) := bE
    replace ho : OwnN w3.drew w1.heap.size (.slice Ad l.length cap) l := ho.keep (Below.refl _ _).drew
    replace hB := hB.trans ((Below.refl _ _).drew.mono hB.size)
    refine wpAnyH_take (i := 0) (v := ?v16) rfl (by kernel_rfl) (by kernel_rfl) (by kernel_rfl) (fun _ _ _ h => h) (Or.inl ⟨by rfl, ?hy16⟩) (by assumption) ?rest16
    case hy16 => intro X hX; (try dsimp only at hX); obtain ⟨z1, z2, z3⟩ := Box.cells hX; go_simp <;> with_reducible rfl
    try simp only [List.getElem_toArray, List.getElem_cons_zero, Act.put, List.setIfInBounds_toArray, List.set_cons_zero, List.set_cons_succ]
    refine wpAnyH_take (i := 1) (v := ?v17) rfl (by kernel_rfl) (by kernel_rfl) (by kernel_rfl) (fun _ _ _ h => h) (Or.inl ⟨by rfl, ?hy17⟩) (by assumption) ?rest17
    case hy17 => intro X hX; (try dsimp only at hX); obtain ⟨z1, z2, z3⟩ := Box.cells hX; go_simp <;> with_reducible rfl
    try simp only [List.getElem_toArray, List.getElem_cons_succ, List.getElem_cons_zero, Act.put, List.setIfInBounds_toArray, List.set_cons_zero, List.set_cons_succ]
    refine wpAnyH_ready (rs := [2]) (by kernel_rfl) (by simp) ?_
    refine AllReadyH.cons rfl (fun K hK => ?_) AllReadyH.nil
    go_simp
    go_at_call 42
    refine (l4Copy_any r n _ l _ ho.edges ho.nilOk (by have := HQ.out.2.2.1; omega)).mono ?_
    rintro e w4 ⟨v2, rfl, oc0, hb⟩
    have oc : OwnN w4 w3.drew.heap.size v2 l := .inr oc0
    obtain ⟨Ac, cc, rfl⟩ := id oc.edges.form
    have oc_1 : ∀ j, (Value.slice Ac l.length cc).ownBlock = some j → j ≠ w.heap.size := fun j hj => by have h9 := oc.lo j hj; have h8 : w.heap.size + 1 < w3.heap.size := hlt3; have h7 : w3.drew.heap.size = w3.heap.size := rfl; omega
    have oc_2 : ∀ j, (Value.slice Ac l.length cc).ownBlock = some j → j ≠ w.heap.size + 1 := fun j hj => by have h9 := oc.lo j hj; have h8 : w.heap.size + 1 < w3.heap.size := hlt3; have h7 : w3.drew.heap.size = w3.heap.size := rfl; omega
    replace bR := bR.keep hb
    replace bS := bS.keep hb
    replace bE := bE.keep hb
    replace ho := ho.keep hb
    replace hB := hB.trans (hb.mono hB.size)
    (try go_simp)
    refine hK.out _ _ bE (fun hHeld2 => ?_)
    replace hHeld := hHeld2
    clear hHeld2 hK K hb oc0
    try simp only [List.getElem_toArray, List.getElem_cons_succ, List.getElem_cons_zero, Act.put, List.setIfInBounds_toArray, List.set_cons_zero, List.set_cons_succ]
    obtain ⟨p1, p2, p3⟩ := bR.cells
    obtain ⟨s1, s2, s3⟩ := bS.cells
    have f1 := Box.froz bR 0
    have f2 := Box.froz bR 1
    have f3 := Box.froz bR 2
    have f4 := Box.froz bS 0
    have f5 := Box.froz bS 1
    have f6 := Box.froz bS 2
    refine wpAnyH_ready (rs := [3]) (by kernel_rfl) (by simp) ?_
    refine AllReadyH.cons rfl (fun K hK => ?_) AllReadyH.nil
    go_simp
    refine hK.out _ _ ?hk2 (fun hHeld2 => ?_)
    case hk2 => exact (((bE.off ⟨w.heap.size, 0, none⟩ (.int .i64 r) ne1).off ⟨w.heap.size, 1, none⟩ (.int .i64 n) ne1).off ⟨w.heap.size, 2, none⟩ (.slice Ad l.length cap) ne1)
    replace hHeld := hHeld2
    clear hHeld2 hK K
    try simp only [List.getElem_toArray, List.getElem_cons_succ, List.getElem_cons_zero, Act.put, List.setIfInBounds_toArray, List.set_cons_zero, List.set_cons_succ]
    have bE2 := (((bE.off ⟨w.heap.size, 0, none⟩ (.int .i64 r) ne1).off ⟨w.heap.size, 1, none⟩ (.int .i64 n) ne1).off ⟨w.heap.size, 2, none⟩ (.slice Ad l.length cap) ne1)
    have ho2 := (((ho.set_ (k := w.heap.size) (i := 0) ho_1 (.int .i64 r)).set_ (k := w.heap.size) (i := 1) ho_1 (.int .i64 n)).set_ (k := w.heap.size) (i := 2) ho_1 (.slice Ad l.length cap))
    have oc2 := (((oc.set_ (k := w.heap.size) (i := 0) oc_1 (.int .i64 r)).set_ (k := w.heap.size) (i := 1) oc_1 (.int .i64 n)).set_ (k := w.heap.size) (i := 2) oc_1 (.slice Ad l.length cap))
    have bS2 := (((bS.off ⟨w.heap.size, 0, none⟩ (.int .i64 r) (Nat.succ_ne_self _)).off ⟨w.heap.size, 1, none⟩ (.int .i64 n) (Nat.succ_ne_self _)).off ⟨w.heap.size, 2, none⟩ (.slice Ad l.length cap) (Nat.succ_ne_self _))
    have bR2 : Box _ w.heap.size (.cells #[(.int .i64 r), (.int .i64 n), (.slice Ad l.length cap)] 26 (0, 0)) := (((bR.put (i := 0) (.int .i64 r)).put (i := 1) (.int .i64 n)).put (i := 2) (.slice Ad l.length cap))
    have hB2 := (((hB.setCell (p := ⟨w.heap.size, 0, none⟩) (Nat.le_refl _) (.int .i64 r)).setCell (p := ⟨w.heap.size, 1, none⟩) (Nat.le_refl _) (.int .i64 n)).setCell (p := ⟨w.heap.size, 2, none⟩) (Nat.le_refl _) (.slice Ad l.length cap))
    clear bE ho oc bR bS hB p1 p2 p3 s1 s2 s3 f1 f2 f3 f4 f5 f6 hcur
    generalize (((World.setCell _ ⟨w.heap.size, 0, none⟩ _).setCell ⟨w.heap.size, 1, none⟩ _).setCell ⟨w.heap.size, 2, none⟩ _) = X at *
    obtain ⟨p1, p2, p3⟩ := bR2.cells
    obtain ⟨s1, s2, s3⟩ := bS2.cells
    have f4 := Box.froz bS2 0
    have f5 := Box.froz bS2 1
    have f6 := Box.froz bS2 2
    refine wpAnyH_ready (rs := [4]) (by kernel_rfl) (by simp) ?_
    refine AllReadyH.cons rfl (fun K hK => ?_) AllReadyH.nil
    go_simp
    refine hK.out _ _ ?hk3 (fun hHeld2 => ?_)
    case hk3 => exact (((bE2.off ⟨(w.heap.size + 1), 0, none⟩ (.int .i64 r) ne2).off ⟨(w.heap.size + 1), 1, none⟩ (.int .i64 n) ne2).off ⟨(w.heap.size + 1), 2, none⟩ (.slice Ac l.length cc) ne2)
    replace hHeld := hHeld2
    clear hHeld2 hK K
    try simp only [List.getElem_toArray, List.getElem_cons_succ, List.getElem_cons_zero, Act.put, List.setIfInBounds_toArray, List.set_cons_zero, List.set_cons_succ]
    refine wpAnyH_done (by kernel_rfl) ?_ _
    have HF := Lib.hid ((((hB2.setCell (p := ⟨w.heap.size + 1, 0, none⟩) (Nat.le_succ _) (.int .i64 r)).setCell (p := ⟨w.heap.size + 1, 1, none⟩) (Nat.le_succ _) (.int .i64 n)).setCell (p := ⟨w.heap.size + 1, 2, none⟩) (Nat.le_succ _) (.slice Ac l.length cc)))
    have Hho := Lib.hid ((((ho2.set_ (k := w.heap.size + 1) (i := 0) ho_2 (.int .i64 r)).set_ (k := w.heap.size + 1) (i := 1) ho_2 (.int .i64 n)).set_ (k := w.heap.size + 1) (i := 2) ho_2 (.slice Ac l.length cc)))
    clear ho2
    have Hoc := Lib.hid ((((oc2.set_ (k := w.heap.size + 1) (i := 0) oc_2 (.int .i64 r)).set_ (k := w.heap.size + 1) (i := 1) oc_2 (.int .i64 n)).set_ (k := w.heap.size + 1) (i := 2) oc_2 (.slice Ac l.length cc)))
    clear oc2
    clear bE2 bS2 bR2 hB2 hHeld
    go_wp2
    exact bodyPost_ret (v := .tuple #[.agg #[(.int .i64 r), (.int .i64 n), (.slice Ad l.length cap)], .agg #[(.int .i64 r), (.int .i64 n), (.slice Ac l.length cc)]]) (by simp [results, Tryz.results28, go_sem, p1, p2, p3, s1, s2, s3]) rfl ⟨_, _, _, _, _, _, _, _, rfl, Hho.out.base (by omega), HQ.out, Hoc.out.base (by have h7 : w3.drew.heap.size = w3.heap.size := rfl; omega), HQ.out, HF.out⟩
  | false =>
    go_wp2
    refine wp_region_held_drew (S := fun X => Box X w2.heap.size (.cells #[.int .i64 r, .int .i64 n, .slice Ad l.length cap] 26 (0, 0))) (by kernel_rfl) bE (fun hHeld => ?_)
    replace hcur : Cur w3.drew k A len := hcur
    replace bR : Box w3.drew w.heap.size (Obj.cells #[.int .i64 0, .int .i64 0, .slice none 0 0] 26 (0, 0)) := bR
    replace bS : Box w3.drew (w.heap.size + 1) (Obj.cells #[.int .i64 0, .int .i64 0, .slice none 0 0] 26 (0, 0)) := bS
    replace bE : Box w3.drew w2.heap.size (.cells #[.int .i64 r, .int .i64 n, .slice Ad l.length cap] 26 (0, 0)) := bE
    replace ho : OwnN w3.drew w1.heap.size (.slice Ad l.length cap) l := ho.keep (Below.refl _ _).drew
    replace hB := hB.trans ((Below.refl _ _).drew.mono hB.size)
    refine wpAnyH_take (i := 0) (v := ?v18) rfl (by kernel_rfl) (by kernel_rfl) (by kernel_rfl) (fun _ _ _ h => h) (Or.inl ⟨by rfl, ?hy18⟩) (by assumption) ?rest18
    case hy18 => intro X hX; (try dsimp only at hX); obtain ⟨z1, z2, z3⟩ := Box.cells hX; go_simp <;> with_reducible rfl
    try simp only [List.getElem_toArray, List.getElem_cons_zero, Act.put, List.setIfInBounds_toArray, List.set_cons_zero, List.set_cons_succ]
    refine wpAnyH_take (i := 1) (v := ?v19) rfl (by kernel_rfl) (by kernel_rfl) (by kernel_rfl) (fun _ _ _ h => h) (Or.inl ⟨by rfl, ?hy19⟩) (by assumption) ?rest19
    case hy19 => intro X hX; (try dsimp only at hX); go_simp <;> with_reducible rfl
    try simp only [List.getElem_toArray, List.getElem_cons_succ, List.getElem_cons_zero, Act.put, List.setIfInBounds_toArray, List.set_cons_zero, List.set_cons_succ]
    refine wpAnyH_ready (rs := [2]) (by kernel_rfl) (by simp) ?_
    refine AllReadyH.cons rfl (fun K hK => ?_) AllReadyH.nil
    go_simp
    go_at_call 36
    refine (l4Any_any k A len _ hcur).mono ?_
    rintro e w4 ⟨r2, n2, v2, l2, rfl, oc, hq2, _, hg⟩
    have HQ2 := Lib.hid hq2
    obtain ⟨Ac, cc, rfl⟩ := id oc.edges.form
    have oc_1 : ∀ j, (Value.slice Ac l2.length cc).ownBlock = some j → j ≠ w.heap.size := fun j hj => by have h9 := oc.lo j hj; have h8 : w.heap.size + 1 < w3.heap.size := hlt3; have h7 : w3.drew.heap.size = w3.heap.size := rfl; omega
    have oc_2 : ∀ j, (Value.slice Ac l2.length cc).ownBlock = some j → j ≠ w.heap.size + 1 := fun j hj => by have h9 := oc.lo j hj; have h8 : w.heap.size + 1 < w3.heap.size := hlt3; have h7 : w3.drew.heap.size = w3.heap.size := rfl; omega
    replace bR := bR.apart hg hkR
    replace bS := bS.apart hg hkS
    replace bE := bE.apart hg hkG
    replace ho := ho.turned hg hkc
    replace hB := below_turn hB hg hk
    (try go_simp)
    refine hK.out _ _ bE (fun hHeld2 => ?_)
    replace hHeld := hHeld2
    clear hHeld2 hK K hg hq2
    try simp only [List.getElem_toArray, List.getElem_cons_succ, List.getElem_cons_zero, Act.put, List.setIfInBounds_toArray, List.set_cons_zero, List.set_cons_succ]
    obtain ⟨p1, p2, p3⟩ := bR.cells
    obtain ⟨s1, s2, s3⟩ := bS.cells
    have f1 := Box.froz bR 0
    have f2 := Box.froz bR 1
    have f3 := Box.froz bR 2
    have f4 := Box.froz bS 0
    have f5 := Box.froz bS 1
    have f6 := Box.froz bS 2
    refine wpAnyH_ready (rs := [3]) (by kernel_rfl) (by simp) ?_
    refine AllReadyH.cons rfl (fun K hK => ?_) AllReadyH.nil
    go_simp
    refine hK.out _ _ ?hk2 (fun hHeld2 => ?_)
    case hk2 => exact (((bE.off ⟨w.heap.size, 0, none⟩ (.int .i64 r) ne1).off ⟨w.heap.size, 1, none⟩ (.int .i64 n) ne1).off ⟨w.heap.size, 2, none⟩ (.slice Ad l.length cap) ne1)
    replace hHeld := hHeld2
    clear hHeld2 hK K
    try simp only [List.getElem_toArray, List.getElem_cons_succ, List.getElem_cons_zero, Act.put, List.setIfInBounds_toArray, List.set_cons_zero, List.set_cons_succ]
    have bE2 := (((bE.off ⟨w.heap.size, 0, none⟩ (.int .i64 r) ne1).off ⟨w.heap.size, 1, none⟩ (.int .i64 n) ne1).off ⟨w.heap.size, 2, none⟩ (.slice Ad l.length cap) ne1)
    have ho2 := (((ho.set_ (k := w.heap.size) (i := 0) ho_1 (.int .i64 r)).set_ (k := w.heap.size) (i := 1) ho_1 (.int .i64 n)).set_ (k := w.heap.size) (i := 2) ho_1 (.slice Ad l.length cap))
    have oc2 := (((oc.set_ (k := w.heap.size) (i := 0) oc_1 (.int .i64 r)).set_ (k := w.heap.size) (i := 1) oc_1 (.int .i64 n)).set_ (k := w.heap.size) (i := 2) oc_1 (.slice Ad l.length cap))
    have bS2 := (((bS.off ⟨w.heap.size, 0, none⟩ (.int .i64 r) (Nat.succ_ne_self _)).off ⟨w.heap.size, 1, none⟩ (.int .i64 n) (Nat.succ_ne_self _)).off ⟨w.heap.size, 2, none⟩ (.slice Ad l.length cap) (Nat.succ_ne_self _))
    have bR2 : Box _ w.heap.size (.cells #[(.int .i64 r), (.int .i64 n), (.slice Ad l.length cap)] 26 (0, 0)) := (((bR.put (i := 0) (.int .i64 r)).put (i := 1) (.int .i64 n)).put (i := 2) (.slice Ad l.length cap))
    have hB2 := (((hB.setCell (p := ⟨w.heap.size, 0, none⟩) (Nat.le_refl _) (.int .i64 r)).setCell (p := ⟨w.heap.size, 1, none⟩) (Nat.le_refl _) (.int .i64 n)).setCell (p := ⟨w.heap.size, 2, none⟩) (Nat.le_refl _) (.slice Ad l.length cap))
    clear bE ho oc bR bS hB p1 p2 p3 s1 s2 s3 f1 f2 f3 f4 f5 f6 hcur
    generalize (((World.setCell _ ⟨w.heap.size, 0, none⟩ _).setCell ⟨w.heap.size, 1, none⟩ _).setCell ⟨w.heap.size, 2, none⟩ _) = X at *
    obtain ⟨p1, p2, p3⟩ := bR2.cells
    obtain ⟨s1, s2, s3⟩ := bS2.cells
    have f4 := Box.froz bS2 0
    have f5 := Box.froz bS2 1
    have f6 := Box.froz bS2 2
    refine wpAnyH_ready (rs := [4]) (by kernel_rfl) (by simp) ?_
    refine AllReadyH.cons rfl (fun K hK => ?_) AllReadyH.nil
    go_simp
    refine hK.out _ _ ?hk3 (fun hHeld2 => ?_)
    case hk3 => exact (((bE2.off ⟨(w.heap.size + 1), 0, none⟩ (.int .i64 r2) ne2).off ⟨(w.heap.size + 1), 1, none⟩ (.int .i64 n2) ne2).off ⟨(w.heap.size + 1), 2, none⟩ (.slice Ac l2.length cc) ne2)
    replace hHeld := hHeld2
    clear hHeld2 hK K
    try simp only [List.getElem_toArray, List.getElem_cons_succ, List.getElem_cons_zero, Act.put, List.setIfInBounds_toArray, List.set_cons_zero, List.set_cons_succ]
    refine wpAnyH_done (by kernel_rfl) ?_ _
    have HF := Lib.hid ((((hB2.setCell (p := ⟨w.heap.size + 1, 0, none⟩) (Nat.le_succ _) (.int .i64 r2)).setCell (p := ⟨w.heap.size + 1, 1, none⟩) (Nat.le_succ _) (.int .i64 n2)).setCell (p := ⟨w.heap.size + 1, 2, none⟩) (Nat.le_succ _) (.slice Ac l2.length cc)))
    have Hho := Lib.hid ((((ho2.set_ (k := w.heap.size + 1) (i := 0) ho_2 (.int .i64 r2)).set_ (k := w.heap.size + 1) (i := 1) ho_2 (.int .i64 n2)).set_ (k := w.heap.size + 1) (i := 2) ho_2 (.slice Ac l2.length cc)))
    clear ho2
    have Hoc := Lib.hid ((((oc2.set_ (k := w.heap.size + 1) (i := 0) oc_2 (.int .i64 r2)).set_ (k := w.heap.size + 1) (i := 1) oc_2 (.int .i64 n2)).set_ (k := w.heap.size + 1) (i := 2) oc_2 (.slice Ac l2.length cc)))
    clear oc2
    clear bE2 bS2 bR2 hB2 hHeld
    go_wp2
    exact bodyPost_ret (v := .tuple #[.agg #[(.int .i64 r), (.int .i64 n), (.slice Ad l.length cap)], .agg #[(.int .i64 r2), (.int .i64 n2), (.slice Ac l2.length cc)]]) (by simp [results, Tryz.results28, go_sem, p1, p2, p3, s1, s2, s3]) rfl ⟨_, _, _, _, _, _, _, _, rfl, Hho.out.base (by omega), HQ.out, Hoc.out.base (by have h7 : w3.drew.heap.size = w3.heap.size := rfl; omega), HQ2.out, HF.out⟩

end Go.Proofs.YtpebiacdkfpnpaaGreat
