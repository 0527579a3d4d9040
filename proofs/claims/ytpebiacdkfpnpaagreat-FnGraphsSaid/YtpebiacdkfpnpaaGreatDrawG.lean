/- Contracts of the references' draws of graphs. Conditions: codes of at most 2^20 bytes. -/
import Derived.Test.YtpebiacdkfpnpaaGreatAddS
import Derived.Test.YtpebiacdkfpnpaaGreatPGraph
import Derived.Test.YtpebiacdkfpnpaaGreatDrawU
import Derived.Test.YtpebiacdkfpnpaaGreatLawA
import Derived.Deep.CutRange
import Derived.Deep.RegionHeld3
namespace Go.Proofs.YtpebiacdkfpnpaaGreat
open Go.RowKit

/-- A drawn edge. -/
def SmE (e : Ed) : Prop := (0 ≤ e.1 ∧ e.1 ≤ 8) ∧ (1 ≤ e.2.1 ∧ e.2.1 ≤ 3) ∧ (0 ≤ e.2.2 ∧ e.2.2 ≤ 8)
theorem SmE.i64 {e : Ed} (h : SmE e) : I64E e := by unfold SmE at h; unfold I64E I64; omega
theorem sm_mk {x1 x2 x3 N R : Nat} (h1 : x1 < N) (h2 : x2 < R) (h3 : x3 < N) (hN : N ≤ 5) (hR : R ≤ 3) : SmE ((x1 : Int), 1 + (x2 : Int), (x3 : Int)) := ⟨⟨by simp only; omega, by simp only; omega⟩, ⟨by simp only; omega, by simp only; omega⟩, ⟨by simp only; omega, by simp only; omega⟩⟩
theorem addEL_mem {r n : Int} {l : List Ed} {e u : Ed} (h : u ∈ addEL r n l e) : u = e ∨ u ∈ l := by
  cases h1 : addEOk r n l e with
  | false => rw [addE_no h1] at h; exact .inr h
  | true => rw [(addE_yes h1).1] at h; exact putE_mem h
theorem sm_add {r n : Int} {l : List Ed} {e : Ed} (h : ∀ u ∈ l, SmE u) (he : SmE e) : ∀ u ∈ addEL r n l e, SmE u := fun u hu => by
  rcases addEL_mem hu with rfl | h1
  · exact he
  · exact h u h1
theorem World.grownBy_refl2 (w : World) (row : Option Nat) : w.grownBy w.drew row := ⟨rfl, rfl, rfl, Nat.le_refl _, fun _ _ _ => rfl⟩
/-- A drawn graph of at most m edges. -/
def GQ (m : Nat) (r n : Int) (l : List Ed) : Prop := (-1 ≤ r ∧ r ≤ 4) ∧ (-1 ≤ n ∧ n ≤ 41) ∧ l.length ≤ m ∧ ∀ u ∈ l, SmE u
/-- A drawn graph is handed back; nothing is turned but the cursor. -/
def RetDG (w : World) (k : Nat) (A : Option Addr) (len m : Nat) (e : Ending) (w' : World) : Prop := ∃ r n v l, e = .returned (graphV r n v) ∧ OwnN w' w.heap.size v l ∧ GQ m r n l ∧ Cur w' k A len ∧ w.grownBy w' (some k)
/-- The state of a draw: the result's box, the graph's box, the cursor. -/
structure DGSt (w wr : World) (k kg : Nat) (A : Option Addr) (len : Nat) (r n : Int) (Ad : Option Addr) (cap : Nat) (l : List Ed) : Prop where
  kb : k < w.heap.size
  lt : w.heap.size < kg
  code : CodeLt A len w.heap.size
  res : Box wr w.heap.size (Obj.cells #[.int .i64 0, .int .i64 0, .slice none 0 0] 26 (0, 0))
  box : Box wr kg (.cells #[.int .i64 r, .int .i64 n, .slice Ad l.length cap] 26 (0, 0))
  own : OwnN wr (w.heap.size + 1) (.slice Ad l.length cap) l
  far : ∀ j, (Value.slice Ad l.length cap).ownBlock = some j → j ≠ kg
  cur : Cur wr k A len
  grown : w.grownBy wr (some k)
theorem OwnN.turned {w w' : World} {B k : Nat} {v : Value} {l : List Ed} (h : OwnN w B v l) (hg : w.grownBy w' (some k)) (hk : k < B) : OwnN w' B v l := by
  rcases h with h1 | h1
  · exact .inl h1
  · obtain ⟨g, hb, h2, _⟩ := h1.block
    exact .inr (h1.grown hg (by rw [hb]; simp only [ne_eq, Option.some.injEq]; omega))
theorem DGSt.keep {w wr w2 : World} {k kg : Nat} {A : Option Addr} {len : Nat} {r n : Int} {Ad : Option Addr} {cap : Nat} {l : List Ed} (h : DGSt w wr k kg A len r n Ad cap l) (hb : Below wr.heap.size wr w2) : DGSt w w2 k kg A len r n Ad cap l :=
  ⟨h.kb, h.lt, h.code, h.res.keep hb, h.box.keep hb, h.own.keep hb, h.far, h.cur.keep hb, h.grown.trans (grown_below hb)⟩
theorem DGSt.turned {w wr w2 : World} {k kg : Nat} {A : Option Addr} {len : Nat} {r n : Int} {Ad : Option Addr} {cap : Nat} {l : List Ed} (h : DGSt w wr k kg A len r n Ad cap l) (hg : wr.grownBy w2 (some k)) (hc : Cur w2 k A len) : DGSt w w2 k kg A len r n Ad cap l :=
  have hkb := h.kb
  have hlt := h.lt
  ⟨h.kb, h.lt, h.code, h.res.apart hg (by omega), h.box.apart hg (by omega), h.own.turned hg (by omega), h.far, hc, h.grown.trans hg⟩
theorem DGSt.set_ {w wr : World} {k kg : Nat} {A : Option Addr} {len : Nat} {r n : Int} {Ad : Option Addr} {cap : Nat} {l : List Ed} (h : DGSt w wr k kg A len r n Ad cap l) (i : Nat) (u : Value) (r' n' : Int)
    (hi : (#[.int .i64 r, .int .i64 n, .slice Ad l.length cap] : Array Value).setIfInBounds i u = #[.int .i64 r', .int .i64 n', .slice Ad l.length cap]) : DGSt w (wr.setCell ⟨kg, i, none⟩ u) k kg A len r' n' Ad cap l := by
  have hkb := h.kb
  have hlt := h.lt
  have b2 := h.box.put (i := i) u
  rw [hi] at b2
  exact ⟨h.kb, h.lt, h.code, h.res.off _ _ (by simp only [ne_eq]; omega), b2, h.own.set_ h.far u, h.far, h.cur.push (grown_set wr kg i u) hkb h.code (by omega), grown_push h.grown (grown_set wr kg i u) (by omega)⟩
theorem OwnN.lo2 {w : World} {B : Nat} {v : Value} {l : List Ed} (h : OwnN w B v l) : ∀ j, v.ownBlock = some j → B ≤ j := h.lo
/-- A graph goes into the graph's box. -/
theorem DGSt.put {w wr w2 : World} {k kg : Nat} {A : Option Addr} {len : Nat} {r n : Int} {Ad Ad' : Option Addr} {cap cap' : Nat} {l l' : List Ed} (h : DGSt w wr k kg A len r n Ad cap l) (hb : Below wr.heap.size wr w2) (ho : OwnN w2 wr.heap.size (.slice Ad' l'.length cap') l') (r' n' : Int) :
    DGSt w (((w2.setCell ⟨kg, 0, none⟩ (.int .i64 r')).setCell ⟨kg, 1, none⟩ (.int .i64 n')).setCell ⟨kg, 2, none⟩ (.slice Ad' l'.length cap')) k kg A len r' n' Ad' cap' l' := by
  have hkb := h.kb
  have hlt := h.lt
  have hk2 := h.keep hb
  have hbl := h.box.lt
  have hgs := h.grown.size
  have hne : ∀ j, (Value.slice Ad' l'.length cap').ownBlock = some j → j ≠ kg := fun j hj => by have := ho.lo j hj; omega
  have hgS := ((grown_set w2 kg 0 (.int .i64 r')).trans (grown_set _ kg 1 (.int .i64 n'))).trans (grown_set _ kg 2 (.slice Ad' l'.length cap'))
  refine ⟨h.kb, h.lt, h.code, ((hk2.res.off _ _ (by simp only [ne_eq]; omega)).off _ _ (by simp only [ne_eq]; omega)).off _ _ (by simp only [ne_eq]; omega), ?_, ?_, hne, hk2.cur.push hgS hkb h.code (by omega), grown_push hk2.grown hgS (by omega)⟩
  · exact ((hk2.box.put (i := 0) (.int .i64 r')).put (i := 1) (.int .i64 n')).put (i := 2) (.slice Ad' l'.length cap')
  · exact ((((ho.base (B' := w.heap.size + 1) (by omega)).set_ hne _).set_ hne _).set_ hne _)
/-- The graph goes into the result's box. -/
theorem DGSt.finish {w wr : World} {k kg : Nat} {A : Option Addr} {len : Nat} {r n : Int} {Ad : Option Addr} {cap : Nat} {l : List Ed} (h : DGSt w wr k kg A len r n Ad cap l) (a b c : Value) :
    OwnN (((wr.setCell ⟨w.heap.size, 0, none⟩ a).setCell ⟨w.heap.size, 1, none⟩ b).setCell ⟨w.heap.size, 2, none⟩ c) w.heap.size (.slice Ad l.length cap) l ∧ Cur (((wr.setCell ⟨w.heap.size, 0, none⟩ a).setCell ⟨w.heap.size, 1, none⟩ b).setCell ⟨w.heap.size, 2, none⟩ c) k A len ∧
      w.grownBy (((wr.setCell ⟨w.heap.size, 0, none⟩ a).setCell ⟨w.heap.size, 1, none⟩ b).setCell ⟨w.heap.size, 2, none⟩ c) (some k) := by
  have hgS := ((grown_set wr w.heap.size 0 a).trans (grown_set _ w.heap.size 1 b)).trans (grown_set _ w.heap.size 2 c)
  have hne : ∀ j, (Value.slice Ad l.length cap).ownBlock = some j → j ≠ w.heap.size := fun j hj => by have := h.own.lo j hj; omega
  exact ⟨((((h.own.base (B' := w.heap.size) (by omega)).set_ hne _).set_ hne _).set_ hne _), h.cur.push hgS h.kb h.code (Nat.le_refl _), grown_push h.grown hgS (Nat.le_refl _)⟩
theorem lit_neG {k g n : Nat} (hk : k < g) : ∀ b off cap, (Value.slice (some ⟨g, 0, none⟩) n n) = .slice (some ⟨b, off, none⟩) n cap → b ≠ k := by
  intro b off cap e
  simp only [Value.slice.injEq, Option.some.injEq, Addr.mk.injEq] at e
  omega
set_option maxRecDepth 20000 in
set_option maxHeartbeats 3200000 in
theorem l4Graph_any (k : Nat) (A : Option Addr) (len : Nat) (w : World) (h : Cur w k A len) : Calls Tryz.prog 66 #[.pointer (some ⟨k, 0, none⟩)] w (RetDG w k A len 8) := by
  have hk := h.lt
  have hA := h.code
  have bR : Box (w.alloc (Obj.cells #[.int .i64 0, .int .i64 0, .slice none 0 0] 26 (0, 0))) w.heap.size (Obj.cells #[.int .i64 0, .int .i64 0, .slice none 0 0] 26 (0, 0)) := Box.new _ _
  have hb1 : Below w.heap.size w (w.alloc (Obj.cells #[.int .i64 0, .int .i64 0, .slice none 0 0] 26 (0, 0))) := (Below.refl _ _).alloc (Nat.le_refl _) _
  have hal : Below (w.alloc (Obj.cells #[.int .i64 0, .int .i64 0, .slice none 0 0] 26 (0, 0))).heap.size (w.alloc (Obj.cells #[.int .i64 0, .int .i64 0, .slice none 0 0] 26 (0, 0))) ((w.alloc (Obj.cells #[.int .i64 0, .int .i64 0, .slice none 0 0] 26 (0, 0))).alloc (.cells #[.int .i64 1, .int .i64 2, .int .i64 2, .int .i64 2, .int .i64 3] 3 (0, 0))) := (Below.refl _ _).alloc (Nat.le_refl _) _
  have hI : Ints ((w.alloc (Obj.cells #[.int .i64 0, .int .i64 0, .slice none 0 0] 26 (0, 0))).alloc (.cells #[.int .i64 1, .int .i64 2, .int .i64 2, .int .i64 2, .int .i64 3] 3 (0, 0))) (.slice (some ⟨w.heap.size + 1, 0, none⟩) 5 5) [1, 2, 2, 2, 3] := by
    have h5 := ints_lit (w.alloc (Obj.cells #[.int .i64 0, .int .i64 0, .slice none 0 0] 26 (0, 0))) [1, 2, 2, 2, 3] (by simp [I64])
    rw [show (w.alloc (Obj.cells #[.int .i64 0, .int .i64 0, .slice none 0 0] 26 (0, 0))).heap.size = w.heap.size + 1 by simp] at h5
    exact h5
  have HP := Lib.hid (l1PickInt_any k A len _ [1, 2, 2, 2, 3] _ ((h.keep hb1).keep hal) hI (lit_neG (by omega)) (by decide) (by decide))
  replace bR := bR.keep hal
  have hbA := hb1.trans (hal.mono hb1.size)
  clear hI hb1 hal h
  go_enter Tryz.func66, Tryz.ntmps66
  go_wp2_with fail
  refine (HP.out).mono ?_
  rintro e w1 ⟨x, rfl, hx, hc1, hg1⟩
  obtain ⟨R, rfl, h1, h3⟩ : ∃ R : Nat, x = (R : Int) ∧ 1 ≤ R ∧ R ≤ 3 := by
    simp at hx
    exact ⟨x.toNat, by omega, by omega, by omega⟩
  replace bR := bR.apart hg1 (by omega)
  replace hg1 := (grown_below hbA).trans hg1
  clear hx HP hbA
  go_wp2_with fail
  refine (l1Below_small k A len 5 w1 hc1 (by decide) (by decide)).mono ?_
  rintro e w2 ⟨y, rfl, hy, hc2, hg2⟩
  replace bR := bR.apart hg2 (by omega)
  replace hg2 := hg1.trans hg2
  clear hc1 hg1
  obtain ⟨N, hN1, hN5, hNe⟩ : ∃ N : Nat, 1 ≤ N ∧ N ≤ 5 ∧ (1 + (y : Int)) = (N : Int) := ⟨1 + y, by omega, by omega, by omega⟩
  have hlt2 : w.heap.size < w2.heap.size := bR.lt
  have hal : Below w2.heap.size w2 (w2.alloc (.cells #[.int .i64 R, .int .i64 N, .slice none 0 0] 26 (0, 0))) := (Below.refl _ _).alloc (Nat.le_refl _) _
  have HB := Lib.hid (l1Below_small k A len 9 _ (hc2.keep hal) (by decide) (by decide))
  go_wp2_with fail
  refine (HB.out).mono ?_
  rintro e w3 ⟨m, rfl, hm, hc3, hg3⟩
  have bG := (Box.new w2 (.cells #[.int .i64 R, .int .i64 N, .slice none 0 0] 26 (0, 0))).apart hg3 (by omega)
  replace bR := (bR.keep hal).apart hg3 (by omega)
  have hst : DGSt w w3 k w2.heap.size A len R N none 0 [] := ⟨hk, hlt2, hA, bR, bG, .inl ⟨rfl, rfl⟩, (fun j hj => by cases hj), hc3, hg2.trans ((grown_below hal).trans hg3)⟩
  obtain ⟨kg, hkg⟩ : ∃ z, z = w2.heap.size := ⟨_, rfl⟩
  rw [← hkg] at hst ⊢
  have HN := Lib.hid (show 0 < N ∧ N ≤ 5 from ⟨hN1, hN5⟩)
  have HR := Lib.hid (show 0 < R ∧ R ≤ 3 from ⟨h1, h3⟩)
  clear hkg HB hal bG bR hc3 hg3 hg2 hc2 hNe hlt2 hN1 hN5 h1 h3
  go_wp2
  go_loopw [4, 5] (fun n _ wr => ∃ (j : Nat) (Ad : Option Addr) (cap : Nat) (l : List Ed), n = .int .i64 j ∧ j + l.length ≤ 8 ∧ DGSt w wr k kg A len R N Ad cap l ∧ Kept (∀ u ∈ l, SmE u)) (fun n _ _ => (intOf n).toNat)
  case atStart => exact ⟨m, none, 0, [], rfl, by simp; omega, hst, ⟨by simp⟩⟩
  case round =>
    obtain ⟨j, Ad, cap, l, rfl, hjl, hst, hsm⟩ := hrel
    by_cases hj : 0 < j
    case neg =>
      obtain rfl : j = 0 := by omega
      obtain ⟨q1, q2, q3⟩ := hst.box.cells
      obtain ⟨p1, p2, p3⟩ := hst.res.cells
      have f1 := Box.froz hst.res 0
      have f2 := Box.froz hst.res 1
      have f3 := Box.froz hst.res 2
      have hfin := hst.finish (.int .i64 R) (.int .i64 N) (.slice Ad l.length cap)
      have HF := Lib.hid hfin
      have HGQ : Hid (GQ 8 R N l) := Lib.hid ⟨by have := HR.out; omega, by have := HN.out; omega, by omega, hsm.out⟩
      clear hfin
      go_wp2
      exact bodyPost_ret (v := graphV R N (.slice Ad l.length cap)) (by simp [results, Tryz.results66, go_sem, p1, p2, p3]) rfl ⟨_, _, _, _, rfl, HF.out.1, HGQ.out, HF.out.2.1, HF.out.2.2⟩
    have hjI : (0 : Int) < (j : Int) := by omega
    have BG := Lib.hid hst.box
    have HCUR := Lib.hid hst.cur
    have hkg : kg ≠ k := by have := hst.kb; have := hst.lt; omega
    go_upto_region 5 with fail
    go_cut [5] from 15 to 38 (fun s X => ∃ (ke : Nat) (a b c : Int), s = .pointer (some ⟨ke, 0, none⟩) ∧ Box X ke (Obj.cells #[.int .i64 a, .int .i64 b, .int .i64 c] 28) ∧ SmE (a, b, c) ∧ wr.heap.size ≤ ke ∧ Cur X k A len ∧ wr.grownBy X (some k))
    case first =>
      refine wp_region_held_drew (S := fun X => wr.grownBy X (some k)) (by kernel_rfl) (World.grownBy_refl2 wr (some k)) (fun hHeld => ?_)
      have hcur : Cur wr.drew k A len := HCUR.out
      refine wpAnyH_take (i := 0) (v := ?v1) rfl (by kernel_rfl) (by kernel_rfl) (by kernel_rfl) (fun _ _ _ h => h) (Or.inl ⟨by rfl, ?hy1⟩) (by assumption) ?rest1
      case hy1 => intro X hX; (try dsimp only at hX); go_simp <;> with_reducible rfl
      try simp only [List.getElem_toArray, List.getElem_cons_zero, Act.put, List.setIfInBounds_toArray, List.set_cons_zero, List.set_cons_succ]
      refine wpAnyH_take (i := 1) (v := ?v2) rfl (by kernel_rfl) (by kernel_rfl) (by kernel_rfl) (fun _ _ _ h => h) (Or.inl ⟨by rfl, ?hy2⟩) (by assumption) ?rest2
      case hy2 => intro X hX; (try dsimp only at hX); go_simp <;> with_reducible rfl
      try simp only [List.getElem_toArray, List.getElem_cons_succ, List.getElem_cons_zero, Act.put, List.setIfInBounds_toArray, List.set_cons_zero, List.set_cons_succ]
      refine wpAnyH_take (i := 2) (v := ?v3) rfl (by kernel_rfl) (by kernel_rfl) (by kernel_rfl) (fun _ _ _ h => h) (Or.inl ⟨by rfl, ?hy3⟩) (by assumption) ?rest3
      case hy3 => intro X hX; (try dsimp only at hX); obtain ⟨z1, z2, z3⟩ := (BG.out.apart hX hkg).cells; go_simp <;> with_reducible rfl
      try simp only [List.getElem_toArray, List.getElem_cons_succ, List.getElem_cons_zero, Act.put, List.setIfInBounds_toArray, List.set_cons_zero, List.set_cons_succ]
      refine wpAnyH_take (i := 4) (v := ?v4) rfl (by kernel_rfl) (by kernel_rfl) (by kernel_rfl) (fun _ _ _ h => h) (Or.inl ⟨by rfl, ?hy4⟩) (by assumption) ?rest4
      case hy4 => intro X hX; (try dsimp only at hX); go_simp <;> with_reducible rfl
      try simp only [List.getElem_toArray, List.getElem_cons_succ, List.getElem_cons_zero, Act.put, List.setIfInBounds_toArray, List.set_cons_zero, List.set_cons_succ]
      refine wpAnyH_take (i := 5) (v := ?v5) rfl (by kernel_rfl) (by kernel_rfl) (by kernel_rfl) (fun _ _ _ h => h) (Or.inl ⟨by rfl, ?hy5⟩) (by assumption) ?rest5
      case hy5 => intro X hX; (try dsimp only at hX); go_simp <;> with_reducible rfl
      try simp only [List.getElem_toArray, List.getElem_cons_succ, List.getElem_cons_zero, Act.put, List.setIfInBounds_toArray, List.set_cons_zero, List.set_cons_succ]
      refine wpAnyH_take (i := 6) (v := ?v6) rfl (by kernel_rfl) (by kernel_rfl) (by kernel_rfl) (fun _ _ _ h => h) (Or.inl ⟨by rfl, ?hy6⟩) (by assumption) ?rest6
      case hy6 => intro X hX; (try dsimp only at hX); obtain ⟨z1, z2, z3⟩ := (BG.out.apart hX hkg).cells; go_simp <;> with_reducible rfl
      try simp only [List.getElem_toArray, List.getElem_cons_succ, List.getElem_cons_zero, Act.put, List.setIfInBounds_toArray, List.set_cons_zero, List.set_cons_succ]
      refine wpAnyH_take (i := 9) (v := ?v7) rfl (by kernel_rfl) (by kernel_rfl) (by kernel_rfl) (fun _ _ _ h => h) (Or.inl ⟨by rfl, ?hy7⟩) (by assumption) ?rest7
      case hy7 => intro X hX; (try dsimp only at hX); go_simp <;> with_reducible rfl
      try simp only [List.getElem_toArray, List.getElem_cons_succ, List.getElem_cons_zero, Act.put, List.setIfInBounds_toArray, List.set_cons_zero, List.set_cons_succ]
      refine wpAnyH_take (i := 10) (v := ?v8) rfl (by kernel_rfl) (by kernel_rfl) (by kernel_rfl) (fun _ _ _ h => h) (Or.inl ⟨by rfl, ?hy8⟩) (by assumption) ?rest8
      case hy8 => intro X hX; (try dsimp only at hX); go_simp <;> with_reducible rfl
      try simp only [List.getElem_toArray, List.getElem_cons_succ, List.getElem_cons_zero, Act.put, List.setIfInBounds_toArray, List.set_cons_zero, List.set_cons_succ]
      refine wpAnyH_take (i := 11) (v := ?v9) rfl (by kernel_rfl) (by kernel_rfl) (by kernel_rfl) (fun _ _ _ h => h) (Or.inl ⟨by rfl, ?hy9⟩) (by assumption) ?rest9
      case hy9 => intro X hX; (try dsimp only at hX); obtain ⟨z1, z2, z3⟩ := (BG.out.apart hX hkg).cells; go_simp <;> with_reducible rfl
      try simp only [List.getElem_toArray, List.getElem_cons_succ, List.getElem_cons_zero, Act.put, List.setIfInBounds_toArray, List.set_cons_zero, List.set_cons_succ]
      refine wpAnyH_ready (rs := [3, 14]) (by kernel_rfl) (by simp) ?_
      refine AllReadyH.cons rfl (fun K hK => ?_) (AllReadyH.cons rfl (fun K hK => ?_) AllReadyH.nil)
      · go_simp
        go_at_call 54
        refine (l1Below_small k A len N _ hcur (HN.out).1 (by have := (HN.out).2; omega)).mono ?_
        rintro e q0 ⟨x1, rfl, hx1, hc, hg⟩
        replace hcur := hc
        (try go_simp)
        have hHn := hHeld.trans hg
        refine hK.out _ _ (hHn) (fun hHeld2 => ?_)
        replace hHeld := hHeld2
        clear hHeld2 hK K
        try simp only [List.getElem_toArray, List.getElem_cons_succ, List.getElem_cons_zero, Act.put, List.setIfInBounds_toArray, List.set_cons_zero, List.set_cons_succ]
        clear hHn hg hc
        refine wpAnyH_ready (rs := [7, 14]) (by kernel_rfl) (by simp) ?_
        refine AllReadyH.cons rfl (fun K hK => ?_) (AllReadyH.cons rfl (fun K hK => ?_) AllReadyH.nil)
        · go_simp
          go_at_call 54
          refine (l1Below_small k A len R _ hcur (HR.out).1 (by have := (HR.out).2; omega)).mono ?_
          rintro e q1 ⟨x2, rfl, hx2, hc, hg⟩
          replace hcur := hc
          (try go_simp)
          have hHn := hHeld.trans hg
          refine hK.out _ _ (hHn) (fun hHeld2 => ?_)
          replace hHeld := hHeld2
          clear hHeld2 hK K
          try simp only [List.getElem_toArray, List.getElem_cons_succ, List.getElem_cons_zero, Act.put, List.setIfInBounds_toArray, List.set_cons_zero, List.set_cons_succ]
          clear hHn hg hc
          have hwr : IntKind.i64.wrap (1 + (x2 : Int)) = 1 + (x2 : Int) := IntWalk.i64_in _ (by have := HR.out; omega)
          refine wpAnyH_take (i := 8) (v := ?v10) rfl (by kernel_rfl) (by kernel_rfl) (by kernel_rfl) (fun _ _ _ h => h) (Or.inl ⟨by rfl, ?hy10⟩) (by assumption) ?rest10
          case hy10 => intro X hX; (try dsimp only at hX); go_simp <;> with_reducible rfl
          try simp only [List.getElem_toArray, List.getElem_cons_succ, List.getElem_cons_zero, Act.put, List.setIfInBounds_toArray, List.set_cons_zero, List.set_cons_succ]
          refine wpAnyH_ready (rs := [12, 14]) (by kernel_rfl) (by simp) ?_
          refine AllReadyH.cons rfl (fun K hK => ?_) (AllReadyH.cons rfl (fun K hK => ?_) AllReadyH.nil)
          · go_simp
            go_at_call 54
            refine (l1Below_small k A len N _ hcur (HN.out).1 (by have := (HN.out).2; omega)).mono ?_
            rintro e q2 ⟨x3, rfl, hx3, hc, hg⟩
            replace hcur := hc
            (try go_simp)
            have hHn := hHeld.trans hg
            refine hK.out _ _ (hHn) (fun hHeld2 => ?_)
            replace hHeld := hHeld2
            clear hHeld2 hK K
            try simp only [List.getElem_toArray, List.getElem_cons_succ, List.getElem_cons_zero, Act.put, List.setIfInBounds_toArray, List.set_cons_zero, List.set_cons_succ]
            clear hHn hg hc
            refine wpAnyH_take (i := 13) (v := ?v11) rfl (by kernel_rfl) (by kernel_rfl) (by kernel_rfl) (fun _ _ _ h => h) (Or.inl ⟨by rfl, ?hy11⟩) (by assumption) ?rest11
            case hy11 => intro X hX; (try dsimp only at hX); go_simp <;> with_reducible rfl
            try simp only [List.getElem_toArray, List.getElem_cons_succ, List.getElem_cons_zero, Act.put, List.setIfInBounds_toArray, List.set_cons_zero, List.set_cons_succ]
            have hH0 := hHeld
            have hc0 := hcur
            refine wpAnyH_ready (rs := [14]) (by kernel_rfl) (by simp) ?_
            refine AllReadyH.cons rfl (fun K hK => ?_) AllReadyH.nil
            go_simp
            have bn : Box (q2.alloc (Obj.cells #[.int .i64 0, .int .i64 0, .int .i64 0] 28)) (q2.heap.size) (Obj.cells #[.int .i64 0, .int .i64 0, .int .i64 0] 28) := Box.new _ _
            have hHn := hHeld.trans (World.grownBy_alloc q2 (Obj.cells #[.int .i64 0, .int .i64 0, .int .i64 0] 28) (some k))
            have hkb : wr.heap.size ≤ q2.heap.size := hHeld.size
            have hkb2 : q2.heap.size ≠ k := by have := HCUR.out.lt; omega
            replace hcur := hcur.keep ((Below.refl _ _).alloc (Nat.le_refl _) (Obj.cells #[.int .i64 0, .int .i64 0, .int .i64 0] 28))
            refine hK.out _ _ (hHn) (fun hHeld2 => ?_)
            replace hHeld := hHeld2
            clear hHeld2 hK K
            try simp only [List.getElem_toArray, List.getElem_cons_succ, List.getElem_cons_zero, Act.put, List.setIfInBounds_toArray, List.set_cons_zero, List.set_cons_succ]
            clear hHn
            refine wpAnyH_ready (rs := [15]) (by kernel_rfl) (by simp) ?_
            refine AllReadyH.cons rfl (fun K hK => ?_) AllReadyH.nil
            go_simp
            refine hK.out _ _ (hH0.trans (World.grownBy_alloc _ _ (some k))) (fun hHeld2 => ?_)
            replace hHeld := hHeld2
            clear hHeld2 hK K
            try simp only [List.getElem_toArray, List.getElem_cons_succ, List.getElem_cons_zero, Act.put, List.setIfInBounds_toArray, List.set_cons_zero, List.set_cons_succ]
            refine wpAnyH_done (by kernel_rfl) ?_ _
            go_wp2_with fail
            go_meet
            case rel => exact ⟨_, _, _, _, rfl, Box.new _ _, sm_mk hx1 hx2 hx3 HN.out.2 HR.out.2, hkb, hc0.keep ((Below.refl _ _).alloc (Nat.le_refl _) _), hH0.trans (World.grownBy_alloc _ _ (some k))⟩
          · go_simp
            have bn : Box (q1.alloc (Obj.cells #[.int .i64 0, .int .i64 0, .int .i64 0] 28)) (q1.heap.size) (Obj.cells #[.int .i64 0, .int .i64 0, .int .i64 0] 28) := Box.new _ _
            have hHn := hHeld.trans (World.grownBy_alloc q1 (Obj.cells #[.int .i64 0, .int .i64 0, .int .i64 0] 28) (some k))
            have hkb : wr.heap.size ≤ q1.heap.size := hHeld.size
            have hkb2 : q1.heap.size ≠ k := by have := HCUR.out.lt; omega
            replace hcur := hcur.keep ((Below.refl _ _).alloc (Nat.le_refl _) (Obj.cells #[.int .i64 0, .int .i64 0, .int .i64 0] 28))
            refine hK.out _ _ (hHn) (fun hHeld2 => ?_)
            replace hHeld := hHeld2
            clear hHeld2 hK K
            try simp only [List.getElem_toArray, List.getElem_cons_succ, List.getElem_cons_zero, Act.put, List.setIfInBounds_toArray, List.set_cons_zero, List.set_cons_succ]
            clear hHn
            refine wpAnyH_ready (rs := [12]) (by kernel_rfl) (by simp) ?_
            refine AllReadyH.cons rfl (fun K hK => ?_) AllReadyH.nil
            go_simp
            go_at_call 54
            refine (l1Below_small k A len N _ hcur (HN.out).1 (by have := (HN.out).2; omega)).mono ?_
            rintro e q2 ⟨x3, rfl, hx3, hc, hg⟩
            replace hcur := hc
            replace bn := bn.apart hg hkb2
            (try go_simp)
            have hHn := hHeld.trans hg
            refine hK.out _ _ (hHn) (fun hHeld2 => ?_)
            replace hHeld := hHeld2
            clear hHeld2 hK K
            try simp only [List.getElem_toArray, List.getElem_cons_succ, List.getElem_cons_zero, Act.put, List.setIfInBounds_toArray, List.set_cons_zero, List.set_cons_succ]
            clear hHn hg hc
            refine wpAnyH_take (i := 13) (v := ?v12) rfl (by kernel_rfl) (by kernel_rfl) (by kernel_rfl) (fun _ _ _ h => h) (Or.inl ⟨by rfl, ?hy12⟩) (by assumption) ?rest12
            case hy12 => intro X hX; (try dsimp only at hX); go_simp <;> with_reducible rfl
            try simp only [List.getElem_toArray, List.getElem_cons_succ, List.getElem_cons_zero, Act.put, List.setIfInBounds_toArray, List.set_cons_zero, List.set_cons_succ]
            obtain ⟨b1, b2, b3⟩ := bn.cells
            have b4 := Box.froz bn 0
            have b5 := Box.froz bn 1
            have b6 := Box.froz bn 2
            have bx9 : Box _ (q1.heap.size) (Obj.cells #[(.int .i64 (x1 : Int)), (.int .i64 (1 + (x2 : Int))), (.int .i64 (x3 : Int))] 28) := ((bn.put (i := 0) (.int .i64 (x1 : Int))).put (i := 1) (.int .i64 (1 + (x2 : Int)))).put (i := 2) (.int .i64 (x3 : Int))
            have hgS := ((grown_set q2 (q1.heap.size) 0 (.int .i64 (x1 : Int))).trans (grown_set _ (q1.heap.size) 1 (.int .i64 (1 + (x2 : Int))))).trans (grown_set _ (q1.heap.size) 2 (.int .i64 (x3 : Int)))
            have hH9 := grown_push hHeld hgS hkb
            have hc9 := hcur.push hgS HCUR.out.lt HCUR.out.code hkb
            refine wpAnyH_ready (rs := [15]) (by kernel_rfl) (by simp) ?_
            refine AllReadyH.cons rfl (fun K hK => ?_) AllReadyH.nil
            go_simp
            refine hK.out _ _ (hH9) (fun hHeld2 => ?_)
            replace hHeld := hHeld2
            clear hHeld2 hK K
            try simp only [List.getElem_toArray, List.getElem_cons_succ, List.getElem_cons_zero, Act.put, List.setIfInBounds_toArray, List.set_cons_zero, List.set_cons_succ]
            refine wpAnyH_done (by kernel_rfl) ?_ _
            go_wp2_with fail
            go_meet
            case rel => exact ⟨_, _, _, _, rfl, bx9, sm_mk hx1 hx2 hx3 HN.out.2 HR.out.2, hkb, hc9, hH9⟩
        · go_simp
          have bn : Box (q0.alloc (Obj.cells #[.int .i64 0, .int .i64 0, .int .i64 0] 28)) (q0.heap.size) (Obj.cells #[.int .i64 0, .int .i64 0, .int .i64 0] 28) := Box.new _ _
          have hHn := hHeld.trans (World.grownBy_alloc q0 (Obj.cells #[.int .i64 0, .int .i64 0, .int .i64 0] 28) (some k))
          have hkb : wr.heap.size ≤ q0.heap.size := hHeld.size
          have hkb2 : q0.heap.size ≠ k := by have := HCUR.out.lt; omega
          replace hcur := hcur.keep ((Below.refl _ _).alloc (Nat.le_refl _) (Obj.cells #[.int .i64 0, .int .i64 0, .int .i64 0] 28))
          refine hK.out _ _ (hHn) (fun hHeld2 => ?_)
          replace hHeld := hHeld2
          clear hHeld2 hK K
          try simp only [List.getElem_toArray, List.getElem_cons_succ, List.getElem_cons_zero, Act.put, List.setIfInBounds_toArray, List.set_cons_zero, List.set_cons_succ]
          clear hHn
          refine wpAnyH_ready (rs := [7]) (by kernel_rfl) (by simp) ?_
          refine AllReadyH.cons rfl (fun K hK => ?_) AllReadyH.nil
          go_simp
          go_at_call 54
          refine (l1Below_small k A len R _ hcur (HR.out).1 (by have := (HR.out).2; omega)).mono ?_
          rintro e q1 ⟨x2, rfl, hx2, hc, hg⟩
          replace hcur := hc
          replace bn := bn.apart hg hkb2
          (try go_simp)
          have hHn := hHeld.trans hg
          refine hK.out _ _ (hHn) (fun hHeld2 => ?_)
          replace hHeld := hHeld2
          clear hHeld2 hK K
          try simp only [List.getElem_toArray, List.getElem_cons_succ, List.getElem_cons_zero, Act.put, List.setIfInBounds_toArray, List.set_cons_zero, List.set_cons_succ]
          clear hHn hg hc
          have hwr : IntKind.i64.wrap (1 + (x2 : Int)) = 1 + (x2 : Int) := IntWalk.i64_in _ (by have := HR.out; omega)
          refine wpAnyH_take (i := 8) (v := ?v13) rfl (by kernel_rfl) (by kernel_rfl) (by kernel_rfl) (fun _ _ _ h => h) (Or.inl ⟨by rfl, ?hy13⟩) (by assumption) ?rest13
          case hy13 => intro X hX; (try dsimp only at hX); go_simp <;> with_reducible rfl
          try simp only [List.getElem_toArray, List.getElem_cons_succ, List.getElem_cons_zero, Act.put, List.setIfInBounds_toArray, List.set_cons_zero, List.set_cons_succ]
          refine wpAnyH_ready (rs := [12]) (by kernel_rfl) (by simp) ?_
          refine AllReadyH.cons rfl (fun K hK => ?_) AllReadyH.nil
          go_simp
          go_at_call 54
          refine (l1Below_small k A len N _ hcur (HN.out).1 (by have := (HN.out).2; omega)).mono ?_
          rintro e q2 ⟨x3, rfl, hx3, hc, hg⟩
          replace hcur := hc
          replace bn := bn.apart hg hkb2
          (try go_simp)
          have hHn := hHeld.trans hg
          refine hK.out _ _ (hHn) (fun hHeld2 => ?_)
          replace hHeld := hHeld2
          clear hHeld2 hK K
          try simp only [List.getElem_toArray, List.getElem_cons_succ, List.getElem_cons_zero, Act.put, List.setIfInBounds_toArray, List.set_cons_zero, List.set_cons_succ]
          clear hHn hg hc
          refine wpAnyH_take (i := 13) (v := ?v14) rfl (by kernel_rfl) (by kernel_rfl) (by kernel_rfl) (fun _ _ _ h => h) (Or.inl ⟨by rfl, ?hy14⟩) (by assumption) ?rest14
          case hy14 => intro X hX; (try dsimp only at hX); go_simp <;> with_reducible rfl
          try simp only [List.getElem_toArray, List.getElem_cons_succ, List.getElem_cons_zero, Act.put, List.setIfInBounds_toArray, List.set_cons_zero, List.set_cons_succ]
          obtain ⟨b1, b2, b3⟩ := bn.cells
          have b4 := Box.froz bn 0
          have b5 := Box.froz bn 1
          have b6 := Box.froz bn 2
          have bx9 : Box _ (q0.heap.size) (Obj.cells #[(.int .i64 (x1 : Int)), (.int .i64 (1 + (x2 : Int))), (.int .i64 (x3 : Int))] 28) := ((bn.put (i := 0) (.int .i64 (x1 : Int))).put (i := 1) (.int .i64 (1 + (x2 : Int)))).put (i := 2) (.int .i64 (x3 : Int))
          have hgS := ((grown_set q2 (q0.heap.size) 0 (.int .i64 (x1 : Int))).trans (grown_set _ (q0.heap.size) 1 (.int .i64 (1 + (x2 : Int))))).trans (grown_set _ (q0.heap.size) 2 (.int .i64 (x3 : Int)))
          have hH9 := grown_push hHeld hgS hkb
          have hc9 := hcur.push hgS HCUR.out.lt HCUR.out.code hkb
          refine wpAnyH_ready (rs := [15]) (by kernel_rfl) (by simp) ?_
          refine AllReadyH.cons rfl (fun K hK => ?_) AllReadyH.nil
          go_simp
          refine hK.out _ _ (hH9) (fun hHeld2 => ?_)
          replace hHeld := hHeld2
          clear hHeld2 hK K
          try simp only [List.getElem_toArray, List.getElem_cons_succ, List.getElem_cons_zero, Act.put, List.setIfInBounds_toArray, List.set_cons_zero, List.set_cons_succ]
          refine wpAnyH_done (by kernel_rfl) ?_ _
          go_wp2_with fail
          go_meet
          case rel => exact ⟨_, _, _, _, rfl, bx9, sm_mk hx1 hx2 hx3 HN.out.2 HR.out.2, hkb, hc9, hH9⟩
      · go_simp
        have bn : Box (wr.drew.alloc (Obj.cells #[.int .i64 0, .int .i64 0, .int .i64 0] 28)) (wr.heap.size) (Obj.cells #[.int .i64 0, .int .i64 0, .int .i64 0] 28) := Box.new _ _
        have hHn := hHeld.trans (World.grownBy_alloc wr.drew (Obj.cells #[.int .i64 0, .int .i64 0, .int .i64 0] 28) (some k))
        have hkb : wr.heap.size ≤ wr.heap.size := hHeld.size
        have hkb2 : wr.heap.size ≠ k := by have := HCUR.out.lt; omega
        replace hcur := hcur.keep ((Below.refl _ _).alloc (Nat.le_refl _) (Obj.cells #[.int .i64 0, .int .i64 0, .int .i64 0] 28))
        refine hK.out _ _ (hHn) (fun hHeld2 => ?_)
        replace hHeld := hHeld2
        clear hHeld2 hK K
        try simp only [List.getElem_toArray, List.getElem_cons_succ, List.getElem_cons_zero, Act.put, List.setIfInBounds_toArray, List.set_cons_zero, List.set_cons_succ]
        clear hHn
        refine wpAnyH_ready (rs := [3]) (by kernel_rfl) (by simp) ?_
        refine AllReadyH.cons rfl (fun K hK => ?_) AllReadyH.nil
        go_simp
        go_at_call 54
        refine (l1Below_small k A len N _ hcur (HN.out).1 (by have := (HN.out).2; omega)).mono ?_
        rintro e q0 ⟨x1, rfl, hx1, hc, hg⟩
        replace hcur := hc
        replace bn := bn.apart hg hkb2
        (try go_simp)
        have hHn := hHeld.trans hg
        refine hK.out _ _ (hHn) (fun hHeld2 => ?_)
        replace hHeld := hHeld2
        clear hHeld2 hK K
        try simp only [List.getElem_toArray, List.getElem_cons_succ, List.getElem_cons_zero, Act.put, List.setIfInBounds_toArray, List.set_cons_zero, List.set_cons_succ]
        clear hHn hg hc
        refine wpAnyH_ready (rs := [7]) (by kernel_rfl) (by simp) ?_
        refine AllReadyH.cons rfl (fun K hK => ?_) AllReadyH.nil
        go_simp
        go_at_call 54
        refine (l1Below_small k A len R _ hcur (HR.out).1 (by have := (HR.out).2; omega)).mono ?_
        rintro e q1 ⟨x2, rfl, hx2, hc, hg⟩
        replace hcur := hc
        replace bn := bn.apart hg hkb2
        (try go_simp)
        have hHn := hHeld.trans hg
        refine hK.out _ _ (hHn) (fun hHeld2 => ?_)
        replace hHeld := hHeld2
        clear hHeld2 hK K
        try simp only [List.getElem_toArray, List.getElem_cons_succ, List.getElem_cons_zero, Act.put, List.setIfInBounds_toArray, List.set_cons_zero, List.set_cons_succ]
        clear hHn hg hc
        have hwr : IntKind.i64.wrap (1 + (x2 : Int)) = 1 + (x2 : Int) := IntWalk.i64_in _ (by have := HR.out; omega)
        refine wpAnyH_take (i := 8) (v := ?v15) rfl (by kernel_rfl) (by kernel_rfl) (by kernel_rfl) (fun _ _ _ h => h) (Or.inl ⟨by rfl, ?hy15⟩) (by assumption) ?rest15
        case hy15 => intro X hX; (try dsimp only at hX); go_simp <;> with_reducible rfl
        try simp only [List.getElem_toArray, List.getElem_cons_succ, List.getElem_cons_zero, Act.put, List.setIfInBounds_toArray, List.set_cons_zero, List.set_cons_succ]
        refine wpAnyH_ready (rs := [12]) (by kernel_rfl) (by simp) ?_
        refine AllReadyH.cons rfl (fun K hK => ?_) AllReadyH.nil
        go_simp
        go_at_call 54
        refine (l1Below_small k A len N _ hcur (HN.out).1 (by have := (HN.out).2; omega)).mono ?_
        rintro e q2 ⟨x3, rfl, hx3, hc, hg⟩
        replace hcur := hc
        replace bn := bn.apart hg hkb2
        (try go_simp)
        have hHn := hHeld.trans hg
        refine hK.out _ _ (hHn) (fun hHeld2 => ?_)
        replace hHeld := hHeld2
        clear hHeld2 hK K
        try simp only [List.getElem_toArray, List.getElem_cons_succ, List.getElem_cons_zero, Act.put, List.setIfInBounds_toArray, List.set_cons_zero, List.set_cons_succ]
        clear hHn hg hc
        refine wpAnyH_take (i := 13) (v := ?v16) rfl (by kernel_rfl) (by kernel_rfl) (by kernel_rfl) (fun _ _ _ h => h) (Or.inl ⟨by rfl, ?hy16⟩) (by assumption) ?rest16
        case hy16 => intro X hX; (try dsimp only at hX); go_simp <;> with_reducible rfl
        try simp only [List.getElem_toArray, List.getElem_cons_succ, List.getElem_cons_zero, Act.put, List.setIfInBounds_toArray, List.set_cons_zero, List.set_cons_succ]
        obtain ⟨b1, b2, b3⟩ := bn.cells
        have b4 := Box.froz bn 0
        have b5 := Box.froz bn 1
        have b6 := Box.froz bn 2
        have bx9 : Box _ (wr.heap.size) (Obj.cells #[(.int .i64 (x1 : Int)), (.int .i64 (1 + (x2 : Int))), (.int .i64 (x3 : Int))] 28) := ((bn.put (i := 0) (.int .i64 (x1 : Int))).put (i := 1) (.int .i64 (1 + (x2 : Int)))).put (i := 2) (.int .i64 (x3 : Int))
        have hgS := ((grown_set q2 (wr.heap.size) 0 (.int .i64 (x1 : Int))).trans (grown_set _ (wr.heap.size) 1 (.int .i64 (1 + (x2 : Int))))).trans (grown_set _ (wr.heap.size) 2 (.int .i64 (x3 : Int)))
        have hH9 := grown_push hHeld hgS hkb
        have hc9 := hcur.push hgS HCUR.out.lt HCUR.out.code hkb
        refine wpAnyH_ready (rs := [15]) (by kernel_rfl) (by simp) ?_
        refine AllReadyH.cons rfl (fun K hK => ?_) AllReadyH.nil
        go_simp
        refine hK.out _ _ (hH9) (fun hHeld2 => ?_)
        replace hHeld := hHeld2
        clear hHeld2 hK K
        try simp only [List.getElem_toArray, List.getElem_cons_succ, List.getElem_cons_zero, Act.put, List.setIfInBounds_toArray, List.set_cons_zero, List.set_cons_succ]
        refine wpAnyH_done (by kernel_rfl) ?_ _
        go_wp2_with fail
        go_meet
        case rel => exact ⟨_, _, _, _, rfl, bx9, sm_mk hx1 hx2 hx3 HN.out.2 HR.out.2, hkb, hc9, hH9⟩
    case rest =>
    obtain ⟨ke, a, b, c, rfl, be, hse, hke, hcX, hgX⟩ := hcut
    rename World => wX
    replace hst := hst.turned hgX hcX
    obtain ⟨q1, q2, q3⟩ := hst.box.cells
    obtain ⟨d1, d2, d3⟩ := be.cells
    go_wp2_with fail
    refine (addEdgeS_any _ _ _ l (a, b, c) hse.i64 _ hst.own.edges hst.own.nilOk (by omega)).mono ?_
    rintro e w7 ⟨v7, rfl, o7, hb7⟩
    obtain ⟨A7, c7, rfl⟩ := o7.edges.form
    have hl7 := addEL_len (R : Int) (N : Int) l (a, b, c)
    have hs7 : Kept (∀ u ∈ addEL (R : Int) (N : Int) l (a, b, c), SmE u) := ⟨sm_add hsm.out hse⟩
    have hst7 := hst.put hb7 o7 R N
    replace hst := hst.keep hb7
    clear q1 q2 q3 d1 d2 d3
    obtain ⟨q1, q2, q3⟩ := hst.box.cells
    have f1 := Box.froz hst.box 0
    have f2 := Box.froz hst.box 1
    have f3 := Box.froz hst.box 2
    obtain ⟨L7, hL7⟩ : ∃ z, z = addEL (R : Int) (N : Int) l (a, b, c) := ⟨_, rfl⟩
    rw [← hL7] at hl7 hs7 hst7 ⊢
    clear hL7 hb7 be hcX hgX hse HCUR BG
    go_wp2
    go_roundw
    case rel => exact ⟨j - 1, A7, c7, L7, by go_num, by omega, hst7, hs7⟩
    case measure => simp [intOf]; omega
end Go.Proofs.YtpebiacdkfpnpaaGreat
