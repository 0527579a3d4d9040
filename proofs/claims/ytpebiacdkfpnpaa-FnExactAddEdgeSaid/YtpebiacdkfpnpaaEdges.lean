/- Slices of edges and graphs: what a value reads as; contracts of the laws' helpers on graphs. Conditions: lengths of at most 2^20. -/
import Derived.Test.YtpebiacdkfpnpaaInts
import Derived.Test.YtpebiacdkfpnpaaArgs
import Derived.Test.YtpebiacdkfpnpaaNumB
namespace Go.Proofs.Ytpebiacdkfpnpaa
open Go.RowKit

/-- An edge: from, letter, to. -/
abbrev Ed := Int × Int × Int
def edC (e : Ed) : List Value := [.int .i64 e.1, .int .i64 e.2.1, .int .i64 e.2.2]
abbrev edV (e : Ed) : Value := edgeV e.1 e.2.1 e.2.2
def edgesV (l : List Ed) : List Value := l.flatMap edC
def I64E (e : Ed) : Prop := I64 e.1 ∧ I64 e.2.1 ∧ I64 e.2.2
theorem edgesV_nil : edgesV [] = [] := rfl
theorem edgesV_cons (e : Ed) (l : List Ed) : edgesV (e :: l) = edC e ++ edgesV l := rfl
theorem edgesV_append (l l' : List Ed) : edgesV (l ++ l') = edgesV l ++ edgesV l' := by simp [edgesV]
theorem edgesV_length (l : List Ed) : (edgesV l).length = l.length * 3 := by
  induction l with
  | nil => rfl
  | cons e l ih => rw [edgesV_cons, List.length_append, ih, List.length_cons]; simp only [edC, List.length_cons, List.length_nil]; omega
theorem edgesV_get (l : List Ed) : ∀ (i : Nat) (h : i < l.length), (edgesV l)[i * 3]? = some (.int .i64 l[i].1) ∧ (edgesV l)[i * 3 + 1]? = some (.int .i64 l[i].2.1) ∧ (edgesV l)[i * 3 + 2]? = some (.int .i64 l[i].2.2) := by
  induction l with
  | nil => intro i h; simp at h
  | cons e l ih =>
    intro i h
    cases i with
    | zero => exact ⟨rfl, rfl, rfl⟩
    | succ i =>
      have := ih i (by simpa using h)
      have e1 : ∀ j, (edgesV (e :: l))[(i + 1) * 3 + j]? = (edgesV l)[i * 3 + j]? := fun j => by
        rw [edgesV_cons, List.getElem?_append_right (by simp only [edC, List.length_cons, List.length_nil]; omega)]
        congr 1
        simp only [edC, List.length_cons, List.length_nil]; omega
      have e0 := e1 0
      simp only [Nat.add_zero] at e0
      rw [e0, e1 1, e1 2]
      simpa using this

theorem elemE : Elem Try.prog 27 42 (edgeV 0 0 0) 3 24 := ⟨Try.underlying27, by kernel_rfl, rfl, by decide, by decide⟩

theorem take_get {α : Type} {l : List α} {k : Nat} (h : k < l.length) : l.take (k + 1) = l.take k ++ [l[k]] := by
  rw [List.take_succ_eq_append_getElem h]
/-- The slice v reads as the list of edges l. -/
def Edges (w : World) (v : Value) (l : List Ed) : Prop :=
  ∃ A cap, v = .slice A l.length cap ∧ l.length ≤ cap ∧ (∀ e ∈ l, I64E e) ∧ (0 < l.length → ∃ b off, A = some ⟨b, off, none⟩ ∧ b < w.heap.size ∧
    ∀ i (h : i < l.length), w.cell? ⟨b, off + i * 3, none⟩ = some (.int .i64 l[i].1) ∧ w.cell? ⟨b, off + i * 3 + 1, none⟩ = some (.int .i64 l[i].2.1) ∧ w.cell? ⟨b, off + i * 3 + 2, none⟩ = some (.int .i64 l[i].2.2))
/-- The slice v is a row of the call's own (its block from B on) and reads as l. -/
def OwnE (w : World) (B : Nat) (v : Value) (l : List Ed) : Prop :=
  ∃ g cap, v = .slice (some ⟨g, 0, none⟩) l.length cap ∧ w.ownsRow B 42 3 v l.length (edgesV l) ∧ ∀ e ∈ l, I64E e
theorem Edges.keep {w w' : World} {v : Value} {l : List Ed} (h : Edges w v l) (hB : Below w.heap.size w w') : Edges w' v l := by
  obtain ⟨A, cap, rfl, hc, hr, hcell⟩ := h
  refine ⟨A, cap, rfl, hc, hr, fun h0 => ?_⟩
  obtain ⟨b, off, rfl, hb, hcell⟩ := hcell h0
  refine ⟨b, off, rfl, Nat.lt_of_lt_of_le hb hB.size, fun i hi => ?_⟩
  obtain ⟨h1, h2, h3⟩ := hcell i hi
  exact ⟨(hB.cell (p := ⟨b, _, none⟩) hb).trans h1, (hB.cell (p := ⟨b, _, none⟩) hb).trans h2, (hB.cell (p := ⟨b, _, none⟩) hb).trans h3⟩
theorem OwnE.keep {w w' : World} {B : Nat} {v : Value} {l : List Ed} (h : OwnE w B v l) (hB : Below w.heap.size w w') : OwnE w' B v l := by
  obtain ⟨g, cap, rfl, ho, hr⟩ := h
  exact ⟨g, cap, rfl, ownsRow_keep ho hB, hr⟩
theorem OwnE.base {w : World} {B B' : Nat} {v : Value} {l : List Ed} (h : OwnE w B v l) (hb : B' ≤ B) : OwnE w B' v l := by
  obtain ⟨g, cap, rfl, ho, hr⟩ := h
  exact ⟨g, cap, rfl, ownsRow_base ho hb, hr⟩
theorem OwnE.edges {w : World} {B : Nat} {v : Value} {l : List Ed} (h : OwnE w B v l) : Edges w v l := by
  obtain ⟨g, cap, rfl, ho, hr⟩ := h
  have hp := ownsRow_parts ho
  refine ⟨_, cap, rfl, hp.2.2.1, hr, fun _ => ⟨g, 0, rfl, hp.2.1, fun i hi => ?_⟩⟩
  have he := edgesV_get l i hi
  rw [Nat.zero_add, ho.cellAt _ (by omega), ho.cellAt _ (by omega), ho.cellAt _ (by omega)]
  exact he
theorem OwnE.block {w : World} {B : Nat} {v : Value} {l : List Ed} (h : OwnE w B v l) : ∃ g, v.ownBlock = some g ∧ B ≤ g ∧ g < w.heap.size := by
  obtain ⟨g, cap, rfl, ho, hr⟩ := h
  have hp := ownsRow_parts ho
  exact ⟨g, rfl, hp.1, hp.2.1⟩
theorem OwnE.grown {w w' : World} {B : Nat} {v : Value} {l : List Ed} {row : Option Nat} (h : OwnE w B v l) (hg : w.grownBy w' row) (hne : v.ownBlock ≠ row) : OwnE w' B v l := by
  obtain ⟨g, cap, rfl, ho, hr⟩ := h
  exact ⟨g, cap, rfl, ho.kept hg (.inr hne), hr⟩
abbrev graphV (r n : Int) (v : Value) : Value := .agg #[.int .i64 r, .int .i64 n, v]
/-- A graph is handed back, its edges in new memory. -/
def RetG (w : World) (r n : Int) (l : List Ed) (e : Ending) (w' : World) : Prop := ∃ v, e = .returned (graphV r n v) ∧ OwnE w' w.heap.size v l ∧ Below w.heap.size w w'

theorem edgesV_set (l : List Ed) : ∀ (k : Nat) (a b c : Int), (((edgesV l).set (k * 3) (.int .i64 a)).set (k * 3 + 1) (.int .i64 b)).set (k * 3 + 2) (.int .i64 c) = edgesV (l.set k (a, b, c)) ∨ l.length ≤ k := by
  induction l with
  | nil => intro k a b c; right; simp
  | cons e l ih =>
    intro k a b c
    cases k with
    | zero => left; rfl
    | succ k =>
      rcases ih k a b c with h | h
      · left
        rw [List.set_cons_succ, edgesV_cons, edgesV_cons, ← h]
        have e1 : ∀ (m : List Value) (j : Nat) (x : Value), (edC e ++ m).set ((k + 1) * 3 + j) x = edC e ++ m.set (k * 3 + j) x := fun m j x => by
          rw [List.set_append_right _ _ (by simp only [edC, List.length_cons, List.length_nil]; omega)]
          congr 2
          simp only [edC, List.length_cons, List.length_nil]; omega
        have e0 := e1 (edgesV l) 0 (.int .i64 a)
        simp only [Nat.add_zero] at e0
        rw [e0, e1, e1]
      · right; simpa using h
theorem zerosE (m : Nat) : (madeCells (edgeV 0 0 0).cells (m * 3)).toList = edgesV (List.replicate m (0, 0, 0)) := by
  have h1 : (madeCells (edgeV 0 0 0).cells (m * 3)).toList = List.replicate (m * 3) (.int .i64 0) := by
    apply List.ext_getElem?
    intro j
    by_cases hj : j < m * 3
    · have : j % 3 = 0 ∨ j % 3 = 1 ∨ j % 3 = 2 := by omega
      rcases this with h | h | h <;> simp [madeCells, hj, Value.cells, h]
    · simp [madeCells, hj]
  have h2 : edgesV (List.replicate m (0, 0, 0)) = List.replicate (m * 3) (.int .i64 0) := by
    clear h1
    induction m with
    | zero => rfl
    | succ m ih => rw [List.replicate_succ, edgesV_cons, ih, show (m + 1) * 3 = 3 + m * 3 by omega, ← List.replicate_append_replicate]; rfl
  rw [h1, h2]

/-- The argument reads as the list of edges L. -/
def ArgE (w : World) (a : Option Addr) (len cap : Nat) (L : List Ed) : Prop := L.length = len ∧ Edges w (.slice a len cap) L ∧ len ≤ 9223372036854775807
theorem ArgE.len {w : World} {a : Option Addr} {len cap : Nat} {L : List Ed} (h : ArgE w a len cap L) : L.length = len := h.1
theorem ArgE.keep {w w' : World} {a : Option Addr} {len cap : Nat} {L : List Ed} (h : ArgE w a len cap L) (hB : Below w.heap.size w w') : ArgE w' a len cap L := ⟨h.1, h.2.1.keep hB, h.2.2⟩
theorem argE_nil (w : World) : ArgE w none 0 0 [] := ⟨rfl, ⟨none, 0, rfl, Nat.le_refl _, by simp, fun h => absurd h (by simp)⟩, by omega⟩
theorem argE_cells {w : World} {ad : Addr} {len cap : Nat} (hl : len ≤ cap) (hm : cap ≤ maxLen)
    (hf : ∀ i, i < len → ∃ x y z : Int, I64 x ∧ I64 y ∧ I64 z ∧ w.cell? (ad.add (i * 3)) = some (.int .i64 x) ∧ w.cell? (ad.add (i * 3 + 1)) = some (.int .i64 y) ∧ w.cell? (ad.add (i * 3 + 2)) = some (.int .i64 z)) :
    ∃ L, ArgE w (some ad) len cap L := by
  have hf' : ∀ i, ∃ e : Ed, i < len → I64E e ∧ w.cell? (ad.add (i * 3)) = some (.int .i64 e.1) ∧ w.cell? (ad.add (i * 3 + 1)) = some (.int .i64 e.2.1) ∧ w.cell? (ad.add (i * 3 + 2)) = some (.int .i64 e.2.2) := fun i => by
    by_cases hi : i < len
    · obtain ⟨x, y, z, h1, h2, h3, h4⟩ := hf i hi
      exact ⟨(x, y, z), fun _ => ⟨⟨h1, h2, h3⟩, h4⟩⟩
    · exact ⟨(0, 0, 0), fun h => absurd h hi⟩
  obtain ⟨D, hD⟩ := Classical.axiomOfChoice hf'
  have hlen : ((List.range len).map D).length = len := by simp
  refine ⟨(List.range len).map D, hlen, ⟨some ad, cap, by rw [hlen], by omega, ?_, fun h0 => ?_⟩, by unfold maxLen at hm; omega⟩
  · intro e he
    simp only [List.mem_map, List.mem_range] at he
    obtain ⟨i, hi, rfl⟩ := he
    exact (hD i hi).1
  · rw [hlen] at h0
    obtain ⟨b, off, spot⟩ := ad
    have h1 := (hD 0 h0).2.1
    have hspot : spot = none := by simpa [Addr.add] using World.cell?_spot h1
    subst hspot
    refine ⟨b, off, rfl, by simpa [Addr.add] using World.block_lt_of_cell? w _ h1, fun i hi => ?_⟩
    rw [hlen] at hi
    obtain ⟨_, h2, h3, h4⟩ := hD i hi
    rw [Addr.add_lit] at h2 h3 h4
    simp only [List.getElem_map, List.getElem_range]
    exact ⟨h2, h3, h4⟩
theorem szEdgeS_fits (left : Int) (a : Option Addr) (len cap : Nat) (w : World) (h0 : (len : Int) ≤ left) (h1 : left ≤ 1048576) :
    Calls Try.prog 37 #[.slice a len cap, .int .i64 left] w (RetV w (.int .i64 (left - len))) := by
  go_enter Try.func37, Try.ntmps37
  go_wp2
  go_ret
  exact ⟨rfl, Below.refl _ _⟩
theorem szEdgeS_over (left : Int) (a : Option Addr) (len cap : Nat) (w : World) (h0 : left < (len : Int)) (h1 : 0 ≤ left) (hm : len ≤ 9223372036854775807) :
    Calls Try.prog 37 #[.slice a len cap, .int .i64 left] w (RetV w (.int .i64 (-1))) := by
  go_enter Try.func37, Try.ntmps37
  go_wp2
  go_ret
  exact ⟨rfl, Below.refl _ _⟩
theorem szGraph_fits (r n left : Int) (a : Option Addr) (len cap : Nat) (w : World) (h0 : (len : Int) ≤ left) (h1 : left ≤ 1048576) :
    Calls Try.prog 10 #[graphV r n (.slice a len cap), .int .i64 left] w (RetV w (.int .i64 (left - len))) := by
  go_enter Try.func10, Try.ntmps10
  go_wp2_with fail
  refine (szEdgeS_fits left a len cap _ h0 h1).mono ?_
  rintro e w' ⟨rfl, hb⟩
  go_wp2
  go_ret
  exact ⟨rfl, ((Below.refl _ _).alloc (Nat.le_refl _) _).trans (hb.mono (by simp))⟩
theorem szGraph_over (r n left : Int) (a : Option Addr) (len cap : Nat) (w : World) (h0 : left < (len : Int)) (h1 : 0 ≤ left) (hm : len ≤ 9223372036854775807) :
    Calls Try.prog 10 #[graphV r n (.slice a len cap), .int .i64 left] w (RetV w (.int .i64 (-1))) := by
  go_enter Try.func10, Try.ntmps10
  go_wp2_with fail
  refine (szEdgeS_over left a len cap _ h0 h1 hm).mono ?_
  rintro e w' ⟨rfl, hb⟩
  go_wp2
  go_ret
  exact ⟨rfl, ((Below.refl _ _).alloc (Nat.le_refl _) _).trans (hb.mono (by simp))⟩
set_option maxHeartbeats 800000 in
theorem toEdgeS_any (a : Option Addr) (len cap : Nat) (L : List Ed) (w : World) (hlen : len ≤ 1048576) (h : ArgE w a len cap L) :
    Calls Try.prog 38 #[.slice a len cap] w fun e w' => ∃ v, e = .returned v ∧ OwnE w' w.heap.size v L ∧ Below w.heap.size w w' := by
  obtain ⟨rfl, ⟨A, cap', hv, hc, hr, hcell⟩, hmx⟩ := h
  simp only [Value.slice.injEq, true_and] at hv
  obtain ⟨rfl, rfl⟩ := hv
  obtain ⟨i0, hi, hz0, hz1, hz2⟩ := info_parts elemE.info
  have H := Lib.hid hcell
  clear hcell
  go_enter Try.func38, Try.ntmps38
  go_wp2_with (at_make; refine wpList_make_full _ rfl _ _ 27 rfl w.heap.size 42 i0 (edgeV 0 0 0) 3 Try.underlying27 hi hz0 hz1 _ _ _ _ L.length rfl rfl rfl rfl (by rw [hz2]; omega) (by unfold maxLen; omega) (Nat.le_refl _) ?_; intro w0 hown0 hgrow0)
  have hb0 : Below w.heap.size w w0 := (Below.refl _ _).grown hgrow0 (Nat.le_refl _) (fun k h => by cases h)
  rw [zerosE] at hown0
  clear hgrow0
  go_loopw [4] (fun i wr => ∃ k : Nat, k ≤ L.length ∧ i = .int .i64 k ∧ wr.ownsRow w.heap.size 42 3 (.slice (some ⟨w.heap.size, 0, none⟩) L.length L.length) L.length (edgesV (L.take k ++ List.replicate (L.length - k) (0, 0, 0))) ∧ Below w.heap.size w wr)
    (fun i _ => L.length - (intOf i).toNat)
  case atStart => exact ⟨0, by omega, rfl, by simpa using hown0, hb0⟩
  case round =>
    obtain ⟨k, hk, rfl, hown, hbel⟩ := hrel
    by_cases hlt : k < L.length
    · obtain ⟨b, off, rfl, hb, hcell⟩ := H.out (by omega)
      obtain ⟨e1, e2, e3⟩ := hcell k hlt
      have c1 := (hbel.cell (p := ⟨b, off + k * 3, none⟩) hb).trans e1
      have c2 := (hbel.cell (p := ⟨b, off + k * 3 + 1, none⟩) hb).trans e2
      have c3 := (hbel.cell (p := ⟨b, off + k * 3 + 2, none⟩) hb).trans e3
      obtain ⟨f1, hf1⟩ : ∃ z, z = L[k].1 := ⟨_, rfl⟩
      obtain ⟨f2, hf2⟩ : ∃ z, z = L[k].2.1 := ⟨_, rfl⟩
      obtain ⟨f3, hf3⟩ : ∃ z, z = L[k].2.2 := ⟨_, rfl⟩
      rw [← hf1] at c1
      rw [← hf2] at c2
      rw [← hf3] at c3
      have hst : Kept ((L.take k ++ List.replicate (L.length - k) (0, 0, 0)).set k (f1, f2, f3) = L.take (k + 1) ++ List.replicate (L.length - (k + 1)) (0, 0, 0)) := ⟨by
        have e1 : (L.take k).length = k := by simp; omega
        have e2 : L.length - k = (L.length - (k + 1)) + 1 := by omega
        rw [List.set_append_right _ _ (by omega), take_get hlt, e1, Nat.sub_self, e2, List.replicate_succ, List.set_cons_zero, List.append_assoc, hf1, hf2, hf3]; rfl⟩
      clear e1 e2 e3 hf1 hf2 hf3 hcell
      go_wp2_with fail
      refine (toEdge_any f1 f2 f3 _).mono ?_
      rintro e w2 ⟨rfl, hb2⟩
      replace hown := ownsRow_keep hown hb2
      replace hbel := hbel.trans (hb2.mono hbel.size)
      obtain ⟨o1, hc1⟩ : ∃ u, w2.cell? ⟨w.heap.size, k * 3, none⟩ = some u := ⟨_, (hown.cellAt _ (by omega)).trans (List.getElem?_eq_getElem (by rw [edgesV_length]; simp; omega))⟩
      obtain ⟨o2, hc2⟩ : ∃ u, w2.cell? ⟨w.heap.size, k * 3 + 1, none⟩ = some u := ⟨_, (hown.cellAt _ (by omega)).trans (List.getElem?_eq_getElem (by rw [edgesV_length]; simp; omega))⟩
      obtain ⟨o3, hc3⟩ : ∃ u, w2.cell? ⟨w.heap.size, k * 3 + 2, none⟩ = some u := ⟨_, (hown.cellAt _ (by omega)).trans (List.getElem?_eq_getElem (by rw [edgesV_length]; simp; omega))⟩
      have hf1 := hown.frozenAt (k * 3)
      have hf2 := hown.frozenAt (k * 3 + 1)
      have hf3 := hown.frozenAt (k * 3 + 2)
      go_wp2
      go_roundw
      case rel =>
        have g1 := hown.stored (k * 3) (.int .i64 f1)
        have g2 := g1.1.stored (k * 3 + 1) (.int .i64 f2)
        have g3 := (g2.1.stored (k * 3 + 2) (.int .i64 f3)).1
        rcases edgesV_set (L.take k ++ List.replicate (L.length - k) (0, 0, 0)) k f1 f2 f3 with he | he
        · rw [he, hst.out] at g3
          exact ⟨k + 1, by omega, by go_num, g3, ((hbel.setCell (Nat.le_refl _) _).setCell (Nat.le_refl _) _).setCell (Nat.le_refl _) _⟩
        · exfalso; simp at he; omega
      case measure => simp [intOf]; omega
    · obtain rfl : k = L.length := by omega
      go_wp2
      go_ret
      exact ⟨_, rfl, ⟨_, _, rfl, by simpa using hown, hr⟩, hbel⟩
theorem ownsRow_same {w w' : World} {b : Nat} {e : TypeId} {size : Nat} {v : Value} {n : Nat} {xs : List Value}
    (h : w.ownsRow b e size v n xs) (hh : ∀ k, v.ownBlock = some k → w'.heap[k]? = w.heap[k]?) : w'.ownsRow b e size v n xs := by
  refine ⟨h.1, ?_⟩
  rcases h.2 with hn | ⟨g, cap, cur, rfl, hb, hgg, rest⟩
  · exact .inl hn
  · refine .inr ⟨g, cap, cur, rfl, hb, ?_, rest⟩
    rw [hh g rfl]
    exact hgg
theorem heap_two (w : World) (o1 o2 o3 : Obj) : (((w.alloc o1).alloc o2).alloc o3).heap[w.heap.size + 1 + 1]? = some o3 := by
  have := heap_alloc_new ((w.alloc o1).alloc o2) o3
  simpa using this
theorem heap_one (w : World) (o1 o2 o3 : Obj) : (((w.alloc o1).alloc o2).alloc o3).heap[w.heap.size + 1]? = some o2 := by
  rw [heap_alloc_old _ _ (by simp)]
  have := heap_alloc_new (w.alloc o1) o2
  simpa using this
theorem toGraph_arg {w0 w : World} {a : Option Addr} {len cap : Nat} {L : List Ed} (r n : Int) (h : ArgE w0 a len cap L) (hB : Below w0.heap.size w0 w) (hlen : len ≤ 1048576) :
    Calls Try.prog 12 #[graphV r n (.slice a len cap)] w (RetG w r n L) := by
  go_enter Try.func12, Try.ntmps12
  go_wp2_with fail
  refine (toEdgeS_any a len cap L _ hlen (h.keep (((hB.alloc hB.size _).alloc (by have := hB.size; simp; omega) _).alloc (by have := hB.size; simp; omega) _))).mono ?_
  rintro e w' ⟨v, rfl, ho, hb⟩
  obtain ⟨g, cap', rfl, hown, hI⟩ := ho
  have b2 := (hb.block (w.heap.size + 1 + 1) (by simp)).trans (heap_two w _ _ _)
  have b1 := (hb.block (w.heap.size + 1) (by simp)).trans (heap_one w _ _ _)
  have c20 := cell_of_row w' _ 0 _ _ _ b2
  have c21 := cell_of_row w' _ 1 _ _ _ b2
  have c22 := cell_of_row w' _ 2 _ _ _ b2
  have c10 := cell_of_row w' _ 0 _ _ _ b1
  have c11 := cell_of_row w' _ 1 _ _ _ b1
  have c12 := cell_of_row w' _ 2 _ _ _ b1
  have f22 := frozen_of_row w' _ 2 _ _ b2
  have f10 := frozen_of_row w' _ 0 _ _ b1
  have f11 := frozen_of_row w' _ 1 _ _ b1
  have f12 := frozen_of_row w' _ 2 _ _ b1
  have hw : w.heap.size + 1 + 1 < w'.heap.size := (Array.getElem?_eq_some_iff.1 b2).1
  have hB3 : Below w.heap.size w w' := ((((Below.refl _ _).alloc (Nat.le_refl _) _).alloc (by simp) _).alloc (by simp; omega) _).trans (hb.mono (by simp; omega))
  have hgg : w.heap.size + 1 + 1 + 1 ≤ g := by have := (ownsRow_parts hown).1; simpa using this
  clear b1 b2 hb
  go_wp2
  refine bodyPost_ret (v := graphV r n (.slice (some ⟨g, 0, none⟩) L.length cap')) (by simp [results, Try.results12, go_sem, c10, c11, c12]) rfl ⟨_, rfl, ⟨g, cap', rfl, ownsRow_same (ownsRow_base hown (by simp; omega)) fun k hk => ?_, hI⟩, (((hB3.setCell (by simp; omega) _).setCell (by simp) _).setCell (by simp) _).setCell (by simp) _⟩
  cases hk
  rw [Below.heap_setCell _ _ _ _ (by simp; omega), Below.heap_setCell _ _ _ _ (by simp; omega), Below.heap_setCell _ _ _ _ (by simp; omega), Below.heap_setCell _ _ _ _ (by simp; omega)]
/-- eqEdgeS of two slices that read alike. -/
theorem eqEdge_same (e : Ed) (w : World) : Calls Try.prog 64 #[edV e, edV e] w (RetV w (.bool true)) := by
  go_enter Try.func64, Try.ntmps64
  go_wp2
  go_ret
  exact ⟨rfl, ((Below.refl _ _).alloc (Nat.le_refl _) _).alloc (by simp) _⟩
theorem eqEdgeS_any (v1 v2 : Value) (l : List Ed) (w : World) (h1 : Edges w v1 l) (h2 : Edges w v2 l) (hlen : l.length ≤ 1099511627776) :
    Calls Try.prog 39 #[v1, v2] w (RetV w (.bool true)) := by
  obtain ⟨A1, cap1, rfl, hc1, hr, hcell1⟩ := h1
  obtain ⟨A2, cap2, rfl, hc2, _, hcell2⟩ := h2
  have H1 := Lib.hid hcell1
  have H2 := Lib.hid hcell2
  clear hcell1 hcell2
  go_enter Try.func39, Try.ntmps39
  go_wp2
  go_loopw [5] (fun i wr => ∃ k : Nat, k ≤ l.length ∧ i = .int .i64 k ∧ Below w.heap.size w wr) (fun i _ => l.length - (intOf i).toNat)
  case atStart => exact ⟨0, by omega, rfl, Below.refl _ _⟩
  case round =>
    obtain ⟨k, hk, rfl, hbel⟩ := hrel
    by_cases hlt : k < l.length
    · obtain ⟨b1, off1, rfl, hb1, hcell1⟩ := H1.out (by omega)
      obtain ⟨b2, off2, rfl, hb2, hcell2⟩ := H2.out (by omega)
      obtain ⟨e1, e2, e3⟩ := hcell1 k hlt
      obtain ⟨d1, d2, d3⟩ := hcell2 k hlt
      replace e1 := (hbel.cell (p := ⟨b1, off1 + k * 3, none⟩) hb1).trans e1
      replace e2 := (hbel.cell (p := ⟨b1, off1 + k * 3 + 1, none⟩) hb1).trans e2
      replace e3 := (hbel.cell (p := ⟨b1, off1 + k * 3 + 2, none⟩) hb1).trans e3
      replace d1 := (hbel.cell (p := ⟨b2, off2 + k * 3, none⟩) hb2).trans d1
      replace d2 := (hbel.cell (p := ⟨b2, off2 + k * 3 + 1, none⟩) hb2).trans d2
      replace d3 := (hbel.cell (p := ⟨b2, off2 + k * 3 + 2, none⟩) hb2).trans d3
      have hkl : (k : Int) < (l.length : Int) := by omega
      have hq := eqEdge_same l[k] wr.drew
      clear hcell1 hcell2
      go_wp2
      go_region_law (go_simp; go_at_call 64; refine hq.mono ?_; rintro e w2 ⟨rfl, hb⟩)
      all_goals
        go_wp2
        go_roundw
        case rel => exact ⟨k + 1, by omega, by go_num, hbel.drew.trans (hb.mono hbel.drew.size)⟩
        case measure => simp [intOf]; omega
    · obtain rfl : k = l.length := by omega
      go_wp2
      go_ret
      exact ⟨rfl, hbel⟩
theorem eqGraph_any (r n : Int) (v1 v2 : Value) (l : List Ed) (w : World) (h1 : Edges w v1 l) (h2 : Edges w v2 l) (hlen : l.length ≤ 1099511627776) :
    Calls Try.prog 14 #[graphV r n v1, graphV r n v2] w (RetV w (.bool true)) := by
  have hB : Below w.heap.size w ((w.alloc (.cells #[.int .i64 r, .int .i64 n, v1] 29 (0, 0))).alloc (.cells #[.int .i64 r, .int .i64 n, v2] 29 (0, 0))) := ((Below.refl _ _).alloc (Nat.le_refl _) _).alloc (by simp) _
  have i1 := h1.keep hB
  have i2 := h2.keep hB
  obtain ⟨A1, cap1, rfl, _⟩ := h1
  obtain ⟨A2, cap2, rfl, _⟩ := h2
  go_enter Try.func14, Try.ntmps14
  go_wp2_with fail
  refine (eqEdgeS_any _ _ l _ i1 i2 hlen).mono ?_
  rintro e w' ⟨rfl, hb⟩
  go_wp2
  go_ret
  exact ⟨rfl, hB.trans (hb.mono hB.size)⟩

/-- What markEdgeS writes: n edges from k on. -/
def marksE (k : Int) (n : Nat) : List Ed := (List.range n).map fun (i : Nat) => (k + 3 * (i : Int), k + 3 * (i : Int) + 1, k + 3 * (i : Int) + 2)
theorem marksE_length (k : Int) (n : Nat) : (marksE k n).length = n := by simp [marksE]
theorem marksE_range {k : Int} {n : Nat} (h0 : 0 ≤ k) (h1 : k + 3 * n ≤ 4611686018427387904) : ∀ e ∈ marksE k n, I64E e := by
  intro x hx
  simp only [marksE, List.mem_map, List.mem_range] at hx
  obtain ⟨i, hi, rfl⟩ := hx
  refine ⟨⟨?_, ?_⟩, ⟨?_, ?_⟩, ?_, ?_⟩ <;> simp only <;> omega
theorem marksE_get {k : Int} {n i : Nat} (h : i < n) : (marksE k n)[i]? = some (k + 3 * (i : Int), k + 3 * (i : Int) + 1, k + 3 * (i : Int) + 2) := by
  simp [marksE, List.getElem?_map, List.getElem?_range h]
set_option maxHeartbeats 800000 in
theorem markEdgeS_any (v : Value) (l : List Ed) (B : Nat) (k0 : Int) (w : World) (h : OwnE w B v l) (h0 : 0 ≤ k0) (h1 : k0 + 3 * l.length ≤ 4611686018427387904) :
    Calls Try.prog 43 #[v, .int .i64 k0] w fun e w' => e = .returned (.int .i64 (k0 + 3 * l.length)) ∧ OwnE w' B v (marksE k0 l.length) ∧ w.grownBy w' v.ownBlock := by
  obtain ⟨g, cap, rfl, hown0, hr⟩ := h
  obtain ⟨k0, rfl⟩ := Int.eq_ofNat_of_zero_le h0
  go_enter Try.func43, Try.ntmps43
  go_wp2
  go_loopw [1, 5] (fun x i wr => ∃ (k : Nat) (r : List Ed), k ≤ l.length ∧ i = .int .i64 k ∧ x = .int .i64 ((k0 : Int) + 3 * k) ∧ Kept (r.length = l.length ∧ ∀ j, j < k → r[j]? = some ((k0 : Int) + 3 * (j : Int), (k0 : Int) + 3 * (j : Int) + 1, (k0 : Int) + 3 * (j : Int) + 2)) ∧ wr.ownsRow B 42 3 (.slice (some ⟨g, 0, none⟩) l.length cap) l.length (edgesV r) ∧ w.grownBy wr (some g))
    (fun _ i _ => l.length - (intOf i).toNat)
  case atStart => exact ⟨0, l, by omega, rfl, by simp, ⟨rfl, by omega⟩, hown0, World.grownBy.refl _ _⟩
  case round =>
    obtain ⟨k, r, hk, rfl, rfl, hrk, hown, hgr⟩ := hrel
    by_cases hlt : k < l.length
    · have hrl := hrk.out.1
      obtain ⟨o1, hc1⟩ : ∃ u, wr.cell? ⟨g, k * 3, none⟩ = some u := ⟨_, (hown.cellAt _ (by omega)).trans (List.getElem?_eq_getElem (by rw [edgesV_length]; omega))⟩
      obtain ⟨o2, hc2⟩ : ∃ u, wr.cell? ⟨g, k * 3 + 1, none⟩ = some u := ⟨_, (hown.cellAt _ (by omega)).trans (List.getElem?_eq_getElem (by rw [edgesV_length]; omega))⟩
      obtain ⟨o3, hc3⟩ : ∃ u, wr.cell? ⟨g, k * 3 + 2, none⟩ = some u := ⟨_, (hown.cellAt _ (by omega)).trans (List.getElem?_eq_getElem (by rw [edgesV_length]; omega))⟩
      have hf1 := hown.frozenAt (k * 3)
      have hf2 := hown.frozenAt (k * 3 + 1)
      have hf3 := hown.frozenAt (k * 3 + 2)
      have hkl : (k : Int) < (l.length : Int) := by omega
      clear hrl
      go_wp2
      go_roundw
      case rel =>
        have g1 := hown.stored (k * 3) (.int .i64 ((k0 : Int) + 3 * k))
        have g2 := g1.1.stored (k * 3 + 1) (.int .i64 ((k0 : Int) + 3 * k + 1))
        have g3 := g2.1.stored (k * 3 + 2) (.int .i64 ((k0 : Int) + 3 * k + 2))
        rcases edgesV_set r k ((k0 : Int) + 3 * k) ((k0 : Int) + 3 * k + 1) ((k0 : Int) + 3 * k + 2) with he | he
        · rw [he] at g3
          refine ⟨k + 1, r.set k ((k0 : Int) + 3 * k, (k0 : Int) + 3 * k + 1, (k0 : Int) + 3 * k + 2), by omega, by go_num, by go_num, ⟨by simpa using hrk.out.1, fun j hj => ?_⟩, g3.1, ((hgr.trans g1.2).trans g2.2).trans g3.2⟩
          by_cases hjk : j = k
          · subst hjk; rw [List.getElem?_set_self (by rw [hrk.out.1]; exact hlt)]
          · rw [List.getElem?_set_ne (by omega)]; exact hrk.out.2 j (by omega)
        · exfalso; have := hrk.out.1; omega
      case measure => simp [intOf]; omega
    · obtain rfl : k = l.length := by omega
      have hrm : r = marksE k0 l.length := by
        apply List.ext_getElem?
        intro j
        by_cases hj : j < l.length
        · rw [hrk.out.2 j hj, marksE_get hj]
        · rw [List.getElem?_eq_none (by rw [hrk.out.1]; omega), List.getElem?_eq_none (by rw [marksE_length]; omega)]
      have hk2 : Kept _ := ⟨hrm⟩
      clear hrm
      go_wp2
      go_ret
      rw [hk2.out] at hown
      refine ⟨rfl, ⟨g, cap, by rw [marksE_length], by rw [marksE_length]; exact hown, marksE_range (by omega) h1⟩, hgr⟩
set_option maxHeartbeats 800000 in
theorem heldEdgeS_any (v : Value) (n : Nat) (k0 : Int) (w : World) (h : Edges w v (marksE k0 n)) (h0 : 0 ≤ k0) (h1 : k0 + 3 * n ≤ 4611686018427387904) :
    Calls Try.prog 53 #[v, .int .i64 k0] w fun e w' => e = .returned (.int .i64 (k0 + 3 * n)) ∧ w = w' := by
  obtain ⟨A, cap, rfl, hc, hr, hcell⟩ := h
  obtain ⟨k0, rfl⟩ := Int.eq_ofNat_of_zero_le h0
  have H : Kept (0 < n → ∃ b off, A = some ⟨b, off, none⟩ ∧ ∀ i, i < n → w.cell? ⟨b, off + i * 3, none⟩ = some (.int .i64 ((k0 : Int) + 3 * i)) ∧ w.cell? ⟨b, off + i * 3 + 1, none⟩ = some (.int .i64 ((k0 : Int) + 3 * i + 1)) ∧ w.cell? ⟨b, off + i * 3 + 2, none⟩ = some (.int .i64 ((k0 : Int) + 3 * i + 2))) := ⟨fun h0 => by
    obtain ⟨b, off, rfl, hb, hcell⟩ := hcell (by rw [marksE_length]; exact h0)
    refine ⟨b, off, rfl, fun i hi => ?_⟩
    have hx := hcell i (by rw [marksE_length]; exact hi)
    have := marksE_get (k := (k0 : Int)) hi
    rw [List.getElem?_eq_getElem (by rw [marksE_length]; exact hi)] at this
    rw [Option.some.inj this] at hx
    exact hx⟩
  rw [marksE_length]
  clear hcell hr hc
  go_enter Try.func53, Try.ntmps53
  go_wp2
  go_loop [1, 5] (fun x i => ∃ k : Nat, k ≤ n ∧ i = .int .i64 k ∧ x = .int .i64 ((k0 : Int) + 3 * k)) (fun _ i => n - (intOf i).toNat)
  case atStart => exact ⟨0, by omega, rfl, by simp⟩
  case round =>
    obtain ⟨k, hk, rfl, rfl⟩ := hrel
    by_cases hlt : k < n
    · obtain ⟨b, off, rfl, hcell⟩ := H.out (by omega)
      obtain ⟨e1, e2, e3⟩ := hcell k hlt
      have hkl : (k : Int) < (n : Int) := by omega
      clear hcell
      go_wp2
      go_round
      case rel => exact ⟨k + 1, by omega, by go_num, by go_num⟩
      case measure => simp [intOf]; omega
    · obtain rfl : k = n := by omega
      go_wp2
      go_ret
      exact ⟨rfl, rfl⟩
/-- A slice of edges of the call's own, or nil. -/
def OwnN (w : World) (B : Nat) (v : Value) (l : List Ed) : Prop := (v = .slice none 0 0 ∧ l = []) ∨ OwnE w B v l
theorem OwnN.edges {w : World} {B : Nat} {v : Value} {l : List Ed} (h : OwnN w B v l) : Edges w v l := by
  rcases h with ⟨rfl, rfl⟩ | h
  · exact ⟨none, 0, rfl, Nat.le_refl _, by simp, fun h => absurd h (by simp)⟩
  · exact h.edges
theorem OwnN.keep {w w' : World} {B : Nat} {v : Value} {l : List Ed} (h : OwnN w B v l) (hB : Below w.heap.size w w') : OwnN w' B v l := h.imp id fun h => h.keep hB
theorem OwnN.base {w : World} {B B' : Nat} {v : Value} {l : List Ed} (h : OwnN w B v l) (hb : B' ≤ B) : OwnN w B' v l := h.imp id fun h => h.base hb
theorem markEdgeS_nil (k0 : Int) (w : World) :
    Calls Try.prog 43 #[.slice none 0 0, .int .i64 k0] w fun e w' => e = .returned (.int .i64 k0) ∧ w = w' := by
  go_enter Try.func43, Try.ntmps43
  go_wp2
  refine wp_loop_rounds 1 ?_
  rw [rounds_succ]
  go_wp2
  go_ret
  exact ⟨rfl, rfl⟩
theorem markGraph_any (r n : Int) (v : Value) (l : List Ed) (B : Nat) (k0 : Int) (w : World) (h : OwnN w B v l) (h0 : 0 ≤ k0) (h1 : k0 + 3 * l.length ≤ 4611686018427387904) :
    Calls Try.prog 18 #[graphV r n v, .int .i64 k0] w fun e w' => e = .returned (.int .i64 (k0 + 3 * l.length)) ∧ OwnN w' B v (marksE k0 l.length) ∧ w.grownBy w' v.ownBlock := by
  have hal : w.grownBy (w.alloc (.cells #[.int .i64 r, .int .i64 n, v] 29 (0, 0))) v.ownBlock := World.grownBy_alloc w _ _
  have hk : OwnN (w.alloc (.cells #[.int .i64 r, .int .i64 n, v] 29 (0, 0))) B v l := h.keep ((Below.refl _ _).alloc (Nat.le_refl _) _)
  rcases hk with ⟨rfl, rfl⟩ | hk
  · go_enter Try.func18, Try.ntmps18
    go_wp2_with fail
    refine (markEdgeS_nil k0 _).mono ?_
    rintro e w' ⟨rfl, rfl⟩
    go_wp2
    go_ret
    exact ⟨by simp, .inl ⟨rfl, rfl⟩, hal⟩
  · clear h
    obtain ⟨g, cap, rfl, _⟩ := id hk
    go_enter Try.func18, Try.ntmps18
    go_wp2_with fail
    refine (markEdgeS_any _ l B k0 _ hk h0 h1).mono ?_
    rintro e w' ⟨rfl, ho, hg⟩
    go_wp2
    go_ret
    exact ⟨rfl, .inr ho, hal.trans hg⟩
theorem heldGraph_any (r n : Int) (v : Value) (m : Nat) (k0 : Int) (w : World) (h : Edges w v (marksE k0 m)) (h0 : 0 ≤ k0) (h1 : k0 + 3 * m ≤ 4611686018427387904) :
    Calls Try.prog 24 #[graphV r n v, .int .i64 k0] w (RetV w (.int .i64 (k0 + 3 * m))) := by
  have hB : Below w.heap.size w (w.alloc (.cells #[.int .i64 r, .int .i64 n, v] 29 (0, 0))) := (Below.refl _ _).alloc (Nat.le_refl _) _
  have hk := h.keep hB
  obtain ⟨A, cap, rfl, _⟩ := id h
  go_enter Try.func24, Try.ntmps24
  go_wp2_with fail
  refine (heldEdgeS_any _ m k0 _ hk h0 h1).mono ?_
  rintro e w' ⟨rfl, rfl⟩
  go_wp2
  go_ret
  exact ⟨rfl, hB⟩

/-! ### Objects apart from one another -/
/-- No block is of both. -/
def Apart (v u : Value) : Prop := ∀ k, v.ownBlock = some k → u.ownBlock = some k → False
theorem Apart.symm {v u : Value} (h : Apart v u) : Apart u v := fun k h1 h2 => h k h2 h1
theorem apart_of {w : World} {v u : Value} {B' : Nat} (h : ∀ k, u.ownBlock = some k → k < w.heap.size) (h' : ∀ k, v.ownBlock = some k → B' ≤ k) (hb : w.heap.size ≤ B') : Apart v u := fun k h1 h2 => by
  have := h k h2; have := h' k h1; omega
theorem OwnI.hi {w : World} {B : Nat} {v : Value} {l : List Int} (h : OwnI w B v l) : ∀ k, v.ownBlock = some k → k < w.heap.size := by
  obtain ⟨g, hg, _, h1⟩ := h.block
  intro k hk; rw [hg] at hk; cases hk; exact h1
theorem OwnI.lo {w : World} {B : Nat} {v : Value} {l : List Int} (h : OwnI w B v l) : ∀ k, v.ownBlock = some k → B ≤ k := by
  obtain ⟨g, hg, h1, _⟩ := h.block
  intro k hk; rw [hg] at hk; cases hk; exact h1
theorem OwnI.apart {w w' : World} {B : Nat} {v u : Value} {l : List Int} (h : OwnI w B v l) (hg : w.grownBy w' u.ownBlock) (ha : Apart v u) : OwnI w' B v l := by
  obtain ⟨g, hb, _, _⟩ := h.block
  refine h.grown hg ?_
  intro he
  exact ha g hb (by rw [← he, hb])
theorem OwnE.apart {w w' : World} {B : Nat} {v u : Value} {l : List Ed} (h : OwnE w B v l) (hg : w.grownBy w' u.ownBlock) (ha : Apart v u) : OwnE w' B v l := by
  obtain ⟨g, hb, _, _⟩ := h.block
  refine h.grown hg ?_
  intro he
  exact ha g hb (by rw [← he, hb])
theorem OwnE.hi {w : World} {B : Nat} {v : Value} {l : List Ed} (h : OwnE w B v l) : ∀ k, v.ownBlock = some k → k < w.heap.size := by
  obtain ⟨g, hg, _, h1⟩ := h.block
  intro k hk; rw [hg] at hk; cases hk; exact h1
theorem OwnE.lo {w : World} {B : Nat} {v : Value} {l : List Ed} (h : OwnE w B v l) : ∀ k, v.ownBlock = some k → B ≤ k := by
  obtain ⟨g, hg, h1, _⟩ := h.block
  intro k hk; rw [hg] at hk; cases hk; exact h1
theorem OwnN.apart {w w' : World} {B : Nat} {v u : Value} {l : List Ed} (h : OwnN w B v l) (hg : w.grownBy w' u.ownBlock) (ha : Apart v u) : OwnN w' B v l := h.imp id fun h => h.apart hg ha
theorem OwnN.hi {w : World} {B : Nat} {v : Value} {l : List Ed} (h : OwnN w B v l) : ∀ k, v.ownBlock = some k → k < w.heap.size := by
  rcases h with ⟨rfl, _⟩ | h
  · intro k hk; cases hk
  · exact h.hi
theorem OwnN.lo {w : World} {B : Nat} {v : Value} {l : List Ed} (h : OwnN w B v l) : ∀ k, v.ownBlock = some k → B ≤ k := by
  rcases h with ⟨rfl, _⟩ | h
  · intro k hk; cases hk
  · exact h.lo
end Go.Proofs.Ytpebiacdkfpnpaa
