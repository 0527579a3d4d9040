/- Slices of edges and graphs: what a value reads as; contracts of the laws' helpers on graphs. Conditions: lengths of at most 2^20. -/
import Derived.Test.YtpebiacdkfpnpaaGreatInts
import Derived.Test.YtpebiacdkfpnpaaGreatArgs
import Derived.Test.YtpebiacdkfpnpaaGreatNumB
namespace Go.Proofs.YtpebiacdkfpnpaaGreat
open Go.RowKit

/-- An edge: from, letter, to. -/
abbrev Ed := Int × Int × Int
def edC (e : Ed) : List Value := [.int .i64 e.1, .int .i64 e.2.1, .int .i64 e.2.2]
abbrev edV (e : Ed) : Value := edgeV e.1 e.2.1 e.2.2
def edgesV (l : List Ed) : List Value := l.flatMap edC
def I64E (e : Ed) : Prop := I64 e.1 ∧ I64 e.2.1 ∧ I64 e.2.2
theorem edgesV_nil : edgesV [] = [] := rfl
theorem edgesV_cons (e : Ed) (l : List Ed) : edgesV (e :: l) = edC e ++ edgesV l := rfl
theorem edgesV_append (l l' : List Ed) : edgesV (l ++ l') = edgesV l ++ edgesV l' := by simp [edgesV]
theorem edgesV_length (l : List Ed) : (edgesV l).length = l.length * 3 := by
  induction l with
  | nil => rfl
  | cons e l ih => rw [edgesV_cons, List.length_append, ih, List.length_cons]; simp only [edC, List.length_cons, List.length_nil]; omega
theorem edgesV_get (l : List Ed) : ∀ (i : Nat) (h : i < l.length), (edgesV l)[i * 3]? = some (.int .i64 l[i].1) ∧ (edgesV l)[i * 3 + 1]? = some (.int .i64 l[i].2.1) ∧ (edgesV l)[i * 3 + 2]? = some (.int .i64 l[i].2.2) := by
  induction l with
  | nil => intro i h; simp at h
  | cons e l ih =>
    intro i h
    cases i with
    | zero => exact ⟨rfl, rfl, rfl⟩
    | succ i =>
      have := ih i (by simpa using h)
      have e1 : ∀ j, (edgesV (e :: l))[(i + 1) * 3 + j]? = (edgesV l)[i * 3 + j]? := fun j => by
        rw [edgesV_cons, List.getElem?_append_right (by simp only [edC, List.length_cons, List.length_nil]; omega)]
        congr 1
        simp only [edC, List.length_cons, List.length_nil]; omega
      have e0 := e1 0
      simp only [Nat.add_zero] at e0
      rw [e0, e1 1, e1 2]
      simpa using this

theorem elemE : Elem Tryz.prog 24 28 (edgeV 0 0 0) 3 24 := ⟨Tryz.underlying24, by kernel_rfl, rfl, by decide, by decide⟩

theorem take_get {α : Type} {l : List α} {k : Nat} (h : k < l.length) : l.take (k + 1) = l.take k ++ [l[k]] := by
  rw [List.take_succ_eq_append_getElem h]
/-- The slice v reads as the list of edges l. -/
def Edges (w : World) (v : Value) (l : List Ed) : Prop :=
  ∃ A cap, v = .slice A l.length cap ∧ l.length ≤ cap ∧ (∀ e ∈ l, I64E e) ∧ (0 < l.length → ∃ b off, A = some ⟨b, off, none⟩ ∧ b < w.heap.size ∧
    ∀ i (h : i < l.length), w.cell? ⟨b, off + i * 3, none⟩ = some (.int .i64 l[i].1) ∧ w.cell? ⟨b, off + i * 3 + 1, none⟩ = some (.int .i64 l[i].2.1) ∧ w.cell? ⟨b, off + i * 3 + 2, none⟩ = some (.int .i64 l[i].2.2))
/-- The slice v is a row of the call's own (its block from B on) and reads as l. -/
def OwnE (w : World) (B : Nat) (v : Value) (l : List Ed) : Prop :=
  ∃ g cap, v = .slice (some ⟨g, 0, none⟩) l.length cap ∧ w.ownsRow B 28 3 v l.length (edgesV l) ∧ ∀ e ∈ l, I64E e
theorem Edges.keep {w w' : World} {v : Value} {l : List Ed} (h : Edges w v l) (hB : Below w.heap.size w w') : Edges w' v l := by
  obtain ⟨A, cap, rfl, hc, hr, hcell⟩ := h
  refine ⟨A, cap, rfl, hc, hr, fun h0 => ?_⟩
  obtain ⟨b, off, rfl, hb, hcell⟩ := hcell h0
  refine ⟨b, off, rfl, Nat.lt_of_lt_of_le hb hB.size, fun i hi => ?_⟩
  obtain ⟨h1, h2, h3⟩ := hcell i hi
  exact ⟨(hB.cell (p := ⟨b, _, none⟩) hb).trans h1, (hB.cell (p := ⟨b, _, none⟩) hb).trans h2, (hB.cell (p := ⟨b, _, none⟩) hb).trans h3⟩
theorem OwnE.keep {w w' : World} {B : Nat} {v : Value} {l : List Ed} (h : OwnE w B v l) (hB : Below w.heap.size w w') : OwnE w' B v l := by
  obtain ⟨g, cap, rfl, ho, hr⟩ := h
  exact ⟨g, cap, rfl, ownsRow_keep ho hB, hr⟩
theorem OwnE.base {w : World} {B B' : Nat} {v : Value} {l : List Ed} (h : OwnE w B v l) (hb : B' ≤ B) : OwnE w B' v l := by
  obtain ⟨g, cap, rfl, ho, hr⟩ := h
  exact ⟨g, cap, rfl, ownsRow_base ho hb, hr⟩
theorem OwnE.edges {w : World} {B : Nat} {v : Value} {l : List Ed} (h : OwnE w B v l) : Edges w v l := by
  obtain ⟨g, cap, rfl, ho, hr⟩ := h
  have hp := ownsRow_parts ho
  refine ⟨_, cap, rfl, hp.2.2.1, hr, fun _ => ⟨g, 0, rfl, hp.2.1, fun i hi => ?_⟩⟩
  have he := edgesV_get l i hi
  rw [Nat.zero_add, ho.cellAt _ (by omega), ho.cellAt _ (by omega), ho.cellAt _ (by omega)]
  exact he
theorem OwnE.block {w : World} {B : Nat} {v : Value} {l : List Ed} (h : OwnE w B v l) : ∃ g, v.ownBlock = some g ∧ B ≤ g ∧ g < w.heap.size := by
  obtain ⟨g, cap, rfl, ho, hr⟩ := h
  have hp := ownsRow_parts ho
  exact ⟨g, rfl, hp.1, hp.2.1⟩
theorem OwnE.grown {w w' : World} {B : Nat} {v : Value} {l : List Ed} {row : Option Nat} (h : OwnE w B v l) (hg : w.grownBy w' row) (hne : v.ownBlock ≠ row) : OwnE w' B v l := by
  obtain ⟨g, cap, rfl, ho, hr⟩ := h
  exact ⟨g, cap, rfl, ho.kept hg (.inr hne), hr⟩
abbrev graphV (r n : Int) (v : Value) : Value := .agg #[.int .i64 r, .int .i64 n, v]
/-- A graph is handed back, its edges in new memory. -/
def RetG (w : World) (r n : Int) (l : List Ed) (e : Ending) (w' : World) : Prop := ∃ v, e = .returned (graphV r n v) ∧ OwnE w' w.heap.size v l ∧ Below w.heap.size w w'

theorem edgesV_set (l : List Ed) : ∀ (k : Nat) (a b c : Int), (((edgesV l).set (k * 3) (.int .i64 a)).set (k * 3 + 1) (.int .i64 b)).set (k * 3 + 2) (.int .i64 c) = edgesV (l.set k (a, b, c)) ∨ l.length ≤ k := by
  induction l with
  | nil => intro k a b c; right; simp
  | cons e l ih =>
    intro k a b c
    cases k with
    | zero => left; rfl
    | succ k =>
      rcases ih k a b c with h | h
      · left
        rw [List.set_cons_succ, edgesV_cons, edgesV_cons, ← h]
        have e1 : ∀ (m : List Value) (j : Nat) (x : Value), (edC e ++ m).set ((k + 1) * 3 + j) x = edC e ++ m.set (k * 3 + j) x := fun m j x => by
          rw [List.set_append_right _ _ (by simp only [edC, List.length_cons, List.length_nil]; omega)]
          congr 2
          simp only [edC, List.length_cons, List.length_nil]; omega
        have e0 := e1 (edgesV l) 0 (.int .i64 a)
        simp only [Nat.add_zero] at e0
        rw [e0, e1, e1]
      · right; simpa using h
theorem zerosE (m : Nat) : (madeCells (edgeV 0 0 0).cells (m * 3)).toList = edgesV (List.replicate m (0, 0, 0)) := by
  have h1 : (madeCells (edgeV 0 0 0).cells (m * 3)).toList = List.replicate (m * 3) (.int .i64 0) := by
    apply List.ext_getElem?
    intro j
    by_cases hj : j < m * 3
    · have : j % 3 = 0 ∨ j % 3 = 1 ∨ j % 3 = 2 := by omega
      rcases this with h | h | h <;> simp [madeCells, hj, Value.cells, h]
    · simp [madeCells, hj]
  have h2 : edgesV (List.replicate m (0, 0, 0)) = List.replicate (m * 3) (.int .i64 0) := by
    clear h1
    induction m with
    | zero => rfl
    | succ m ih => rw [List.replicate_succ, edgesV_cons, ih, show (m + 1) * 3 = 3 + m * 3 by omega, ← List.replicate_append_replicate]; rfl
  rw [h1, h2]

/-- The argument reads as the list of edges L. -/
def ArgE (w : World) (a : Option Addr) (len cap : Nat) (L : List Ed) : Prop := L.length = len ∧ Edges w (.slice a len cap) L ∧ len ≤ 9223372036854775807
theorem ArgE.len {w : World} {a : Option Addr} {len cap : Nat} {L : List Ed} (h : ArgE w a len cap L) : L.length = len := h.1
theorem ArgE.keep {w w' : World} {a : Option Addr} {len cap : Nat} {L : List Ed} (h : ArgE w a len cap L) (hB : Below w.heap.size w w') : ArgE w' a len cap L := ⟨h.1, h.2.1.keep hB, h.2.2⟩
theorem argE_nil (w : World) : ArgE w none 0 0 [] := ⟨rfl, ⟨none, 0, rfl, Nat.le_refl _, by simp, fun h => absurd h (by simp)⟩, by omega⟩
theorem argE_cells {w : World} {ad : Addr} {len cap : Nat} (hl : len ≤ cap) (hm : cap ≤ maxLen)
    (hf : ∀ i, i < len → ∃ x y z : Int, I64 x ∧ I64 y ∧ I64 z ∧ w.cell? (ad.add (i * 3)) = some (.int .i64 x) ∧ w.cell? (ad.add (i * 3 + 1)) = some (.int .i64 y) ∧ w.cell? (ad.add (i * 3 + 2)) = some (.int .i64 z)) :
    ∃ L, ArgE w (some ad) len cap L := by
  have hf' : ∀ i, ∃ e : Ed, i < len → I64E e ∧ w.cell? (ad.add (i * 3)) = some (.int .i64 e.1) ∧ w.cell? (ad.add (i * 3 + 1)) = some (.int .i64 e.2.1) ∧ w.cell? (ad.add (i * 3 + 2)) = some (.int .i64 e.2.2) := fun i => by
    by_cases hi : i < len
    · obtain ⟨x, y, z, h1, h2, h3, h4⟩ := hf i hi
      exact ⟨(x, y, z), fun _ => ⟨⟨h1, h2, h3⟩, h4⟩⟩
    · exact ⟨(0, 0, 0), fun h => absurd h hi⟩
  obtain ⟨D, hD⟩ := Classical.axiomOfChoice hf'
  have hlen : ((List.range len).map D).length = len := by simp
  refine ⟨(List.range len).map D, hlen, ⟨some ad, cap, by rw [hlen], by omega, ?_, fun h0 => ?_⟩, by unfold maxLen at hm; omega⟩
  · intro e he
    simp only [List.mem_map, List.mem_range] at he
    obtain ⟨i, hi, rfl⟩ := he
    exact (hD i hi).1
  · rw [hlen] at h0
    obtain ⟨b, off, spot⟩ := ad
    have h1 := (hD 0 h0).2.1
    have hspot : spot = none := by simpa [Addr.add] using World.cell?_spot h1
    subst hspot
    refine ⟨b, off, rfl, by simpa [Addr.add] using World.block_lt_of_cell? w _ h1, fun i hi => ?_⟩
    rw [hlen] at hi
    obtain ⟨_, h2, h3, h4⟩ := hD i hi
    rw [Addr.add_lit] at h2 h3 h4
    simp only [List.getElem_map, List.getElem_range]
    exact ⟨h2, h3, h4⟩
theorem ownsRow_same {w w' : World} {b : Nat} {e : TypeId} {size : Nat} {v : Value} {n : Nat} {xs : List Value}
    (h : w.ownsRow b e size v n xs) (hh : ∀ k, v.ownBlock = some k → w'.heap[k]? = w.heap[k]?) : w'.ownsRow b e size v n xs := by
  refine ⟨h.1, ?_⟩
  rcases h.2 with hn | ⟨g, cap, cur, rfl, hb, hgg, rest⟩
  · exact .inl hn
  · refine .inr ⟨g, cap, cur, rfl, hb, ?_, rest⟩
    rw [hh g rfl]
    exact hgg
theorem heap_two (w : World) (o1 o2 o3 : Obj) : (((w.alloc o1).alloc o2).alloc o3).heap[w.heap.size + 1 + 1]? = some o3 := by
  have := heap_alloc_new ((w.alloc o1).alloc o2) o3
  simpa using this
theorem heap_one (w : World) (o1 o2 o3 : Obj) : (((w.alloc o1).alloc o2).alloc o3).heap[w.heap.size + 1]? = some o2 := by
  rw [heap_alloc_old _ _ (by simp)]
  have := heap_alloc_new (w.alloc o1) o2
  simpa using this

/-- A slice of edges of the call's own, or nil. -/
def OwnN (w : World) (B : Nat) (v : Value) (l : List Ed) : Prop := (v = .slice none 0 0 ∧ l = []) ∨ OwnE w B v l
theorem OwnN.edges {w : World} {B : Nat} {v : Value} {l : List Ed} (h : OwnN w B v l) : Edges w v l := by
  rcases h with ⟨rfl, rfl⟩ | h
  · exact ⟨none, 0, rfl, Nat.le_refl _, by simp, fun h => absurd h (by simp)⟩
  · exact h.edges
theorem OwnN.keep {w w' : World} {B : Nat} {v : Value} {l : List Ed} (h : OwnN w B v l) (hB : Below w.heap.size w w') : OwnN w' B v l := h.imp id fun h => h.keep hB
theorem OwnN.base {w : World} {B B' : Nat} {v : Value} {l : List Ed} (h : OwnN w B v l) (hb : B' ≤ B) : OwnN w B' v l := h.imp id fun h => h.base hb

/-! ### Objects apart from one another -/
/-- No block is of both. -/
def Apart (v u : Value) : Prop := ∀ k, v.ownBlock = some k → u.ownBlock = some k → False
theorem Apart.symm {v u : Value} (h : Apart v u) : Apart u v := fun k h1 h2 => h k h2 h1
theorem apart_of {w : World} {v u : Value} {B' : Nat} (h : ∀ k, u.ownBlock = some k → k < w.heap.size) (h' : ∀ k, v.ownBlock = some k → B' ≤ k) (hb : w.heap.size ≤ B') : Apart v u := fun k h1 h2 => by
  have := h k h2; have := h' k h1; omega
theorem OwnI.hi {w : World} {B : Nat} {v : Value} {l : List Int} (h : OwnI w B v l) : ∀ k, v.ownBlock = some k → k < w.heap.size := by
  obtain ⟨g, hg, _, h1⟩ := h.block
  intro k hk; rw [hg] at hk; cases hk; exact h1
theorem OwnI.lo {w : World} {B : Nat} {v : Value} {l : List Int} (h : OwnI w B v l) : ∀ k, v.ownBlock = some k → B ≤ k := by
  obtain ⟨g, hg, h1, _⟩ := h.block
  intro k hk; rw [hg] at hk; cases hk; exact h1
theorem OwnI.apart {w w' : World} {B : Nat} {v u : Value} {l : List Int} (h : OwnI w B v l) (hg : w.grownBy w' u.ownBlock) (ha : Apart v u) : OwnI w' B v l := by
  obtain ⟨g, hb, _, _⟩ := h.block
  refine h.grown hg ?_
  intro he
  exact ha g hb (by rw [← he, hb])
theorem OwnE.apart {w w' : World} {B : Nat} {v u : Value} {l : List Ed} (h : OwnE w B v l) (hg : w.grownBy w' u.ownBlock) (ha : Apart v u) : OwnE w' B v l := by
  obtain ⟨g, hb, _, _⟩ := h.block
  refine h.grown hg ?_
  intro he
  exact ha g hb (by rw [← he, hb])
theorem OwnE.hi {w : World} {B : Nat} {v : Value} {l : List Ed} (h : OwnE w B v l) : ∀ k, v.ownBlock = some k → k < w.heap.size := by
  obtain ⟨g, hg, _, h1⟩ := h.block
  intro k hk; rw [hg] at hk; cases hk; exact h1
theorem OwnE.lo {w : World} {B : Nat} {v : Value} {l : List Ed} (h : OwnE w B v l) : ∀ k, v.ownBlock = some k → B ≤ k := by
  obtain ⟨g, hg, h1, _⟩ := h.block
  intro k hk; rw [hg] at hk; cases hk; exact h1
theorem OwnN.apart {w w' : World} {B : Nat} {v u : Value} {l : List Ed} (h : OwnN w B v l) (hg : w.grownBy w' u.ownBlock) (ha : Apart v u) : OwnN w' B v l := h.imp id fun h => h.apart hg ha
theorem OwnN.hi {w : World} {B : Nat} {v : Value} {l : List Ed} (h : OwnN w B v l) : ∀ k, v.ownBlock = some k → k < w.heap.size := by
  rcases h with ⟨rfl, _⟩ | h
  · intro k hk; cases hk
  · exact h.hi
theorem OwnN.lo {w : World} {B : Nat} {v : Value} {l : List Ed} (h : OwnN w B v l) : ∀ k, v.ownBlock = some k → B ≤ k := by
  rcases h with ⟨rfl, _⟩ | h
  · intro k hk; cases hk
  · exact h.lo
end Go.Proofs.YtpebiacdkfpnpaaGreat
