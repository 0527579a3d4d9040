/- What ParseGraph's loops keep: the result's box, the words, the graph's box and its edges. Conditions: none. -/
import Derived.Test.YtpebiacdkfpnpaaGreatParseL
import Derived.Test.YtpebiacdkfpnpaaGreatRetG
import Derived.Test.YtpebiacdkfpnpaaGreatAppV
namespace Go.Proofs.YtpebiacdkfpnpaaGreat
open Go.RowKit

theorem parseIV_i64 (l : List UInt8) : I64 (parseIV l) := by
  have h : digVal (l.take 11) < 100000000000 := digVal_lt11 (by simp; omega)
  unfold parseIV candI I64
  cases parseIOk l <;> cases isMinus l <;> simp only <;> omega
theorem numS_i64 (l : List UInt8) : I64 (numS l) := by
  cases h : parseIOk l with
  | true => rw [numS_yes h]; exact parseIV_i64 l
  | false => rw [numS_no h]; exact ⟨by omega, by omega⟩
theorem readI_i64 : ∀ (l a : List UInt8), I64E (readI a l)
  | [], a => ⟨⟨by simp [readI], by simp [readI]⟩, ⟨by simp [readI], by simp [readI]⟩, by simp [readI], by simp [readI]⟩
  | b :: l, a => by
    by_cases h : letOf b.toNat = 0
    · rw [readI_cons_no h]; exact readI_i64 l _
    · rw [readI_cons_yes h]; exact ⟨parseIV_i64 _, letOf_i64 _, parseIV_i64 _⟩
theorem readS_i64 : ∀ (l a : List UInt8), I64E (readS a l)
  | [], a => ⟨⟨by simp [readS], by simp [readS]⟩, ⟨by simp [readS], by simp [readS]⟩, by simp [readS], by simp [readS]⟩
  | b :: l, a => by
    cases h : isLow b with
    | false =>
      have : readS a (b :: l) = readS (a ++ [b]) l := by simp only [readS, h]
      rw [this]; exact readS_i64 l _
    | true =>
      have : readS a (b :: l) = (numS a, (b.toNat : Int) - 96, numS l) := by simp only [readS, h]
      have hb := b.toNat_lt
      rw [this]; exact ⟨numS_i64 _, ⟨by simp only; omega, by simp only; omega⟩, numS_i64 _⟩
theorem edgesV_snoc (es : List Ed) (e : Ed) : edgesV (es ++ [e]) = edgesV es ++ edC e := by rw [edgesV_append, edgesV_cons, edgesV_nil, List.append_nil]
theorem cutB_sum (c : UInt8) (s : List UInt8) : ((cutB c s).map List.length).sum ≤ s.length := by
  have := (cutSt_len c s).2
  simp only [cutB, List.map_append, List.sum_append, List.map_cons, List.map_nil, List.sum_cons, List.sum_nil]; omega
theorem sum_mem {ts : List (List UInt8)} {t : List UInt8} (h : t ∈ ts) : t.length ≤ (ts.map List.length).sum := by
  induction ts with
  | nil => simp at h
  | cons a l ih =>
    simp only [List.map_cons, List.sum_cons]
    rcases List.mem_cons.1 h with rfl | h
    · omega
    · have := ih h; omega
theorem cutB_pos (c : UInt8) (s : List UInt8) : 0 < (cutB c s).length := by simp [cutB]
theorem Box.put {w : World} {k i : Nat} {cs : Array Value} {t : TypeId} (h : Box w k (.cells cs t (0, 0))) (u : Value) : Box (w.setCell ⟨k, i, none⟩ u) k (.cells (cs.setIfInBounds i u) t (0, 0)) := heap_setCell_same w k i cs t u h
theorem Box.off {w : World} {k : Nat} {o : Obj} (h : Box w k o) (a : Addr) (u : Value) (hne : k ≠ a.block) : Box (w.setCell a u) k o := (Below.heap_setCell w a u k hne).trans h
theorem Box.froz {w : World} {k : Nat} {cs : Array Value} {t : TypeId} (h : Box w k (.cells cs t (0, 0))) (j : Nat) : w.frozen? ⟨k, j, none⟩ = false := frozen_of_row w k j cs t h
theorem Box.at_ {w : World} {k : Nat} (o : Obj) (h : w.heap.size = k) : Box (w.alloc o) k o := by subst h; exact Box.new w o
/-- The state between two rounds. -/
structure PGSt (w wr : World) (kg gp capp : Nat) (ts : List (List UInt8)) (r n : Int) (A : Option Addr) (cap : Nat) (es : List Ed) : Prop where
  res : Box wr w.heap.size (.cells #[.int .i64 0, .int .i64 0, .slice none 0 0] 26 (0, 0))
  words : wr.ownsRow w.heap.size 9 1 (.slice (some ⟨gp, 0, none⟩) ts.length capp) ts.length (strsV ts)
  box : Box wr kg (.cells #[.int .i64 r, .int .i64 n, .slice A es.length cap] 26 (0, 0))
  own : wr.ownsRow w.heap.size 28 3 (.slice A es.length cap) es.length (edgesV es)
  rng : ∀ e ∈ es, I64E e
  far : ∀ k, (Value.slice A es.length cap).ownBlock = some k → kg < k
  below : Below w.heap.size w wr
theorem PGSt.keep {w wr w2 : World} {kg gp capp : Nat} {ts : List (List UInt8)} {r n : Int} {A : Option Addr} {cap : Nat} {es : List Ed} (h : PGSt w wr kg gp capp ts r n A cap es) (hb : Below wr.heap.size wr w2) : PGSt w w2 kg gp capp ts r n A cap es :=
  ⟨h.res.keep hb, ownsRow_keep h.words hb, h.box.keep hb, ownsRow_keep h.own hb, h.rng, h.far, h.below.trans (hb.mono h.below.size)⟩
theorem PGSt.ownN {w wr : World} {kg gp capp : Nat} {ts : List (List UInt8)} {r n : Int} {A : Option Addr} {cap : Nat} {es : List Ed} (h : PGSt w wr kg gp capp ts r n A cap es) : OwnN wr w.heap.size (.slice A es.length cap) es := by
  have ho := h.own
  rcases ho.2 with ⟨hv, hn⟩ | ⟨g, cap', cur, hv, _⟩
  · exact .inl ⟨hv, List.eq_nil_of_length_eq_zero hn⟩
  · rw [hv] at ho
    exact .inr ⟨g, cap', hv, by rw [hv]; exact ho, h.rng⟩
theorem PGSt.push {w W W1 w1 : World} {kg gp capp g' cap' : Nat} {ts : List (List UInt8)} {r n : Int} {A : Option Addr} {cap : Nat} {es : List Ed} {e : Ed} (h : PGSt w W kg gp capp ts r n A cap es) (he : I64E e) (h1 : Below W.heap.size W W1) (hgp : w.heap.size < gp ∧ gp < kg)
    (hown : w1.ownsRow w.heap.size 28 3 (.slice (some ⟨g', 0, none⟩) (es.length + 1) cap') (es.length + 1) (edgesV es ++ edC e))
    (hg : W1.grownBy w1 (Value.slice A es.length cap).ownBlock) (hat : (Value.slice A es.length cap).ownBlock = some g' ∨ g' = W1.heap.size) :
    PGSt w (w1.setCell ⟨kg, 2, none⟩ (.slice (some ⟨g', 0, none⟩) (es.length + 1) cap')) kg gp capp ts r n (some ⟨g', 0, none⟩) cap' (es ++ [e]) := by
  have hk := h.keep h1
  have hkg : kg < g' := by
    rcases hat with h2 | h2
    · exact h.far _ h2
    · have := hk.box.lt; omega
  have hlen : (es ++ [e]).length = es.length + 1 := by simp
  have hb : Below w.heap.size w w1 := hk.below.grown hg hk.below.size fun k hk2 => by have := h.far k hk2; omega
  have b1 := hk.box.grown (v := .slice A es.length cap) hg fun j hj => by have := h.far j hj; omega
  have b2 := b1.put (i := 2) (.slice (some ⟨g', 0, none⟩) (es.length + 1) cap')
  refine ⟨(hk.res.grown (v := .slice A es.length cap) hg fun j hj => by have := h.far j hj; omega).off _ _ (by simp only [ne_eq]; omega), ?_, ?_, ?_, ?_, ?_, hb.setCell (by simp only; omega) _⟩
  · refine ownsRow_same (hk.words.kept hg (.inr ?_)) fun k hk2 => ?_
    · simp only [Value.ownBlock, ne_eq]
      intro e2
      have := h.far gp e2.symm; omega
    · simp only [Value.ownBlock, Option.some.injEq] at hk2
      exact Below.heap_setCell _ _ _ _ (by simp only [ne_eq]; omega)
  · rw [hlen]; exact b2
  · rw [hlen, edgesV_snoc]
    refine ownsRow_same hown fun k hk2 => ?_
    simp only [Value.ownBlock, Option.some.injEq] at hk2
    exact Below.heap_setCell _ _ _ _ (by simp only [ne_eq]; omega)
  · intro e' he'
    rcases List.mem_append.1 he' with h3 | h3
    · exact h.rng e' h3
    · simp at h3; rw [h3]; exact he
  · intro k hk2
    simp only [Value.ownBlock, Option.some.injEq] at hk2; omega
theorem strs_cell {B k : Nat} {w : World} {gp capp : Nat} {ts : List (List UInt8)} (hk : k < ts.length) (h : w.ownsRow B 9 1 (.slice (some ⟨gp, 0, none⟩) ts.length capp) ts.length (strsV ts)) : w.cell? ⟨gp, k, none⟩ = some (.string ⟨ts[k].toArray⟩) := by
  rw [h.cellAt _ (by omega), strsV, List.getElem?_map, List.getElem?_eq_getElem hk]; rfl
theorem PGSt.start {w w2 : World} {gp capp : Nat} {ts : List (List UInt8)} (r : Int) (hres : Box w2 w.heap.size (.cells #[.int .i64 0, .int .i64 0, .slice none 0 0] 26 (0, 0)))
    (hw : w2.ownsRow w.heap.size 9 1 (.slice (some ⟨gp, 0, none⟩) ts.length capp) ts.length (strsV ts)) (hb : Below w.heap.size w w2) :
    PGSt w (w2.alloc (.cells #[.int .i64 r, .int .i64 0, .slice none 0 0] 26 (0, 0))) w2.heap.size gp capp ts r 0 none 0 [] :=
  have ha : Below w2.heap.size w2 (w2.alloc (.cells #[.int .i64 r, .int .i64 0, .slice none 0 0] 26 (0, 0))) := (Below.refl _ _).alloc (Nat.le_refl _) _
  ⟨hres.keep ha, ownsRow_keep hw ha, Box.new _ _, World.ownsRow_nil _ _ _ _, by simp, (fun k hk => by cases hk), hb.trans (ha.mono hb.size)⟩
theorem PGSt.setF {w W : World} {kg gp capp : Nat} {ts : List (List UInt8)} {r n : Int} {A : Option Addr} {cap : Nat} {es : List Ed} (h : PGSt w W kg gp capp ts r n A cap es) (i : Nat) (u : Value) (r' n' : Int) (hi : (#[.int .i64 r, .int .i64 n, .slice A es.length cap] : Array Value).setIfInBounds i u = #[.int .i64 r', .int .i64 n', .slice A es.length cap]) (hgp : w.heap.size < gp ∧ gp < kg) :
    PGSt w (W.setCell ⟨kg, i, none⟩ u) kg gp capp ts r' n' A cap es := by
  have b2 := h.box.put (i := i) u
  rw [hi] at b2
  exact ⟨h.res.off _ _ (by simp only [ne_eq]; omega), ownsRow_same h.words fun k hk => Below.heap_setCell _ _ _ _ (by simp only [Value.ownBlock, Option.some.injEq] at hk; simp only [ne_eq]; omega), b2,
    ownsRow_same h.own fun k hk => Below.heap_setCell _ _ _ _ (by have := h.far k hk; simp only [ne_eq]; omega), h.rng, h.far, h.below.setCell (by simp only; omega) _⟩
/-- The graph goes into the result's box. -/
theorem PGSt.finish {w W : World} {kg gp capp : Nat} {ts : List (List UInt8)} {r n : Int} {A : Option Addr} {cap : Nat} {es : List Ed} (h : PGSt w W kg gp capp ts r n A cap es) (hkg : w.heap.size < kg) (a b c : Value) :
    OwnN (((W.setCell ⟨w.heap.size, 0, none⟩ a).setCell ⟨w.heap.size, 1, none⟩ b).setCell ⟨w.heap.size, 2, none⟩ c) w.heap.size (.slice A es.length cap) es ∧ Below w.heap.size w (((W.setCell ⟨w.heap.size, 0, none⟩ a).setCell ⟨w.heap.size, 1, none⟩ b).setCell ⟨w.heap.size, 2, none⟩ c) := by
  refine ⟨?_, ((h.below.setCell (Nat.le_refl _) _).setCell (Nat.le_refl _) _).setCell (Nat.le_refl _) _⟩
  rcases h.ownN with h1 | ⟨g, cap', hv, ho, hr⟩
  · exact .inl h1
  · refine .inr ⟨g, cap', hv, ownsRow_same ho fun k hk => ?_, hr⟩
    have := h.far k hk
    rw [Below.heap_setCell _ _ _ _ (by simp only [ne_eq]; omega), Below.heap_setCell _ _ _ _ (by simp only [ne_eq]; omega), Below.heap_setCell _ _ _ _ (by simp only [ne_eq]; omega)]
end Go.Proofs.YtpebiacdkfpnpaaGreat
