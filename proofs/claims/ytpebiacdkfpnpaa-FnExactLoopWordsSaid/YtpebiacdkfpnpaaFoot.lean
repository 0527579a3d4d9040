/- Slices of slices of ints of the call's own, with the blocks that they lie in; an append that leaves the old row standing. Conditions: none. -/
import Derived.Test.YtpebiacdkfpnpaaOwnL
namespace Go.Proofs.Ytpebiacdkfpnpaa
open Go.RowKit

/-- append onto a row of the call's own: where the row is copied, the old block stands. -/
theorem run_app_stay {P : Program} {t e : TypeId} {z : Value} {size bytes : Nat} (E : Elem P t e z size bytes) (ty : TypeId) (w : World) (base g n cap : Nat) (xs : List Value)
    (hown : w.ownsRow base e size (.slice (some ⟨g, 0, none⟩) n cap) n xs)
    (ad : Addr) (m c : Nat) (news : List Value) (hl : news.length = m * size) (hnews : ∀ j u, news[j]? = some u → w.cell? (ad.add j) = some u) (h1 : ∀ u ∈ news, u.oneCell' = true)
    (hn : n + m ≤ 1099511627776) :
    ∃ g' cap' w', (Builtin.append_ #[t, t] ty #[.slice (some ⟨g, 0, none⟩) n cap, .slice (some ad) m c]).run P w = .ok (.slice (some ⟨g', 0, none⟩) (n + m) cap') w' ∧
      w'.ownsRow base e size (.slice (some ⟨g', 0, none⟩) (n + m) cap') (n + m) (xs ++ news) ∧ w.grownBy w' (some g) ∧ (g' = g ∨ g' = w.heap.size) ∧ (g' ≠ g → w'.heap[g]? = w.heap[g]?) := by
  obtain ⟨i, hi, hz, hs, hb⟩ := info_parts E.info
  obtain ⟨g', cap', w', hr, h2, h3, h4⟩ := run_app E ty w base g n cap xs hown ad m c news hl hnews h1 hn
  refine ⟨g', cap', w', hr, h2, h3, h4, fun hne => ?_⟩
  have hlt := ownsRow_parts hown
  rcases hown.2 with ⟨hv, _⟩ | ⟨g0, cap0, cur, hv, hbg, hgg, hnc, hcm, hcs, htake⟩
  · cases hv
  · simp only [Value.slice.injEq, Option.some.injEq, Addr.mk.injEq, and_true, true_and] at hv
    obtain ⟨rfl, rfl⟩ := hv
    by_cases hroom : n + m ≤ cap
    · exfalso
      have hfit : n * size + news.length ≤ cur.size := by rw [hl, hcs, ← Nat.add_mul]; exact Nat.mul_le_mul_right _ hroom
      have hrr := run_append_room (P := P) w t ty e i E.under hi g n cap cur hgg ad m c news (by rw [hs]; exact hl) hnews h1 hroom (by rw [hs]; exact hfit)
      rw [hr] at hrr
      simp only [Result.ok.injEq, Value.slice.injEq, Option.some.injEq, Addr.mk.injEq, and_true] at hrr
      exact hne hrr.1.1
    · have holds : ∀ j u, xs[j]? = some u → w.cell? ((⟨g, 0, none⟩ : Addr).add j) = some u := hown.cells (g := g) rfl
      have hby : (n + m) * bytes ≤ 140737488355328 := by
        have h64 := E.small
        have : (n + m) * bytes ≤ 1099511627776 * 64 := Nat.mul_le_mul hn h64
        omega
      have hrr := run_append_grow (P := P) w t ty e i z E.under hi hz ⟨g, 0, none⟩ n cap xs (by rw [hs]; exact hown.1) holds ad m c news (by rw [hs]; exact hl) hnews (by omega) (by omega) (growslice_fits (by omega) (by rw [hb]; exact hby))
      rw [hr] at hrr
      simp only [Result.ok.injEq] at hrr
      rw [hrr.2, heap_alloc_old _ _ (by simpa using hlt.2.1)]
      rfl
/-- 'out = append(out, x)', one element of one cell; where the row is copied, the old block stands. -/
theorem wpl_pushS {P : Program} {t e : TypeId} {z : Value} {bytes : Nat} (E : Elem P t e z 1 bytes) {w : World} {ops : Array Oper} {rest : List Oper} {o : Oper} {a : Act} {Q : Exit → Act → World → Prop} (hgd : o.guard = none) (s x : Operand)
    (ho : o.op = .call { callee := .builtin .append, args := #[s, x], argTypes := #[t, t] })
    {base g n cap : Nat} {xs : List Value} (hs : a.eval s = .slice (some ⟨g, 0, none⟩) n cap) (hown : w.ownsRow base e 1 (.slice (some ⟨g, 0, none⟩) n cap) n xs)
    {b : Nat} {u : Value} {e' : TypeId} {fr : Nat × Nat} (hx : a.eval x = .slice (some ⟨b, 0, none⟩) 1 1) (hb : w.heap[b]? = some (.cells #[u] e' fr)) (h1 : u.oneCell' = true)
    (hn : n + 1 ≤ 1099511627776)
    (h : ∀ g' cap' w', w'.ownsRow base e 1 (.slice (some ⟨g', 0, none⟩) (n + 1) cap') (n + 1) (xs ++ [u]) → w.grownBy w' (some g) → (g' = g ∨ g' = w.heap.size) → (g' ≠ g → w'.heap[g]? = w.heap[g]?) → wpList P ops Q rest (a.put o.dst (.slice (some ⟨g', 0, none⟩) (n + 1) cap')) w') :
    wpList P ops Q (o :: rest) a w := by
  refine wpList_plain hgd fun K hK => ?_
  obtain ⟨g', cap', w', hr, h2, h3, h4, h5⟩ := run_app_stay E o.type w base g n cap xs hown ⟨b, 0, none⟩ 1 1 [u] rfl (World.news_of_block (cs := #[u]) hb) (by simpa using h1) hn
  unfold Oper.wp execOp
  simp only [ho, resolve, invoke, builtin, Sem.run_bind, Sem.run_pure, Result.andThen_ok, List.map_toArray, List.map_cons, List.map_nil, hs, hx, hr]
  exact hK _ _ (h g' cap' w' h2 h3 h4 h5)
/-- The row at the block g holds vs, rows of the call's own that read as ls, all apart; all these blocks are among F. -/
structure FootL (w : World) (B : Nat) (F : Nat → Prop) (g cap : Nat) (vs : List Value) (ls : List (List Int)) : Prop where
  own : w.ownsRow B 33 1 (.slice (some ⟨g, 0, none⟩) ls.length cap) ls.length vs
  rows : ∀ i (h : i < ls.length), ∃ vi, vs[i]? = some vi ∧ OwnI w B vi ls[i] ∧ vi.ownBlock ≠ some g
  diff : ∀ (i j : Nat) (vi vj : Value), i < j → vs[i]? = some vi → vs[j]? = some vj → vi.ownBlock ≠ vj.ownBlock
  spine : F g
  in_ : ∀ (i : Nat) (vi : Value) (k : Nat), vs[i]? = some vi → vi.ownBlock = some k → F k
  lt : ∀ k, F k → k < w.heap.size
theorem FootL.ownL {w : World} {B : Nat} {F : Nat → Prop} {g cap : Nat} {vs : List Value} {ls : List (List Int)} (h : FootL w B F g cap vs ls) : OwnL w B (.slice (some ⟨g, 0, none⟩) ls.length cap) ls :=
  ⟨g, cap, vs, rfl, h.own, h.rows, h.diff⟩
theorem FootL.len {w : World} {B : Nat} {F : Nat → Prop} {g cap : Nat} {vs : List Value} {ls : List (List Int)} (h : FootL w B F g cap vs ls) : vs.length = ls.length := by simpa using h.own.1
theorem FootL.keep {w w' : World} {B : Nat} {F : Nat → Prop} {g cap : Nat} {vs : List Value} {ls : List (List Int)} (h : FootL w B F g cap vs ls) (hB : Below w.heap.size w w') : FootL w' B F g cap vs ls := by
  refine ⟨ownsRow_keep h.own hB, fun i hi => ?_, h.diff, h.spine, h.in_, fun k hk => Nat.lt_of_lt_of_le (h.lt k hk) hB.size⟩
  obtain ⟨vi, h1, h2, h3⟩ := h.rows i hi
  exact ⟨vi, h1, h2.keep hB, h3⟩
/-- Something else was appended to. -/
theorem FootL.far {w w' : World} {B x : Nat} {F : Nat → Prop} {g cap : Nat} {vs : List Value} {ls : List (List Int)} (h : FootL w B F g cap vs ls) (hg : w.grownBy w' (some x)) (hx : ¬ F x) : FootL w' B F g cap vs ls := by
  refine ⟨h.own.kept hg (.inr ?_), fun i hi => ?_, h.diff, h.spine, h.in_, fun k hk => Nat.lt_of_lt_of_le (h.lt k hk) hg.size⟩
  · simp only [Value.ownBlock, ne_eq, Option.some.injEq]
    intro e; exact hx (e ▸ h.spine)
  · obtain ⟨vi, h1, h2, h3⟩ := h.rows i hi
    refine ⟨vi, h1, h2.grown hg ?_, h3⟩
    intro e; exact hx (h.in_ i vi x h1 e)
theorem FootL.start {w : World} {B : Nat} (hb : B ≤ w.heap.size) : FootL (w.alloc (.cells #[] 33 (0, 0))) B (fun k => k = w.heap.size) w.heap.size 0 [] [] :=
  ⟨World.ownsRow_made _ _ _ hb (by decide) rfl, fun i h => absurd h (Nat.not_lt_zero _), fun i j vi vj _ h => by simp at h, rfl, fun i vi k h => by simp at h, fun k hk => by simp only [hk, World.alloc, Array.size_push]; omega⟩
/-- The row i. -/
theorem FootL.at_ {w : World} {B : Nat} {F : Nat → Prop} {g cap : Nat} {vs : List Value} {ls : List (List Int)} (h : FootL w B F g cap vs ls) {i : Nat} (hi : i < ls.length) :
    ∃ gi ci, vs[i]? = some (.slice (some ⟨gi, 0, none⟩) ls[i].length ci) ∧ w.cell? ⟨g, i, none⟩ = some (.slice (some ⟨gi, 0, none⟩) ls[i].length ci) ∧ OwnI w B (.slice (some ⟨gi, 0, none⟩) ls[i].length ci) ls[i] ∧ F gi ∧ gi ≠ g := by
  obtain ⟨vi, h1, h2, h3⟩ := h.rows i hi
  obtain ⟨gi, ci, rfl, _⟩ := id h2
  refine ⟨gi, ci, h1, ?_, h2, h.in_ i _ gi h1 rfl, fun e => h3 (by rw [e]; rfl)⟩
  rw [h.own.cellAt i (by omega)]; exact h1
/-- One row more: it lies apart from all that were there. -/
theorem FootL.push {w w2 w3 : World} {B g cap g' cap' : Nat} {F : Nat → Prop} {ls : List (List Int)} {l9 : List Int} {vs : List Value} {v9 : Value} (h : FootL w B F g cap vs ls)
    (hb2 : Below w.heap.size w w2) (o9 : OwnI w2 w.heap.size v9 l9) (hBw : B ≤ w.heap.size)
    (hown' : w3.ownsRow B 33 1 (.slice (some ⟨g', 0, none⟩) (ls.length + 1) cap') (ls.length + 1) (vs ++ [v9]))
    (hgrow : (w2.alloc (.cells #[v9] 33 (0, 0))).grownBy w3 (some g)) (hat : g' = g ∨ g' = (w2.alloc (.cells #[v9] 33 (0, 0))).heap.size) :
    FootL w3 B (fun k => F k ∨ (w.heap.size ≤ k ∧ k < w3.heap.size)) g' cap' (vs ++ [v9]) (ls ++ [l9]) := by
  have hlen : (ls ++ [l9]).length = ls.length + 1 := by simp
  have hvl := h.len
  obtain ⟨k9, hk9, hlo9, hhi9⟩ := o9.block
  have hsz : w.heap.size ≤ w2.heap.size := hb2.size
  have hsz3 := hgrow.size
  simp only [World.alloc, Array.size_push] at hsz3
  have hal : Below w2.heap.size w2 (w2.alloc (.cells #[v9] 33 (0, 0))) := (Below.refl _ _).alloc (Nat.le_refl _) _
  have hold : ∀ i (hi : i < ls.length), ∃ vi, vs[i]? = some vi ∧ OwnI w3 B vi ls[i] ∧ vi.ownBlock ≠ some g' ∧ ∃ k, vi.ownBlock = some k ∧ k < w.heap.size := fun i hi => by
    obtain ⟨vi, h1, h2, h3⟩ := h.rows i hi
    obtain ⟨k, hk, _, hkhi⟩ := h2.block
    refine ⟨vi, h1, ((h2.keep hb2).keep hal).grown hgrow h3, ?_, k, hk, hkhi⟩
    rcases hat with rfl | rfl
    · exact h3
    · rw [hk]; simp; omega
  have hgw := h.lt g h.spine
  have hg'lt : g' < w3.heap.size := (ownsRow_parts hown').2.1
  refine ⟨by rw [hlen]; exact hown', fun i hi => ?_, fun i j vi vj hij h1 h2 => ?_, ?_, fun i vi k h1 h2 => ?_, fun k hk => ?_⟩
  · by_cases hil : i < ls.length
    · obtain ⟨vi, h1, h2, h3, _⟩ := hold i hil
      refine ⟨vi, by rw [List.getElem?_append_left (by omega)]; exact h1, ?_, h3⟩
      rw [List.getElem_append_left hil]; exact h2
    · obtain rfl : i = ls.length := by omega
      refine ⟨v9, by rw [List.getElem?_append_right (by omega), hvl, Nat.sub_self]; rfl, ?_, ?_⟩
      · rw [List.getElem_append_right (by omega)]
        simp only [Nat.sub_self, List.getElem_cons_zero]
        refine ((o9.base hBw).keep hal).grown hgrow ?_
        rw [hk9]; simp; omega
      · rw [hk9]
        rcases hat with rfl | rfl
        · simp; omega
        · simp; omega
  · have hj : j < ls.length + 1 := by
      have := (List.getElem?_eq_some_iff.1 h2).1
      simpa [hvl] using this
    by_cases hjl : j < ls.length
    · rw [List.getElem?_append_left (by omega)] at h1 h2
      exact h.diff i j vi vj hij h1 h2
    · obtain rfl : j = ls.length := by omega
      rw [List.getElem?_append_left (by omega)] at h1
      rw [List.getElem?_append_right (by omega), hvl, Nat.sub_self] at h2
      simp only [List.getElem?_cons_zero, Option.some.injEq] at h2
      subst h2
      obtain ⟨vi', h3, _, _, k, hk, hkl⟩ := hold i (by omega)
      rw [h1] at h3
      cases h3
      rw [hk, hk9]; simp; omega
  · rcases hat with rfl | e
    · exact .inl h.spine
    · refine .inr ⟨?_, hg'lt⟩
      rw [e]; simp only [World.alloc, Array.size_push]; omega
  · by_cases hil : i < vs.length
    · rw [List.getElem?_append_left hil] at h1
      exact .inl (h.in_ i vi k h1 h2)
    · rw [List.getElem?_append_right (by omega)] at h1
      have : i - vs.length = 0 := by
        have := (List.getElem?_eq_some_iff.1 h1).1
        simpa using this
      rw [this] at h1
      simp only [List.getElem?_cons_zero, Option.some.injEq] at h1
      subst h1
      rw [hk9] at h2; cases h2
      exact .inr ⟨by omega, by omega⟩
  · rcases hk with hk | ⟨_, hk⟩
    · have := h.lt k hk; omega
    · exact hk
end Go.Proofs.Ytpebiacdkfpnpaa
