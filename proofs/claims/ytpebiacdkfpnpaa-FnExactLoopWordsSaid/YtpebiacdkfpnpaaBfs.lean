/- Plain law of the search by breadth. Conditions: none. -/
import Derived.Test.YtpebiacdkfpnpaaSteps
namespace Go.Proofs.Ytpebiacdkfpnpaa

/-! ### The search by breadth -/
/-- The vertices found, in their order; for each vertex its word, if it was found. -/
abbrev Bfs := List Int × List (Option (List Int))
/-- The letters of a rank: 1, -1, 2, -2 and so on. -/
def lettersL (r : Nat) : List Int := (List.range r).flatMap fun (i : Nat) => [(i : Int) + 1, -((i : Int) + 1)]
theorem lettersL_succ (r : Nat) : lettersL (r + 1) = lettersL r ++ [(r : Int) + 1, -((r : Int) + 1)] := by
  simp [lettersL, List.range_succ]
theorem lettersL_length (r : Nat) : (lettersL r).length = 2 * r := by
  induction r with
  | zero => rfl
  | succ r ih => rw [lettersL_succ, List.length_append, ih]; simp; omega
theorem lettersL_mem {r : Nat} {x : Int} (h : x ∈ lettersL r) : x ≠ 0 ∧ -(r : Int) ≤ x ∧ x ≤ r := by
  simp only [lettersL, List.mem_flatMap, List.mem_range, List.mem_cons, List.not_mem_nil, or_false] at h
  obtain ⟨i, hi, h | h⟩ := h <;> omega
def wordAt (s : Bfs) (u : Int) : Option (List Int) := s.2.getD u.toNat none
/-- What the letter x does at the vertex u. -/
def stepB (l : List Ed) (u : Int) (s : Bfs) (x : Int) : Bfs := match decide (0 ≤ nextV l u x) && decide (wordAt s (nextV l u x) = none) with
  | true => (s.1 ++ [nextV l u x], s.2.set (nextV l u x).toNat (some ((wordAt s u).getD [] ++ [x])))
  | false => s
theorem stepB_yes {l : List Ed} {u x : Int} {s : Bfs} (h : 0 ≤ nextV l u x) (h2 : wordAt s (nextV l u x) = none) : stepB l u s x = (s.1 ++ [nextV l u x], s.2.set (nextV l u x).toNat (some ((wordAt s u).getD [] ++ [x]))) := by
  simp only [stepB, decide_eq_true h, decide_eq_true h2, Bool.and_self]
theorem stepB_no {l : List Ed} {u x : Int} {s : Bfs} (h : nextV l u x < 0 ∨ wordAt s (nextV l u x) ≠ none) : stepB l u s x = s := by
  have e : (decide (0 ≤ nextV l u x) && decide (wordAt s (nextV l u x) = none)) = false := by
    rw [Bool.eq_false_iff]
    simp only [ne_eq, Bool.and_eq_true, decide_eq_true_eq]
    rintro ⟨h1, h2⟩
    rcases h with h | h
    · omega
    · exact h h2
  simp only [stepB, e]
/-- After i vertices of the queue. -/
def bfsAt (l : List Ed) (r : Nat) (v : Int) (n : Nat) : Nat → Bfs
  | 0 => ([v], (List.replicate n none).set v.toNat (some []))
  | i + 1 => match (bfsAt l r v n i).1[i]? with
    | some u => (lettersL r).foldl (stepB l u) (bfsAt l r v n i)
    | none => bfsAt l r v n i
/-- What the search has found at its end. -/
def bfsF (l : List Ed) (r : Nat) (v : Int) (n : Nat) : Bfs := bfsAt l r v n n
structure BfsOk (n : Nat) (s : Bfs) : Prop where
  len : s.2.length = n
  cnt : s.1.length = s.2.countP Option.isSome
  rng : ∀ (k : Nat) (h : k < s.1.length), 0 ≤ s.1[k] ∧ s.1[k].toNat < n ∧ ∃ w, wordAt s s.1[k] = some w
  wl : ∀ (t : Nat) (w : List Int), s.2.getD t none = some w → w.length < s.1.length ∧ ∀ x ∈ w, -9223372036854775808 ≤ x ∧ x ≤ 9223372036854775807
theorem BfsOk.le {n : Nat} {s : Bfs} (h : BfsOk n s) : s.1.length ≤ n := by
  rw [h.cnt, ← h.len]; exact List.countP_le_length
theorem countP_set {α : Type} {p : α → Bool} {l : List α} {i : Nat} {x : α} (h : i < l.length) (h1 : p l[i] = false) (h2 : p x = true) : (l.set i x).countP p = l.countP p + 1 := by
  have hs : l = l.take i ++ l[i] :: l.drop (i + 1) := by
    conv => lhs; rw [← List.take_append_drop i l, List.drop_eq_getElem_cons h]
  have hl : (l.take i).length = i := by rw [List.length_take]; omega
  have e : l.set i x = l.take i ++ x :: l.drop (i + 1) := by
    conv => lhs; rw [hs]
    rw [List.set_append_right _ _ (by omega), hl, Nat.sub_self, List.set_cons_zero]
  rw [e]
  conv => rhs; rw [hs]
  rw [List.countP_append, List.countP_append, List.countP_cons_of_pos h2, List.countP_cons_of_neg (by rw [h1]; simp)]
  omega
theorem wordAt_set {s : Bfs} {o : List Int} {t u : Int} {w : List Int} (ht : t.toNat < s.2.length) : wordAt (o, s.2.set t.toNat (some w)) u = (if t.toNat = u.toNat then some w else wordAt s u) := by
  unfold wordAt
  simp only [List.getD_eq_getElem?_getD, List.getElem?_set]
  by_cases h : t.toNat = u.toNat
  · rw [if_pos h, if_pos h, if_pos (by omega)]; rfl
  · rw [if_neg h, if_neg h]
theorem BfsOk.step {l : List Ed} {n : Nat} {u x : Int} {s : Bfs} (h : BfsOk n s) (hu : ∃ k, ∃ (h : k < s.1.length), s.1[k] = u) (hx : -9223372036854775808 ≤ x ∧ x ≤ 9223372036854775807) (hr : nextV l u x < 0 ∨ (nextV l u x).toNat < n) :
    BfsOk n (stepB l u s x) ∧ (∀ k (_ : k < s.1.length), (stepB l u s x).1[k]? = s.1[k]?) ∧ s.1.length ≤ (stepB l u s x).1.length ∧ wordAt (stepB l u s x) u = wordAt s u := by
  by_cases hc : 0 ≤ nextV l u x ∧ wordAt s (nextV l u x) = none
  · obtain ⟨h1, h2⟩ := hc
    have hn : (nextV l u x).toNat < n := hr.elim (fun h => by omega) id
    obtain ⟨ku, hku, rfl⟩ := hu
    rw [stepB_yes h1 h2]
    obtain ⟨t, ht⟩ : ∃ t, t = nextV l s.1[ku] x := ⟨_, rfl⟩
    rw [← ht] at h1 h2 hn ⊢
    obtain ⟨wu, hwu⟩ := (h.rng ku hku).2.2
    have hwl := h.wl _ _ hwu
    have htl : t.toNat < s.2.length := by rw [h.len]; exact hn
    have hset := fun (u : Int) (w : List Int) => wordAt_set (s := s) (o := s.1 ++ [t]) (t := t) (u := u) (w := w) htl
    have hne : t.toNat ≠ (s.1[ku]).toNat := fun e => by
      unfold wordAt at h2 hwu
      rw [e, hwu] at h2; cases h2
    refine ⟨⟨by simpa using h.len, ?_, fun k hk => ?_, fun k w hw => ?_⟩, fun k hk => ?_, by simp, ?_⟩
    · simp only [List.length_append, List.length_singleton]
      rw [countP_set htl ?_ rfl, h.cnt]
      have : s.2.getD t.toNat none = none := h2
      rw [List.getD_eq_getElem?_getD, List.getElem?_eq_getElem htl] at this
      simp only [Option.getD_some] at this
      rw [this]; rfl
    · simp only [List.length_append, List.length_singleton] at hk
      simp only
      by_cases hk2 : k < s.1.length
      · rw [List.getElem_append_left hk2]
        obtain ⟨a, b, c⟩ := h.rng k hk2
        refine ⟨a, b, ?_⟩
        rw [hset]
        split
        · exact ⟨_, rfl⟩
        · exact c
      · obtain rfl : k = s.1.length := by omega
        rw [List.getElem_append_right (by omega)]
        simp only [Nat.sub_self, List.getElem_cons_zero]
        exact ⟨h1, hn, _, by rw [hset, if_pos rfl]⟩
    · simp only [List.length_append, List.length_singleton]
      simp only [List.getD_eq_getElem?_getD, List.getElem?_set] at hw
      split at hw
      · simp only [Option.getD_some, Option.some.injEq] at hw
        rw [← hw, hwu]
        simp only [Option.getD_some, List.length_append, List.length_singleton]
        refine ⟨by omega, fun y hy => ?_⟩
        rcases List.mem_append.1 hy with hy | hy
        · exact hwl.2 y hy
        · simp at hy; rw [hy]; exact hx
      · have := h.wl k w (by rw [List.getD_eq_getElem?_getD]; exact hw)
        exact ⟨by omega, this.2⟩
    · simp only
      rw [List.getElem?_append_left hk]
    · rw [hset, if_neg hne]
  · have e := stepB_no (l := l) (u := u) (x := x) (s := s) (by
      by_cases h1 : nextV l u x < 0
      · exact .inl h1
      · exact .inr fun h2 => hc ⟨by omega, h2⟩)
    rw [e]
    exact ⟨h, fun _ _ => rfl, Nat.le_refl _, rfl⟩
/-- The same through some letters. -/
theorem BfsOk.steps {l : List Ed} {n : Nat} {u : Int} (xs : List Int) (hx : ∀ x ∈ xs, (-9223372036854775808 ≤ x ∧ x ≤ 9223372036854775807) ∧ (nextV l u x < 0 ∨ (nextV l u x).toNat < n)) : ∀ {s : Bfs}, BfsOk n s → (∃ k, ∃ (h : k < s.1.length), s.1[k] = u) →
    BfsOk n (xs.foldl (stepB l u) s) ∧ (∀ k (_ : k < s.1.length), (xs.foldl (stepB l u) s).1[k]? = s.1[k]?) ∧ s.1.length ≤ (xs.foldl (stepB l u) s).1.length := by
  induction xs with
  | nil => intro s h _; exact ⟨h, fun _ _ => rfl, Nat.le_refl _⟩
  | cons x t ih =>
    intro s h hu
    have hx1 := hx x (List.mem_cons_self ..)
    obtain ⟨s1, s2, s3, s4⟩ := h.step hu hx1.1 hx1.2
    have hu' : ∃ k, ∃ (h : k < (stepB l u s x).1.length), (stepB l u s x).1[k] = u := by
      obtain ⟨k, hk, e⟩ := hu
      refine ⟨k, by omega, ?_⟩
      have := s2 k hk
      rw [List.getElem?_eq_getElem (by omega), List.getElem?_eq_getElem hk] at this
      rw [Option.some.inj this, e]
    obtain ⟨i1, i2, i3⟩ := ih (fun y hy => hx y (List.mem_cons_of_mem _ hy)) s1 hu'
    rw [List.foldl_cons]
    exact ⟨i1, fun k hk => by rw [i2 k (by omega), s2 k hk], by omega⟩
theorem bfs_start {n : Nat} {v : Int} (h0 : 0 ≤ v) (h1 : v.toNat < n) : BfsOk n ([v], (List.replicate n none).set v.toNat (some [])) := by
  have hl : v.toNat < (List.replicate n (none : Option (List Int))).length := by simpa using h1
  refine ⟨by simp, ?_, fun k hk => ?_, fun k w hw => ?_⟩
  · simp only [List.length_singleton]
    rw [countP_set hl (by simp) rfl]
    have : (List.replicate n (none : Option (List Int))).countP Option.isSome = 0 := by
      rw [List.countP_eq_zero]; intro a ha; rw [List.eq_of_mem_replicate ha]; simp
    omega
  · simp only [List.length_singleton] at hk
    obtain rfl : k = 0 := by omega
    simp only [List.getElem_cons_zero]
    refine ⟨h0, h1, [], ?_⟩
    unfold wordAt
    simp only [List.getD_eq_getElem?_getD, List.getElem?_set, if_pos hl, if_true]; rfl
  · simp only [List.getD_eq_getElem?_getD, List.getElem?_set] at hw
    split at hw
    · simp only [Option.getD_some, Option.some.injEq] at hw
      rw [← hw]; simp
    · rw [List.getElem?_replicate] at hw
      split at hw <;> simp at hw
theorem bfs_ok {l : List Ed} {r n : Nat} {v : Int} (hr : r ≤ 100) (hv0 : 0 ≤ v) (hv1 : v.toNat < n) (hl : ∀ u x, nextV l u x < 0 ∨ (nextV l u x).toNat < n) : ∀ i, BfsOk n (bfsAt l r v n i) := by
  intro i
  induction i with
  | zero => exact bfs_start hv0 hv1
  | succ i ih =>
    simp only [bfsAt]
    cases hc : (bfsAt l r v n i).1[i]? with
    | none => exact ih
    | some u =>
      obtain ⟨hi, e⟩ := List.getElem?_eq_some_iff.1 hc
      refine (BfsOk.steps _ (fun x hx => ⟨?_, hl u x⟩) ih ⟨i, hi, e⟩).1
      have := lettersL_mem hx
      omega
theorem bfs_stay {l : List Ed} {r n : Nat} {v : Int} {i : Nat} (h : (bfsAt l r v n i).1.length ≤ i) : ∀ j, i ≤ j → bfsAt l r v n j = bfsAt l r v n i := by
  intro j
  induction j with
  | zero => intro hj; rw [show i = 0 by omega]
  | succ j ih =>
    intro hj
    rcases Nat.lt_or_ge i (j + 1) with h1 | h1
    · have e := ih (by omega)
      simp only [bfsAt]
      rw [e, List.getElem?_eq_none (by omega)]
    · rw [show j + 1 = i by omega]
theorem bfs_end {l : List Ed} {r n : Nat} {v : Int} {i : Nat} (hi : i ≤ n) (h : (bfsAt l r v n i).1.length ≤ i) : bfsF l r v n = bfsAt l r v n i := bfs_stay h n hi
theorem bfs_next {l : List Ed} {r n : Nat} {v : Int} {i : Nat} (h : i < (bfsAt l r v n i).1.length) : bfsAt l r v n (i + 1) = (lettersL r).foldl (stepB l (bfsAt l r v n i).1[i]) (bfsAt l r v n i) := by
  simp only [bfsAt]
  rw [List.getElem?_eq_getElem h]
end Go.Proofs.Ytpebiacdkfpnpaa
