/- Plain laws of roots: a word is its core conjugated, a root is no proper power, words commute exactly if they are powers of one word. Conditions: none. -/
import Derived.Test.YtbghnllflfcfhaaFreeA
namespace Go.Proofs.Ytbghnllflfcfhaa

theorem strip_false {c : List Int} {k : Nat} (h : c.length < 2 * k + 2) : strip c k = false := by
  simp only [strip, decide_eq_false (show ¬ 2 * k + 2 ≤ c.length by omega), Bool.false_and]
theorem strip_in {c : List Int} {k : Nat} (h : 2 * k + 2 ≤ c.length) : strip c k = inv (c.getD k 0) (c.getD (c.length - 1 - k) 0) := by
  simp only [strip, decide_eq_true h, Bool.true_and]
theorem coreGo_spec (c : List Int) : ∀ f k, (∀ i, i < k → strip c i = true) → (∀ i, i < coreGo c f k → strip c i = true) ∧ (c.length ≤ f + k → strip c (coreGo c f k) = false) := by
  intro f
  induction f with
  | zero => intro k h; exact ⟨h, fun h2 => strip_false (by simp only [coreGo]; omega)⟩
  | succ f ih =>
    intro k h
    cases hs : strip c k with
    | true =>
      rw [coreGo_yes hs]
      have := ih (k + 1) fun i hi => by
        by_cases e : i = k
        · rw [e]; exact hs
        · exact h i (by omega)
      exact ⟨this.1, fun h2 => this.2 (by omega)⟩
    | false => rw [coreGo_no hs]; exact ⟨h, fun _ => hs⟩
theorem coreN_spec (c : List Int) : (∀ i, i < coreN c → strip c i = true) ∧ strip c (coreN c) = false := by
  have := coreGo_spec c c.length 0 (fun i h => absurd h (Nat.not_lt_zero _))
  exact ⟨this.1, this.2 (by omega)⟩
theorem coreN_eq {c : List Int} {m : Nat} (h : ∀ i, i < m → strip c i = true) (h2 : strip c m = false) : coreN c = m := by
  obtain ⟨h3, h4⟩ := coreN_spec c
  rcases Nat.lt_trichotomy (coreN c) m with e | e | e
  · rw [h _ e] at h4; cases h4
  · exact e
  · rw [h3 _ e] at h2; cases h2
theorem core_parts (c : List Int) : c = coreP c ++ coreX c ++ invW (coreP c) := by
  have hn := coreN_le c
  obtain ⟨h1, h2⟩ := coreN_spec c
  have e1 : c.take (c.length - coreN c) = coreP c ++ coreX c := by
    conv => lhs; rw [← List.take_append_drop (coreN c) (c.take (c.length - coreN c))]
    rw [List.take_take, Nat.min_eq_left (by omega)]; rfl
  have e2 : c.drop (c.length - coreN c) = invW (coreP c) := by
    refine getD_ext (by rw [List.length_drop, invW_length, coreP_length]; omega) fun i hi => ?_
    rw [List.length_drop] at hi
    have hs := h1 (coreN c - 1 - i) (by omega)
    rw [strip_in (by omega)] at hs
    have := inv_is_neg hs
    rw [show c.length - 1 - (coreN c - 1 - i) = c.length - coreN c + i by omega] at this
    have l1 : coreN c - 1 - i < c.length := by omega
    have l2 : c.length - coreN c + i < c.length := by omega
    simp only [List.getD_eq_getElem?_getD, List.getElem?_drop, List.getElem?_eq_getElem l2, List.getElem?_eq_getElem l1, Option.getD_some] at this ⊢
    unfold invW
    have l3 : i < ((coreP c).map neg).length := by rw [List.length_map, coreP_length]; omega
    rw [List.getElem?_reverse l3]
    have lt : (c.take (coreN c)).length = coreN c := by rw [List.length_take]; omega
    simp only [List.length_map, List.getElem?_map, coreP]
    rw [lt, List.getElem?_take_of_lt (by omega), List.getElem?_eq_getElem l1]
    simp only [Option.map_some, Option.getD_some]
    exact this
  conv => lhs; rw [← List.take_append_drop (c.length - coreN c) c]
  rw [e1, e2]
theorem inv_self (x : Int) : inv x x = false := by simp only [inv, decide_eq_false_iff_not]; omega
theorem strip_seam {u : List Int} : strip u 0 = false ↔ Seam u u := by
  rcases u with _ | ⟨x, t⟩
  · simp [Seam, strip]
  · rcases List.eq_nil_or_concat t with rfl | ⟨o, y, rfl⟩
    · rw [strip_false (by simp)]
      simp only [Seam, List.getLast?_singleton, List.head?_cons, Option.some.injEq, true_iff]
      rintro _ _ rfl rfl; exact inv_self _
    · rw [List.concat_eq_append, strip_in (by simp)]
      have e1 : (x :: (o ++ [y])).getD ((x :: (o ++ [y])).length - 1 - 0) 0 = y := by simp [List.getD_eq_getElem?_getD]
      have e2 : (x :: (o ++ [y])).getD 0 0 = x := rfl
      have e3 : (x :: (o ++ [y])).getLast? = some y := by rw [show x :: (o ++ [y]) = (x :: o) ++ [y] from rfl, List.getLast?_append]; rfl
      rw [e1, e2]
      simp only [Seam, e3, List.head?_cons, Option.some.injEq]
      constructor
      · intro h a b ha hb
        subst ha; subst hb
        rw [Bool.eq_false_iff] at h ⊢
        exact fun h2 => h (inv_symm h2)
      · intro h
        have := h _ _ rfl rfl
        rw [Bool.eq_false_iff] at this ⊢
        exact fun h2 => this (inv_symm h2)
theorem coreX_seam (c : List Int) : Seam (coreX c) (coreX c) := by
  rw [← strip_seam]
  have hn := coreN_le c
  have h2 := (coreN_spec c).2
  have hl := coreX_length c
  rcases Nat.lt_or_ge (coreX c).length 2 with h | h
  · exact strip_false (by omega)
  · rw [strip_in (by omega)]
    rw [strip_in (by omega)] at h2
    have g : ∀ i, i < (coreX c).length → (coreX c).getD i 0 = c.getD (coreN c + i) 0 := fun i hi => by
      simp only [coreX, List.getD_eq_getElem?_getD, List.getElem?_drop]
      rw [List.getElem?_take_of_lt (by omega)]
    rw [g 0 (by omega), g _ (by omega), hl]
    rw [show coreN c + (c.length - 2 * coreN c - 1 - 0) = c.length - 1 - coreN c by omega, Nat.add_zero]
    exact h2
/-- A word that is put together so has these parts. -/
theorem core_of {P u : List Int} (hP : Good P) (hu : Seam u u) : coreN (P ++ u ++ invW P) = P.length ∧ coreP (P ++ u ++ invW P) = P ∧ coreX (P ++ u ++ invW P) = u := by
  have hl : (P ++ u ++ invW P).length = P.length + u.length + P.length := by rw [List.length_append, List.length_append, invW_length]
  have hN : coreN (P ++ u ++ invW P) = P.length := by
    refine coreN_eq (fun i hi => ?_) ?_
    · rw [strip_in (by omega), hl]
      have e1 : (P ++ u ++ invW P).getD i 0 = P[i] := by
        simp only [List.getD_eq_getElem?_getD, List.append_assoc, List.getElem?_append_left hi, List.getElem?_eq_getElem hi, Option.getD_some]
      have e2 : (P ++ u ++ invW P).getD (P.length + u.length + P.length - 1 - i) 0 = neg P[i] := by
        rw [List.getD_eq_getElem?_getD, List.getElem?_append_right (by rw [List.length_append]; omega)]
        unfold invW
        rw [List.length_append, List.getElem?_reverse (by rw [List.length_map]; omega), List.length_map, List.getElem?_map]
        rw [show P.length - 1 - (P.length + u.length + P.length - 1 - i - (P.length + u.length)) = i by omega, List.getElem?_eq_getElem hi]
        rfl
      rw [e1, e2]
      exact inv_neg (hP _ (List.getElem_mem hi))
    · rcases Nat.lt_or_ge u.length 2 with h | h
      · exact strip_false (by omega)
      · have h0 := strip_seam.2 hu
        rw [strip_in (by omega)] at h0
        rw [strip_in (by omega), hl]
        have g : ∀ i, i < u.length → (P ++ u ++ invW P).getD (P.length + i) 0 = u.getD i 0 := fun i hi => by
          rw [List.getD_eq_getElem?_getD, List.append_assoc, List.getElem?_append_right (by omega), List.getElem?_append_left (by omega), Nat.add_sub_cancel_left, List.getD_eq_getElem?_getD]
        have g0 := g 0 (by omega)
        rw [Nat.add_zero] at g0
        rw [g0, show P.length + u.length + P.length - 1 - P.length = P.length + (u.length - 1) by omega, g _ (by omega)]
        exact h0
  refine ⟨hN, ?_, ?_⟩
  · unfold coreP; rw [hN, List.append_assoc, List.take_left' rfl]
  · unfold coreX
    rw [hN, hl, show P.length + u.length + P.length - P.length = (P ++ u).length by rw [List.length_append]; omega, List.take_left' rfl, List.drop_left' rfl]
theorem pow_last {u : List Int} {k : Nat} (hk : 1 ≤ k) : (powL u k).getLast? = u.getLast? ∧ (powL u k).head? = u.head? := by
  obtain ⟨j, rfl⟩ : ∃ j, k = j + 1 := ⟨k - 1, by omega⟩
  rcases List.eq_nil_or_concat u with rfl | ⟨o, y, rfl⟩
  · have : powL [] (j + 1) = [] := List.length_eq_zero_iff.1 (by rw [powL_length]; simp)
    rw [this]; exact ⟨rfl, rfl⟩
  · constructor
    · rw [powL_snoc, List.getLast?_append, List.concat_eq_append, List.getLast?_append]; simp
    · rw [powL_succ, List.head?_append]
      cases o <;> simp
theorem seam_pow_l {u b : List Int} {k : Nat} (hk : 1 ≤ k) : Seam (powL u k) b ↔ Seam u b := by unfold Seam; rw [(pow_last hk).1]
theorem seam_pow_r {u b : List Int} {k : Nat} (hk : 1 ≤ k) : Seam b (powL u k) ↔ Seam b u := by unfold Seam; rw [(pow_last hk).2]
theorem pow_reduced {u : List Int} (hr : Reduced u) (hs : Seam u u) : ∀ k, Reduced (powL u k) := by
  intro k
  induction k with
  | zero => trivial
  | succ k ih =>
    rw [powL_succ, reduced_app]
    refine ⟨hr, ih, ?_⟩
    cases k with
    | zero => intro x y _ h; simp [powL_zero] at h
    | succ k => exact (seam_pow_r (by omega)).2 hs
theorem reduced_of_pow {u : List Int} {k : Nat} (hk : 1 ≤ k) (h : Reduced (powL u k)) : Reduced u := by
  obtain ⟨j, rfl⟩ : ∃ j, k = j + 1 := ⟨k - 1, by omega⟩
  rw [powL_succ, reduced_app] at h; exact h.1
/-- The seams of a conjugated power do not ask how high the power is. -/
theorem conj_reduced {P Q u : List Int} {j k : Nat} (hu : u ≠ []) (hs : Seam u u) (hj : 1 ≤ j) (hk : 1 ≤ k) (h : Reduced (P ++ powL u k ++ Q)) : Reduced (P ++ powL u j ++ Q) := by
  rw [reduced_app, reduced_app] at h ⊢
  obtain ⟨⟨h1, h2, h3⟩, h4, h5⟩ := h
  have hlast : ∀ m, 1 ≤ m → (P ++ powL u m).getLast? = u.getLast? := fun m hm => by
    rw [List.getLast?_append, (pow_last hm).1]
    obtain ⟨o, y, rfl⟩ : ∃ o y, u = o ++ [y] := by
      rcases List.eq_nil_or_concat u with e | ⟨o, y, e⟩
      · exact absurd e hu
      · exact ⟨o, y, by rw [e, List.concat_eq_append]⟩
    simp
  refine ⟨⟨h1, pow_reduced (reduced_of_pow hk h2) hs j, (seam_pow_r hj).2 ((seam_pow_r hk).1 h3)⟩, h4, ?_⟩
  unfold Seam at h5 ⊢
  rw [hlast k hk] at h5
  rw [hlast j hj]; exact h5
theorem powL_ne {u : List Int} {k : Nat} (hu : u ≠ []) (hk : 1 ≤ k) : powL u k ≠ [] := fun e => by
  have := congrArg List.length e
  rw [powL_length, List.length_nil] at this
  rcases Nat.mul_eq_zero.1 this with h | h
  · omega
  · exact hu (List.length_eq_zero_iff.1 h)
theorem Prim.ne {u : List Int} (h : Prim u) : u ≠ [] := fun e => by have := h.pos; rw [e] at this; simp at this
/-- The root of a conjugated power of a primitive word. -/
theorem root_of {P u : List Int} {k : Nat} (hP : Good P) (hp : Prim u) (hs : Seam u u) (hk : 1 ≤ k) (h : Reduced (P ++ powL u k ++ invW P)) :
    rootW (P ++ powL u k ++ invW P) = P ++ u ++ invW P ∧ rootN (P ++ powL u k ++ invW P) = k ∧ Reduced (P ++ u ++ invW P) := by
  have hr := red_of_reduced h
  have hc := core_of (P := P) (u := powL u k) hP ((seam_pow_l hk).2 ((seam_pow_r hk).2 hs))
  have hd := rootD_pow hp hk
  have h1 : Reduced (P ++ u ++ invW P) := by
    have := conj_reduced (j := 1) hp.ne hs (Nat.le_refl _) hk h
    rwa [powL_one] at this
  refine ⟨?_, ?_, h1⟩
  · rw [rootW_yes (d := u.length) (by rw [hr, hc.2.2, hd]) hp.pos, hr, hc.2.1, hc.2.2]
    obtain ⟨j, rfl⟩ : ∃ j, k = j + 1 := ⟨k - 1, by omega⟩
    rw [powL_succ, List.take_left' rfl]
    exact red_of_reduced h1
  · unfold rootN
    rw [hr, hc.2.2, hd, powL_length, Nat.mul_div_cancel _ hp.pos]
theorem core_ne {w : List Int} (hg : Good w) (hr : Reduced w) (hn : w ≠ []) : coreX w ≠ [] := fun e => by
  have h := core_parts w
  rw [e, List.append_nil] at h
  rcases List.eq_nil_or_concat (coreP w) with hp | ⟨o, y, hp⟩
  · rw [hp] at h; exact hn h
  · rw [List.concat_eq_append] at hp
    rw [h] at hr hg
    have := (reduced_app.1 hr).2.2 y (neg y) (by rw [hp, List.getLast?_append]; rfl) (by rw [hp, invW_append, invW_one]; rfl)
    rw [inv_neg (hg y (List.mem_append_left _ (by rw [hp]; simp)))] at this
    cases this
/-- Every word has a root. -/
theorem root_parts {w : List Int} (hg : Good w) (hr : Reduced w) (hn : w ≠ []) : ∃ P u k, Good P ∧ Good u ∧ Prim u ∧ Seam u u ∧ 1 ≤ k ∧ w = P ++ powL u k ++ invW P := by
  have hc := core_parts w
  have hne := core_ne hg hr hn
  obtain ⟨h1, h2, h3, h4⟩ := rootD_prim (List.length_pos_iff.2 hne)
  have hs := coreX_seam w
  rw [h2] at hs
  refine ⟨coreP w, _, _, ?_, ?_, h1, (seam_pow_l h4).1 ((seam_pow_r h4).1 hs), h4, ?_⟩
  · rw [hc] at hg; exact hg.left.left
  · rw [hc] at hg
    exact fun x hx => hg.left.right x (List.mem_of_mem_take hx)
  · rw [← h2]; exact hc
/-- Words that cancel in the middle. -/
theorem mid {g : List Int} (h : Good g) (a b : List Int) : red (a ++ (g ++ (invW g ++ b))) = red (a ++ b) := by
  rw [← red_append_red a, ← List.append_assoc g, ← red_red_append (g ++ invW g) b, cancel h, List.nil_append, red_append_red]
theorem mid' {g : List Int} (h : Good g) (a b : List Int) : red (a ++ (invW g ++ (g ++ b))) = red (a ++ b) := by
  rw [← red_append_red a, ← List.append_assoc (invW g), ← red_red_append (invW g ++ g) b, cancel' h, List.nil_append, red_append_red]
theorem same_mid {a b m m' : List Int} (h : red m = red m') : red (a ++ (m ++ b)) = red (a ++ (m' ++ b)) := same_app rfl (same_app h rfl)
theorem pow_conj {P u : List Int} (hP : Good P) : ∀ k, 1 ≤ k → red (powL (P ++ u ++ invW P) k) = red (P ++ powL u k ++ invW P) := by
  intro k hk
  induction k with
  | zero => omega
  | succ k ih =>
    rcases Nat.eq_zero_or_pos k with rfl | h0
    · rw [powL_one, powL_one]
    · rw [powL_succ, same_app rfl (ih h0), powL_succ]
      have := mid' hP (P ++ u) (powL u k ++ invW P)
      simp only [List.append_assoc] at this ⊢
      exact this
theorem comm_inv {c z : List Int} (hz : Good z) (h : red (c ++ z) = red (z ++ c)) : red (c ++ invW z) = red (invW z ++ c) := by
  have e1 := mid' hz [] (c ++ invW z)
  have e2 : red (invW z ++ (z ++ (c ++ invW z))) = red (invW z ++ (c ++ (z ++ invW z))) := by
    rw [← List.append_assoc z, ← List.append_assoc c]
    exact same_mid h.symm
  have e3 := mid hz (invW z ++ c) []
  simp only [List.nil_append, List.append_nil, List.append_assoc] at e1 e2 e3
  rw [← e1, e2, e3]
theorem reduced_of_len {l : List Int} (h : (red l).length = l.length) : Reduced l := by
  induction l using snoc_ind with
  | h0 => trivial
  | h1 l x ih =>
    rw [red_snoc, List.length_append, List.length_singleton] at h
    have h1 := push_length (red l) x
    have h2 := red_length l
    have h3 := red_of_reduced (ih (by omega))
    rw [h3] at h
    have h4 := ih (by rw [h3])
    rcases List.eq_nil_or_concat l with rfl | ⟨o, y, rfl⟩
    · trivial
    · rw [List.concat_eq_append] at h h4 ⊢
      cases hi : inv y x with
      | true => rw [push_inv hi] at h; simp at h; omega
      | false => exact reduced_snoc2.2 ⟨h4, hi⟩
/-- Without cancellation words that commute do so letter by letter. -/
theorem comm_letters {c z : List Int} (hc : Reduced c) (hz : Reduced z) (hs : Seam c z) (h : red (c ++ z) = red (z ++ c)) : c ++ z = z ++ c := by
  have h1 : Reduced (c ++ z) := reduced_app.2 ⟨hc, hz, hs⟩
  rw [red_of_reduced h1] at h
  have h2 : Reduced (z ++ c) := reduced_of_len (by rw [← h]; simp [Nat.add_comm])
  rw [h, red_of_reduced h2]
theorem seam_comm {c z : List Int} (hc : Reduced c) (hz : Reduced z) (hs : Seam z c) (h : red (c ++ z) = red (z ++ c)) : Seam c z := by
  have h1 : Reduced (z ++ c) := reduced_app.2 ⟨hz, hc, hs⟩
  rw [red_of_reduced h1] at h
  have h2 : Reduced (c ++ z) := reduced_of_len (by rw [h]; simp [Nat.add_comm])
  exact (reduced_app.1 h2).2.2
theorem not_seam {a b : List Int} (h : ¬ Seam a b) : ∃ x y, a.getLast? = some x ∧ b.head? = some y ∧ inv x y = true := by
  apply Classical.byContradiction
  intro hn
  refine h fun x y hx hy => ?_
  cases hi : inv x y with
  | false => rfl
  | true => exact absurd ⟨x, y, hx, hy, hi⟩ hn
/-- What commutes with a power of a primitive word that is cyclically reduced. -/
theorem comm_cyc {u z : List Int} {m : Nat} (hgz : Good z) (hp : Prim u) (hs : Seam u u) (hm : 1 ≤ m) (hu : Reduced u) (hz : Reduced z) (h : red (powL u m ++ z) = red (z ++ powL u m)) :
    (∃ j, z = powL u j) ∨ ∃ j, invW z = powL u j := by
  have hc := pow_reduced hu hs m
  by_cases h1 : Seam (powL u m) z
  · exact .inl (comm_word hp hm _ z (Nat.le_refl _) (comm_letters hc hz h1 h))
  · right
    have hzi : Reduced (invW z) := hz.inv hgz.small
    have h2 : Seam (powL u m) (invW z) := by
      apply Classical.byContradiction
      intro h3
      obtain ⟨a, b, ha, hb, hab⟩ := not_seam h3
      obtain ⟨a', f, ha', hf, haf⟩ := not_seam fun h4 => h1 (seam_comm hc hz h4 h)
      have hcc : Seam (powL u m) (powL u m) := (seam_pow_l hm).2 ((seam_pow_r hm).2 hs)
      have hb' : b = neg a' := by
        unfold invW at hb
        rw [List.head?_reverse, List.getLast?_map, ha'] at hb
        simpa using hb.symm
      have hea : a = a' := by
        have h5 := inv_is_neg hab
        rw [hb'] at h5
        have g1 := hgz a' (List.mem_of_getLast? ha')
        have h6 := inv_symm hab
        rw [hb'] at h6
        have h7 := inv_is_neg h6
        rw [h7]
        rw [neg_small g1.2, neg_small (by omega)]; omega
      rw [← hea] at haf
      rw [hcc a f ha hf] at haf
      cases haf
    exact comm_word hp hm _ _ (Nat.le_refl _) (comm_letters hc hzi h2 (comm_inv hgz h))
theorem powL_inv (u : List Int) : ∀ k, invW (powL u k) = powL (invW u) k := by
  intro k
  induction k with
  | zero => rfl
  | succ k ih => rw [powL_succ, invW_append, ih, ← powL_snoc]
theorem Good.pow {u : List Int} (h : Good u) : ∀ k, Good (powL u k) := by
  intro k
  induction k with
  | zero => intro x hx; simp [powL_zero] at hx
  | succ k ih => rw [powL_succ]; exact h.app ih
theorem pow_ne_pos {u z : List Int} {j : Nat} (h : z = powL u j) (hn : z ≠ []) : 1 ≤ j := by
  rcases Nat.eq_zero_or_pos j with rfl | h0
  · exact absurd h hn
  · exact h0
/-- Two words commute exactly if they are powers of one word. -/
theorem comm_root {x y : List Int} (gx : Good x) (gy : Good y) (rx : Reduced x) (ry : Reduced y) (nx : x ≠ []) (ny : y ≠ []) :
    red (x ++ y) = red (y ++ x) ↔ (rootW x = rootW y ∨ rootW x = invW (rootW y)) := by
  obtain ⟨P, u, m, gP, gu, hp, hs, hm, hx⟩ := root_parts gx rx nx
  constructor
  · intro h
    have rx' := rx
    rw [hx] at rx'
    have hrx := root_of gP hp hs hm rx'
    have hru : Reduced u := reduced_of_pow hm (reduced_app.1 (reduced_app.1 rx').1).2.1
    have hz : red (powL u m ++ red (invW P ++ (y ++ P))) = red (red (invW P ++ (y ++ P)) ++ powL u m) := by
      rw [red_append_red, red_red_append]
      have a1 : red (powL u m ++ (invW P ++ (y ++ P))) = red (invW P ++ (x ++ (y ++ P))) := by
        rw [hx]
        have := mid' gP [] (powL u m ++ (invW P ++ (y ++ P)))
        simp only [List.nil_append, List.append_assoc] at this ⊢
        exact this.symm
      have a2 : red (invW P ++ (x ++ (y ++ P))) = red (invW P ++ (y ++ (x ++ P))) := by
        rw [← List.append_assoc x, ← List.append_assoc y]; exact same_mid h
      have a3 : red (invW P ++ (y ++ (x ++ P))) = red (invW P ++ (y ++ P) ++ powL u m) := by
        rw [hx]
        have := mid' gP (invW P ++ (y ++ (P ++ powL u m))) []
        simp only [List.append_nil, List.append_assoc] at this ⊢
        exact this
      rw [a1, a2, a3]
    have hy : red (P ++ (red (invW P ++ (y ++ P)) ++ invW P)) = y := by
      have b1 : red (P ++ (red (invW P ++ (y ++ P)) ++ invW P)) = red (P ++ ((invW P ++ (y ++ P)) ++ invW P)) := same_mid (red_red _)
      have b2 := mid gP [] (y ++ (P ++ invW P))
      have b3 := mid gP y []
      simp only [List.nil_append, List.append_nil, List.append_assoc] at b1 b2 b3
      rw [b1, b2, b3, red_of_reduced ry]
    obtain ⟨z, hzd⟩ : ∃ z, z = red (invW P ++ (y ++ P)) := ⟨_, rfl⟩
    have gz : Good z := by rw [hzd]; exact ((gP.invW).app (gy.app gP)).red
    have rz : Reduced z := by rw [hzd]; exact red_reduced _
    rw [← hzd] at hz hy
    have zn : z ≠ [] := fun e => by
      rw [e, List.nil_append, cancel gP] at hy; exact ny hy.symm
    rcases comm_cyc gz hp hs hm hru rz hz with ⟨j, hj⟩ | ⟨j, hj⟩
    · have h1 := pow_ne_pos hj zn
      have h2 := conj_reduced (j := j) hp.ne hs h1 hm rx'
      have hy2 : y = P ++ powL u j ++ invW P := by
        rw [← red_of_reduced h2, ← hy, hj, List.append_assoc]
      left
      have := (root_of gP hp hs h1 h2).1
      rw [← hy2] at this
      rw [this, hx]; exact hrx.1
    · have zn2 : invW z ≠ [] := fun e => zn (List.length_eq_zero_iff.1 (by rw [← invW_length, e]; rfl))
      have h1 := pow_ne_pos hj zn2
      have h2 := conj_reduced (j := j) hp.ne hs h1 hm rx'
      have hz2 : z = powL (invW u) j := by rw [← powL_inv, ← hj, invW_invW gz.small]
      have h3 : invW (P ++ powL u j ++ invW P) = P ++ powL (invW u) j ++ invW P := by
        rw [invW_append, invW_append, invW_invW gP.small, powL_inv, List.append_assoc]
      have gall : Good (P ++ powL u j ++ invW P) := (gP.app (gu.pow j)).app gP.invW
      have h4 : Reduced (P ++ powL (invW u) j ++ invW P) := by rw [← h3]; exact h2.inv gall.small
      have hy2 : y = P ++ powL (invW u) j ++ invW P := by
        rw [← red_of_reduced h4, ← hy, hz2, List.append_assoc]
      right
      have := (root_of gP (hp.inv gu.small) (hs.inv gu.small gu.small) h1 h4).1
      rw [← hy2] at this
      rw [this, invW_append, invW_append, invW_invW gP.small, invW_invW gu.small, ← List.append_assoc, hx]
      exact hrx.1
  · intro h
    obtain ⟨Q, v, n, gQ, gv, hq, hs', hn, hy⟩ := root_parts gy ry ny
    have rx' := rx
    have ry' := ry
    rw [hx] at rx'
    rw [hy] at ry'
    have r1 := (root_of gP hp hs hm rx').1
    have r2 := (root_of gQ hq hs' hn ry').1
    rw [← hx] at r1
    rw [← hy] at r2
    have p1 : red x = red (powL (rootW x) m) := by rw [r1, pow_conj gP m hm, ← hx]
    have p2 : red y = red (powL (rootW y) n) := by rw [r2, pow_conj gQ n hn, ← hy]
    have gy2 : Good (rootW y) := by rw [r2]; exact (gQ.app gv).app gQ.invW
    rcases h with h | h
    · rw [same_app p1 p2, same_app p2 p1, h, ← powL_add, ← powL_add, Nat.add_comm]
    · rw [same_app p1 p2, same_app p2 p1, h, ← powL_inv]
      refine (comm_inv (c := powL (rootW y) n) (gy2.pow m) ?_).symm
      rw [← powL_add, ← powL_add, Nat.add_comm]
/-- The root is no proper power, and its power is the word. -/
theorem root_law {w : List Int} (hg : Good w) (hr : Reduced w) (hn : w ≠ []) : red (powL (rootW w) (rootN w)) = w ∧ rootN (rootW w) = 1 ∧ 1 ≤ rootN w := by
  obtain ⟨P, u, k, gP, gu, hp, hs, hk, hw⟩ := root_parts hg hr hn
  have hr' := hr
  rw [hw] at hr'
  obtain ⟨r1, r2, r3⟩ := root_of gP hp hs hk hr'
  have r4 := root_of (k := 1) gP hp hs (Nat.le_refl _) (by rw [powL_one]; exact r3)
  rw [powL_one] at r4
  rw [← hw] at r1 r2
  refine ⟨?_, ?_, by rw [r2]; exact hk⟩
  · rw [r1, r2, pow_conj gP k hk, ← hw, red_of_reduced hr]
  · rw [r1]; exact r4.2.1
theorem root_nil : rootW [] = [] ∧ rootN [] = 0 := ⟨rfl, rfl⟩
end Go.Proofs.Ytbghnllflfcfhaa
