/- Plain laws of the order of words, of least turns and of conjugate words. Conditions: none. -/
import Derived.Test.YtbghnllflfcfhaaFreeB
namespace Go.Proofs.Ytbghnllflfcfhaa

/-! ### The order of words -/
/-- The place of a letter. -/
def keyL (x : Int) : Int := 2 * x.natAbs - (if 0 < x then 1 else 0)
theorem keyL_inj {a b : Int} (h : keyL a = keyL b) : a = b := by
  unfold keyL at h; split at h <;> split at h <;> omega
theorem cmpLetter_key {a b : Int} (ha : -100 ≤ a ∧ a ≤ 100) (hb : -100 ≤ b ∧ b ≤ 100) : cmpLetter a b = cmpI (keyL a) (keyL b) := by
  unfold cmpLetter cmpI keyL
  repeat' split
  all_goals omega
theorem cmpI_anti (a b : Int) : cmpI a b = -cmpI b a := by unfold cmpI; repeat' split
                                                           all_goals omega
theorem cmpLetter_anti {a b : Int} (ha : -100 ≤ a ∧ a ≤ 100) (hb : -100 ≤ b ∧ b ≤ 100) : cmpLetter a b = -cmpLetter b a := by
  rw [cmpLetter_key ha hb, cmpLetter_key hb ha, cmpI_anti]
theorem cmpLetter_zero {a b : Int} (ha : -100 ≤ a ∧ a ≤ 100) (hb : -100 ≤ b ∧ b ≤ 100) (h : cmpLetter a b = 0) : a = b := by
  rw [cmpLetter_key ha hb] at h
  refine keyL_inj ?_
  unfold cmpI at h; split at h
  · omega
  · split at h <;> omega
theorem cmpL_cons (a b : Int) (l m : List Int) : cmpL (a :: l) (b :: m) = match decide (cmpLetter a b = 0) with
    | true => cmpL l m
    | false => cmpLetter a b := rfl
theorem cmpL_same {a b : Int} (l m : List Int) (h : cmpLetter a b = 0) : cmpL (a :: l) (b :: m) = cmpL l m := by rw [cmpL_cons, decide_eq_true h]
theorem cmpL_diff {a b : Int} (l m : List Int) (h : cmpLetter a b ≠ 0) : cmpL (a :: l) (b :: m) = cmpLetter a b := by rw [cmpL_cons, decide_eq_false h]
theorem cmpL_anti : ∀ {l m : List Int}, l.length = m.length → Small l → Small m → cmpL l m = -cmpL m l
  | [], [], _, _, _ => rfl
  | [], _ :: _, h, _, _ => by simp at h
  | _ :: _, [], h, _, _ => by simp at h
  | a :: l, b :: m, h, hl, hm => by
    have ha := hl a (List.mem_cons_self ..)
    have hb := hm b (List.mem_cons_self ..)
    have hi := cmpL_anti (l := l) (m := m) (by simpa using h) (fun x hx => hl x (List.mem_cons_of_mem _ hx)) (fun x hx => hm x (List.mem_cons_of_mem _ hx))
    have hc := cmpLetter_anti ha hb
    by_cases h0 : cmpLetter a b = 0
    · rw [cmpL_same _ _ h0, cmpL_same _ _ (by omega), hi]
    · rw [cmpL_diff _ _ h0, cmpL_diff _ _ (by omega), hc]
theorem cmpW_anti {l m : List Int} (hl : Small l) (hm : Small m) : cmpW l m = -cmpW m l := by
  rcases Nat.lt_trichotomy l.length m.length with h | h | h
  · rw [cmpW_lt h, cmpW_gt h]
  · rw [cmpW_eq h, cmpW_eq h.symm, cmpL_anti h hl hm]
  · rw [cmpW_gt h, cmpW_lt h]; rfl
theorem cmpL_zero : ∀ {l m : List Int}, l.length = m.length → Small l → Small m → cmpL l m = 0 → l = m
  | [], [], _, _, _, _ => rfl
  | [], _ :: _, h, _, _, _ => by simp at h
  | _ :: _, [], h, _, _, _ => by simp at h
  | a :: l, b :: m, h, hl, hm, hz => by
    have ha := hl a (List.mem_cons_self ..)
    have hb := hm b (List.mem_cons_self ..)
    by_cases h0 : cmpLetter a b = 0
    · rw [cmpL_same _ _ h0] at hz
      rw [cmpLetter_zero ha hb h0, cmpL_zero (by simpa using h) (fun x hx => hl x (List.mem_cons_of_mem _ hx)) (fun x hx => hm x (List.mem_cons_of_mem _ hx)) hz]
    · rw [cmpL_diff _ _ h0] at hz; exact absurd hz h0
theorem cmpI_trans {a b c : Int} (h1 : cmpI a b ≤ 0) (h2 : cmpI b c ≤ 0) : cmpI a c ≤ 0 ∧ (cmpI a c = 0 → cmpI a b = 0 ∧ cmpI b c = 0) := by
  unfold cmpI at *
  repeat' split at h1
  all_goals repeat' split at h2
  all_goals repeat' split
  all_goals omega
theorem cmpL_trans : ∀ {l m n : List Int}, l.length = m.length → m.length = n.length → Small l → Small m → Small n → cmpL l m ≤ 0 → cmpL m n ≤ 0 → cmpL l n ≤ 0
  | [], [], [], _, _, _, _, _, _, _ => by simp [cmpL]
  | a :: l, b :: m, c :: n, h, k, hl, hm, hn, h1, h2 => by
    have ha := hl a (List.mem_cons_self ..)
    have hb := hm b (List.mem_cons_self ..)
    have hc := hn c (List.mem_cons_self ..)
    have hi := cmpL_trans (l := l) (m := m) (n := n) (by simpa using h) (by simpa using k) (fun x hx => hl x (List.mem_cons_of_mem _ hx)) (fun x hx => hm x (List.mem_cons_of_mem _ hx)) (fun x hx => hn x (List.mem_cons_of_mem _ hx))
    have l1 : cmpLetter a b ≤ 0 := by
      by_cases e : cmpLetter a b = 0
      · omega
      · rwa [cmpL_diff _ _ e] at h1
    have l2 : cmpLetter b c ≤ 0 := by
      by_cases e : cmpLetter b c = 0
      · omega
      · rwa [cmpL_diff _ _ e] at h2
    have l3 : cmpLetter a c ≤ 0 ∧ (cmpLetter a c = 0 → cmpLetter a b = 0 ∧ cmpLetter b c = 0) := by
      rw [cmpLetter_key ha hb] at l1 ⊢
      rw [cmpLetter_key hb hc] at l2 ⊢
      rw [cmpLetter_key ha hc]
      exact cmpI_trans l1 l2
    by_cases e : cmpLetter a c = 0
    · obtain ⟨e1, e2⟩ := l3.2 e
      rw [cmpL_same _ _ e1] at h1
      rw [cmpL_same _ _ e2] at h2
      rw [cmpL_same _ _ e]
      exact hi h1 h2
    · rw [cmpL_diff _ _ e]; exact l3.1
  | [], _ :: _, _, h, _, _, _, _, _, _ => by simp at h
  | _ :: _, [], _, h, _, _, _, _, _, _ => by simp at h
  | [], [], _ :: _, _, h, _, _, _, _, _ => by simp at h
  | _ :: _, _ :: _, [], _, h, _, _, _, _, _ => by simp at h
theorem Small.rot {l : List Int} (h : Small l) (k : Nat) : Small (rotL l k) := fun x hx => by
  unfold rotL at hx
  rcases List.mem_append.1 hx with hx | hx
  · exact h x (List.mem_of_mem_drop hx)
  · exact h x (List.mem_of_mem_take hx)
/-- The least one of the turns is not above any of them. -/
theorem lrAt_min {l : List Int} (h : Small l) : ∀ n k, k ≤ n → cmpL (rotL l (lrAt l n)) (rotL l k) ≤ 0 := by
  have hL : ∀ i j, (rotL l i).length = (rotL l j).length := fun i j => by rw [rotL_length, rotL_length]
  have hself : ∀ i, cmpL (rotL l i) (rotL l i) ≤ 0 := fun i => by
    have := cmpL_anti (hL i i) (h.rot i) (h.rot i); omega
  intro n
  induction n with
  | zero => intro k hk; obtain rfl : k = 0 := by omega
            exact hself _
  | succ n ih =>
    intro k hk
    by_cases ht : cmpW (rotL l (n + 1)) (rotL l (lrAt l n)) < 0
    · have e : lrAt l (n + 1) = n + 1 := by simp only [lrAt, decide_eq_true ht]
      rw [e]
      rw [cmpW_eq (hL _ _)] at ht
      by_cases hkn : k = n + 1
      · rw [hkn]; exact hself _
      · exact cmpL_trans (hL _ _) (hL _ _) (h.rot _) (h.rot _) (h.rot _) (by omega) (ih k (by omega))
    · have e : lrAt l (n + 1) = lrAt l n := by simp only [lrAt, decide_eq_false ht]
      rw [e]
      rw [cmpW_eq (hL _ _)] at ht
      by_cases hkn : k = n + 1
      · rw [hkn]
        have := cmpL_anti (hL (n + 1) (lrAt l n)) (h.rot _) (h.rot _)
        omega
      · exact ih k (by omega)
theorem rot_rot {l : List Int} {i j : Nat} (hi : i < l.length) (hj : j < l.length) : rotL (rotL l i) j = rotL l ((i + j) % l.length) := by
  have hm : (i + j) % l.length < l.length := Nat.mod_lt _ (by omega)
  refine getD_ext (by simp only [rotL_length]) fun k hk => ?_
  rw [rotL_length, rotL_length] at hk
  rw [rotL_cyc (by rw [rotL_length]; exact hj) (by rw [rotL_length]; exact hk), rotL_cyc hm hk]
  have : cyc (rotL l i) (k + j) = cyc l (k + j + i) := by
    rw [← cyc_mod, rotL_length, cyc_lt (by rw [rotL_length]; exact Nat.mod_lt _ (by omega)), rotL_cyc hi (Nat.mod_lt _ (by omega))]
    unfold cyc; rw [Nat.mod_add_mod]
  rw [this]
  unfold cyc
  rw [Nat.add_mod_mod, show k + j + i = k + (i + j) by omega]
theorem rot_back {l : List Int} {i : Nat} (hi : i < l.length) : rotL (rotL l i) ((l.length - i) % l.length) = l := by
  have hm : (l.length - i) % l.length < l.length := Nat.mod_lt _ (by omega)
  rw [rot_rot hi hm, Nat.add_mod_mod, show i + (l.length - i) = l.length by omega, Nat.mod_self, rotL_zero]
/-- The least turn. -/
def lrL (l : List Int) : List Int := rotL l (lrAt l (l.length - 1))
theorem lr_rot {l m : List Int} {k : Nat} (h : Small l) (hk : k < l.length) (hm : m = rotL l k) : lrL m = lrL l := by
  have hml : m.length = l.length := by rw [hm, rotL_length]
  have hsm : Small m := by rw [hm]; exact h.rot k
  have hl1 := lrAt_le l (l.length - 1)
  have hl2 := lrAt_le m (m.length - 1)
  have hlen : (lrL m).length = (lrL l).length := by unfold lrL; rw [rotL_length, rotL_length, hml]
  have c1 : cmpL (lrL l) (lrL m) ≤ 0 := by
    have e : lrL m = rotL l ((k + lrAt m (m.length - 1)) % l.length) := by
      unfold lrL; conv => lhs; arg 1; rw [hm]
      exact rot_rot hk (by omega)
    rw [e]
    exact lrAt_min h _ _ (by have := Nat.mod_lt (k + lrAt m (m.length - 1)) (show 0 < l.length by omega); omega)
  have c2 : cmpL (lrL m) (lrL l) ≤ 0 := by
    have hb : l = rotL m ((l.length - k) % l.length) := by rw [hm]; exact (rot_back hk).symm
    have hlt := Nat.mod_lt (l.length - k) (show 0 < l.length by omega)
    have e : lrL l = rotL m (((l.length - k) % l.length + lrAt l (l.length - 1)) % m.length) := by
      unfold lrL
      conv => lhs; arg 1; rw [hb]
      exact rot_rot (by omega) (by omega)
    rw [e]
    exact lrAt_min hsm _ _ (by have := Nat.mod_lt ((l.length - k) % l.length + lrAt l (l.length - 1)) (show 0 < m.length by omega); omega)
  have c3 := cmpL_anti hlen (hsm.rot _ : Small (lrL m)) (h.rot _ : Small (lrL l))
  exact cmpL_zero hlen (hsm.rot _) (h.rot _) (by omega)
theorem rot_of_lr {l m : List Int} (h0 : 0 < l.length) (h : lrL l = lrL m) : ∃ k, k < l.length ∧ rotL l k = m := by
  have hl : l.length = m.length := by have := congrArg List.length h; unfold lrL at this; rwa [rotL_length, rotL_length] at this
  have hl1 := lrAt_le l (l.length - 1)
  have hl2 := lrAt_le m (m.length - 1)
  have hlt : (m.length - lrAt m (m.length - 1)) % m.length < m.length := Nat.mod_lt _ (by omega)
  have hb := rot_back (l := m) (i := lrAt m (m.length - 1)) (by omega)
  rw [show rotL m (lrAt m (m.length - 1)) = lrL m from rfl, ← h] at hb
  unfold lrL at hb
  rw [rot_rot (by omega) (by omega)] at hb
  exact ⟨_, Nat.mod_lt _ (by omega), hb⟩
/-! ### Conjugate words -/
theorem conjGo_spec (x y : List Int) : ∀ f k, (conjGo x y f k < f + k → eqL (rotL x (rotK (conjGo x y f k : Int) x.length)) y = true) ∧ ((∃ j, k ≤ j ∧ j < f + k ∧ eqL (rotL x (rotK (j : Int) x.length)) y = true) → conjGo x y f k < f + k) := by
  intro f
  induction f with
  | zero => intro k; exact ⟨fun h => by simp only [conjGo] at h; omega, fun ⟨j, h1, h2, _⟩ => by omega⟩
  | succ f ih =>
    intro k
    cases hc : eqL (rotL x (rotK (k : Int) x.length)) y with
    | true => rw [conjGo_yes hc]; exact ⟨fun _ => hc, fun _ => by omega⟩
    | false =>
      rw [conjGo_no hc]
      obtain ⟨h1, h2⟩ := ih (k + 1)
      refine ⟨fun h => h1 (by omega), fun ⟨j, h3, h4, h5⟩ => ?_⟩
      have hne : j ≠ k := fun e => by rw [e, hc] at h5; cases h5
      have := h2 ⟨j, by omega, by omega, h5⟩
      omega
theorem conjK_spec {x y : List Int} : (conjK x y < x.length → rotL x (conjK x y) = y) ∧ ((∃ j, j < x.length ∧ rotL x j = y) → conjK x y < x.length) := by
  have h9 := conjGo_spec x y x.length 0
  rw [show conjGo x y x.length 0 = conjK x y from rfl, Nat.add_zero] at h9
  obtain ⟨h1, h2⟩ := h9
  refine ⟨fun h => ?_, fun ⟨j, h3, h4⟩ => ?_⟩
  · have := h1 h
    rw [rotK_nat h] at this
    simpa [eqL] using this
  · have := h2 ⟨j, by omega, h3, by rw [rotK_nat h3, h4]; simp [eqL]⟩
    exact this
theorem cycF_lr (l : List Int) : cycF l = lrL (coreX (red l)) := rfl
theorem Small.core {l : List Int} (h : Small l) : Small (coreX l) := fun x hx => h x (List.mem_of_mem_take (List.mem_of_mem_drop hx))
/-- Conjugate words are those with one cyclic form. -/
theorem conj_form {a b : List Int} (ha : Small a) : conjOk a b = decide (cycF a = cycF b) := by
  have hs := ha.red.core
  rw [cycF_lr, cycF_lr]
  unfold conjOk conjAt
  obtain ⟨X, hX⟩ : ∃ X, X = coreX (red a) := ⟨_, rfl⟩
  obtain ⟨Y, hY⟩ : ∃ Y, Y = coreX (red b) := ⟨_, rfl⟩
  rw [← hX, ← hY]
  rw [← hX] at hs
  have e : (decide (X.length = Y.length) && (decide (X.length = 0) || decide (conjK X Y < X.length))) = true ↔ lrL X = lrL Y := by
    simp only [Bool.and_eq_true, Bool.or_eq_true, decide_eq_true_eq]
    rcases Nat.eq_zero_or_pos X.length with h0 | h0
    · have hx : X = [] := List.length_eq_zero_iff.1 h0
      subst hx
      constructor
      · rintro ⟨h1, _⟩
        have : Y = [] := List.length_eq_zero_iff.1 (by rw [← h1]; rfl)
        rw [this]
      · intro h
        have := congrArg List.length h
        unfold lrL at this
        rw [rotL_length, rotL_length] at this
        exact ⟨this, .inl rfl⟩
    · obtain ⟨k1, k2⟩ := conjK_spec (x := X) (y := Y)
      constructor
      · rintro ⟨h1, h2 | h2⟩
        · omega
        · exact (lr_rot hs h2 (k1 h2).symm).symm
      · intro h
        have hr := rot_of_lr h0 h
        have := congrArg List.length h
        unfold lrL at this
        rw [rotL_length, rotL_length] at this
        exact ⟨this, .inr (k2 hr)⟩
  rw [Bool.eq_iff_iff, e, decide_eq_true_eq]
/-- The word found conjugates. -/
theorem conj_law {a b : List Int} (ga : Good a) (gb : Good b) (h : conjOk a b = true) : red (invW (conjW a b) ++ red a ++ conjW a b) = red b := by
  have pa := core_parts (red a)
  have pb := core_parts (red b)
  have ra := red_reduced a
  have rb := red_reduced b
  have gra := ga.red
  have grb := gb.red
  rcases Nat.eq_zero_or_pos (coreX (red a)).length with h0 | h0
  · have hne : ∀ w : List Int, Good w → Reduced w → coreX w = [] → w = [] := fun w g r e => Classical.byContradiction fun hn => core_ne g r hn e
    have hl : (coreX (red a)).length = (coreX (red b)).length := by
      simp only [conjOk, Bool.and_eq_true, decide_eq_true_eq] at h; exact h.1
    have e1 := hne _ gra ra (List.length_eq_zero_iff.1 h0)
    have e2 := hne _ grb rb (List.length_eq_zero_iff.1 (by omega))
    rw [(conj_nil hl h0).1, e1, e2]; rfl
  · have h' := h
    simp only [conjOk, Bool.and_eq_true, Bool.or_eq_true, decide_eq_true_eq] at h'
    have hk : conjAt a b < (coreX (red a)).length := h'.2.elim (fun e => by omega) id
    have hw := (conj_yes h'.1 rfl hk).1
    have hrot : rotL (coreX (red a)) (conjAt a b) = coreX (red b) := conjK_spec.1 hk
    obtain ⟨s, hs⟩ : ∃ s, s = (coreX (red a)).take (conjAt a b) := ⟨_, rfl⟩
    obtain ⟨t, ht⟩ : ∃ t, t = (coreX (red a)).drop (conjAt a b) := ⟨_, rfl⟩
    have hX : coreX (red a) = s ++ t := by rw [hs, ht, List.take_append_drop]
    have hY : coreX (red b) = t ++ s := by rw [← hrot, hs, ht]; rfl
    obtain ⟨P, hP⟩ : ∃ P, P = coreP (red a) := ⟨_, rfl⟩
    obtain ⟨Q, hQ⟩ : ∃ Q, Q = coreP (red b) := ⟨_, rfl⟩
    rw [← hP] at pa
    rw [← hQ] at pb
    rw [hX] at pa
    rw [hY] at pb
    rw [← hs, ← hP, ← hQ] at hw
    have gP : Good P := by rw [pa] at gra; exact gra.left.left
    have gs : Good s := by rw [pa] at gra; exact gra.left.right.left
    have gQ : Good Q := by rw [pb] at grb; exact grb.left.left
    have hwi : invW (conjW a b) = red (Q ++ (invW s ++ invW P)) := by
      rw [hw, invW_red ((gP.app gs).app gQ.invW).small, invW_append, invW_append, invW_invW gQ.small]
    rw [hwi, hw, pa]
    have e1 : red (red (Q ++ (invW s ++ invW P)) ++ (P ++ (s ++ t) ++ invW P) ++ red (P ++ s ++ invW Q)) = red ((Q ++ (invW s ++ invW P)) ++ (P ++ (s ++ t) ++ invW P) ++ (P ++ s ++ invW Q)) :=
      same_app (same_app (red_red _) rfl) (red_red _)
    have e2 := mid' gP (Q ++ invW s) (s ++ (t ++ (invW P ++ (P ++ (s ++ invW Q)))))
    have e3 := mid' gs Q (t ++ (invW P ++ (P ++ (s ++ invW Q))))
    have e4 := mid' gP (Q ++ t) (s ++ invW Q)
    simp only [List.append_assoc] at e1 e2 e3 e4 pb ⊢
    rw [e1, e2, e3, e4, ← pb, red_red]
/-- A word is its core conjugated. -/
theorem core_law (w : List Int) : red (red (coreP (red w) ++ coreX (red w)) ++ invW (coreP (red w))) = red w := by
  rw [red_red_append, ← core_parts, red_red]
/-- The inverse of a product. -/
theorem inv_product {a b : List Int} (ha : Small a) (hb : Small b) : invW (red (a ++ b)) = red (invW b ++ invW a) := by
  rw [invW_red (ha.app hb), invW_append]
end Go.Proofs.Ytbghnllflfcfhaa
