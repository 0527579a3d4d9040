/- Plain laws of adding an edge: the order of edges, the place of a new one. Conditions: none. -/
import Derived.Test.YtpebiacdkfpnpaaGreatGraphD
import Derived.Test.YtpebiacdkfpnpaaGreatGFacts
import Derived.Shelf.SlSortCmp.NoneTotal
namespace Go.Proofs.YtpebiacdkfpnpaaGreat
open Go.RowKit Go.Sort

/-- Before, in the order of edges. -/
def ltE (x y : Ed) : Prop := x.1 < y.1 ∨ (x.1 = y.1 ∧ (x.2.1 < y.2.1 ∨ (x.2.1 = y.2.1 ∧ x.2.2 < y.2.2)))
theorem cmpI_cases (a b : Int) : (a < b ∧ cmpI a b = -1) ∨ (b < a ∧ cmpI a b = 1) ∨ (a = b ∧ cmpI a b = 0) := by
  rcases Int.lt_trichotomy a b with h | h | h
  · exact .inl ⟨h, cmpI_lt h⟩
  · subst h; exact .inr (.inr ⟨rfl, cmpI_eq a⟩)
  · exact .inr (.inl ⟨h, cmpI_gt h⟩)
theorem cmpEd_lt (x y : Ed) : cmpEd x y < 0 ↔ ltE x y := by
  obtain ⟨a, b, c⟩ := x
  obtain ⟨d, e, f⟩ := y
  simp only [cmpEd, cmpE, ltE]
  by_cases h1 : a = d
  · rw [if_pos h1]
    by_cases h2 : b = e
    · rw [if_pos h2]
      rcases cmpI_cases c f with h | h | h <;> omega
    · rw [if_neg h2]
      rcases cmpI_cases b e with h | h | h <;> omega
  · rw [if_neg h1]
    rcases cmpI_cases a d with h | h | h <;> omega
theorem cmpEd_eq (x y : Ed) : cmpEd x y = 0 ↔ x = y := by
  obtain ⟨a, b, c⟩ := x
  obtain ⟨d, e, f⟩ := y
  simp only [cmpEd, cmpE, Prod.mk.injEq]
  by_cases h1 : a = d
  · rw [if_pos h1]
    by_cases h2 : b = e
    · rw [if_pos h2]
      rcases cmpI_cases c f with h | h | h <;> omega
    · rw [if_neg h2]
      rcases cmpI_cases b e with h | h | h <;> omega
  · rw [if_neg h1]
    rcases cmpI_cases a d with h | h | h <;> omega
theorem ltE_irrefl (x : Ed) : ¬ ltE x x := by unfold ltE; omega
theorem ltE_trans {x y z : Ed} (h1 : ltE x y) (h2 : ltE y z) : ltE x z := by unfold ltE at *; omega
theorem ltE_asymm {x y : Ed} (h1 : ltE x y) : ¬ ltE y x := by unfold ltE at *; omega
theorem ltE_total (x y : Ed) : ltE x y ∨ x = y ∨ ltE y x := by
  have h : x = y ↔ x.1 = y.1 ∧ x.2.1 = y.2.1 ∧ x.2.2 = y.2.2 := by
    obtain ⟨a, b, c⟩ := x
    obtain ⟨d, e, f⟩ := y
    simp
  rw [h]; unfold ltE; omega
abbrev ltB (x y : Ed) : Bool := ltOf (fun a b : Ed => cmpEd a b) x y
theorem ltB_iff (x y : Ed) : ltB x y = true ↔ ltE x y := by unfold ltB ltOf; rw [decide_eq_true_iff, cmpEd_lt]
theorem ltB_no (x y : Ed) : ltB x y = false ↔ ¬ ltE x y := by rw [← ltB_iff, Bool.not_eq_true]
theorem swoE : SWO (ltOf fun a b : Ed => cmpEd a b) where
  irrefl x := (ltB_no x x).2 (ltE_irrefl x)
  trans x y z h1 h2 := (ltB_iff x z).2 (ltE_trans ((ltB_iff x y).1 h1) ((ltB_iff y z).1 h2))
  ntrans x y z h1 h2 := (ltB_no x z).2 fun h => by
    have n1 := (ltB_no x y).1 h1
    have n2 := (ltB_no y z).1 h2
    rcases ltE_total x y with a | a | a
    · exact n1 a
    · subst a; exact n2 h
    · exact n2 (ltE_trans a h)
theorem ltB_part (x y : Ed) (h1 : ltB x y = false) (h2 : ltB y x = false) : x = y := by
  rcases ltE_total x y with a | a | a
  · exact absurd a ((ltB_no x y).1 h1)
  · exact a
  · exact absurd a ((ltB_no y x).1 h2)
/-- The edges in order. -/
def sortE (l : List Ed) : List Ed := l.mergeSort fun x y => !(ltOf fun a b : Ed => cmpEd a b) y x
/-- An edge at its place; one that is there is not put again. -/
def putE : List Ed → Ed → List Ed
  | [], e => [e]
  | x :: l, e => match decide (cmpEd e x < 0), decide (cmpEd e x = 0) with
    | true, _ => e :: x :: l
    | false, true => x :: l
    | false, false => x :: putE l e
theorem putE_lt {x e : Ed} {l : List Ed} (h : cmpEd e x < 0) : putE (x :: l) e = e :: x :: l := by simp only [putE, decide_eq_true h]
theorem putE_eq {x e : Ed} {l : List Ed} (h : cmpEd e x = 0) : putE (x :: l) e = x :: l := by
  simp only [putE, decide_eq_false (show ¬ cmpEd e x < 0 by omega), decide_eq_true h]
theorem putE_gt {x e : Ed} {l : List Ed} (h : 0 < cmpEd e x) : putE (x :: l) e = x :: putE l e := by
  simp only [putE, decide_eq_false (show ¬ cmpEd e x < 0 by omega), decide_eq_false (show ¬ cmpEd e x = 0 by omega)]
theorem putE_mem {e u : Ed} : ∀ {l : List Ed}, u ∈ putE l e → u = e ∨ u ∈ l := by
  intro l
  induction l with
  | nil => intro h; simp [putE] at h; exact .inl h
  | cons x l ih =>
    intro h
    rcases Int.lt_trichotomy (cmpEd e x) 0 with c | c | c
    · rw [putE_lt c] at h
      rcases List.mem_cons.1 h with h | h
      · exact .inl h
      · exact .inr h
    · rw [putE_eq c] at h; exact .inr h
    · rw [putE_gt c] at h
      rcases List.mem_cons.1 h with h | h
      · exact .inr (by rw [h]; exact List.mem_cons_self ..)
      · rcases ih h with h | h
        · exact .inl h
        · exact .inr (List.mem_cons_of_mem _ h)
theorem putE_len (l : List Ed) (e : Ed) : (putE l e).length ≤ l.length + 1 := by
  induction l with
  | nil => simp [putE]
  | cons x l ih =>
    rcases Int.lt_trichotomy (cmpEd e x) 0 with c | c | c
    · rw [putE_lt c]; simp
    · rw [putE_eq c]; simp
    · rw [putE_gt c]; simp; omega
/-- In order, each once. -/
def Asc (l : List Ed) : Prop := l.Pairwise fun a b => ltE a b
theorem putE_in {l : List Ed} {e : Ed} (h : Asc l) (hm : e ∈ l) : putE l e = l := by
  induction l with
  | nil => simp at hm
  | cons x l ih =>
    have hp := List.pairwise_cons.1 h
    rcases List.mem_cons.1 hm with rfl | hm
    · exact putE_eq ((cmpEd_eq _ _).2 rfl)
    · have hx : ltE x e := hp.1 e hm
      have c : 0 < cmpEd e x := by
        rcases Int.lt_trichotomy (cmpEd e x) 0 with c | c | c
        · exact absurd ((cmpEd_lt e x).1 c) (ltE_asymm hx)
        · have := (cmpEd_eq e x).1 c; subst this; exact absurd hx (ltE_irrefl _)
        · exact c
      rw [putE_gt c, ih hp.2 hm]
theorem putE_out {l : List Ed} {e : Ed} (h : Asc l) (hm : e ∉ l) : (putE l e).Perm (l ++ [e]) ∧ Asc (putE l e) ∧ (putE l e).length = l.length + 1 := by
  induction l with
  | nil => exact ⟨.refl _, by simp [Asc, putE], rfl⟩
  | cons x l ih =>
    have hp := List.pairwise_cons.1 h
    obtain ⟨i1, i2, i3⟩ := ih hp.2 fun h => hm (List.mem_cons_of_mem _ h)
    rcases Int.lt_trichotomy (cmpEd e x) 0 with c | c | c
    · rw [putE_lt c]
      have hex := (cmpEd_lt e x).1 c
      refine ⟨(List.perm_append_singleton e (x :: l)).symm, List.pairwise_cons.2 ⟨fun y hy => ?_, h⟩, by simp⟩
      rcases List.mem_cons.1 hy with rfl | hy
      · exact hex
      · exact ltE_trans hex (hp.1 y hy)
    · exact absurd (by rw [(cmpEd_eq e x).1 c]; exact List.mem_cons_self ..) hm
    · rw [putE_gt c]
      have hxe : ltE x e := by
        rcases ltE_total x e with a | a | a
        · exact a
        · subst a; exact absurd (List.mem_cons_self ..) hm
        · have := (cmpEd_lt e x).2 a; omega
      refine ⟨by rw [List.cons_append]; exact i1.cons x, List.pairwise_cons.2 ⟨fun y hy => ?_, i2⟩, by simp [i3]⟩
      rcases putE_mem hy with rfl | hy
      · exact hxe
      · exact hp.1 y hy
theorem sortE_put {l : List Ed} {e : Ed} (h : Asc l) (hm : e ∉ l) : sortE (l ++ [e]) = putE l e := by
  obtain ⟨h1, h2, _⟩ := putE_out h hm
  refine List.Perm.eq_of_pairwise (le := fun x y => ltB y x = false) ?_ ?_ ?_ ((List.mergeSort_perm _ _).trans h1.symm)
  · intro a b _ _ x1 x2
    exact ltB_part a b x2 x1
  · have := List.pairwise_mergeSort (le := fun x y => !(ltOf fun a b : Ed => cmpEd a b) y x) (fun a b c x1 x2 => by
      simp only [Bool.not_eq_true'] at x1 x2 ⊢
      exact swoE.ntrans c b a x2 x1) (fun a b => by
      cases hb : ltB b a with
      | false => simp only [Bool.or_eq_true, Bool.not_eq_true']; exact .inl hb
      | true => simp only [Bool.or_eq_true, Bool.not_eq_true']; exact .inr ((ltB_no a b).2 (ltE_asymm ((ltB_iff b a).1 hb)))) (l ++ [e])
    refine this.imp fun {a b} hab => ?_
    simpa using hab
  · exact h2.imp fun {a b} hab => (ltB_no b a).2 (ltE_asymm hab)
/-- The edges of a graph are in order, each once. -/
theorem isG_asc {r n : Int} {l : List Ed} (h : isG r n l = true) : Asc l := by
  have h4 : edgesOk r n l = true := by
    simp only [isG, Bool.and_eq_true] at h; exact h.2.2.2
  rw [edgesOk, List.all_eq_true] at h4
  have step : ∀ k, k + 1 < l.length → ltE (l.getD k (0, 0, 0)) (l.getD (k + 1) (0, 0, 0)) := fun k hk => by
    have h5 := h4 (k + 1) (by simpa using hk)
    rw [stepOk, Bool.and_eq_true, Bool.or_eq_true] at h5
    rcases h5.2 with h6 | h6
    · simp at h6
    · have := of_decide_eq_true h6
      rw [Nat.add_sub_cancel] at this
      exact (cmpEd_lt _ _).1 this
  have far : ∀ d i, i + d + 1 < l.length → ltE (l.getD i (0, 0, 0)) (l.getD (i + d + 1) (0, 0, 0)) := by
    intro d
    induction d with
    | zero => intro i hi; exact step i hi
    | succ d ih => intro i hi; exact ltE_trans (ih i (by omega)) (step (i + d + 1) (by omega))
  unfold Asc
  rw [List.pairwise_iff_getElem]
  intro i j hi hj hij
  have := far (j - i - 1) i (by omega)
  rw [show i + (j - i - 1) + 1 = j by omega, getD_at hi, getD_at hj] at this
  exact this
/-- Whether an edge is added. -/
def addEOk (r n : Int) (l : List Ed) (e : Ed) : Bool := isG r n l && (okE r n e && (decide (e ∉ l) && decide (l.length ≠ 120)))
def addEL (r n : Int) (l : List Ed) (e : Ed) : List Ed := match addEOk r n l e with
  | true => putE l e
  | false => l
theorem addE_yes {r n : Int} {l : List Ed} {e : Ed} (h : addEOk r n l e = true) : addEL r n l e = putE l e ∧ sortE (l ++ [e]) = putE l e ∧ Asc (putE l e) ∧ (putE l e).length = l.length + 1 ∧ l.length < 120 := by
  have h0 := h
  simp only [addEOk, Bool.and_eq_true, decide_eq_true_eq] at h
  have ha := isG_asc h.1
  have hl := (isG_all h.1).2.2.1
  have ho := putE_out ha h.2.2.1
  have hne := h.2.2.2
  exact ⟨by simp only [addEL, h0], sortE_put ha h.2.2.1, ho.2.1, ho.2.2, by omega⟩
theorem addE_no {r n : Int} {l : List Ed} {e : Ed} (h : addEOk r n l e = false) : addEL r n l e = l := by simp only [addEL, h]
theorem addEL_len (r n : Int) (l : List Ed) (e : Ed) : (addEL r n l e).length ≤ l.length + 1 := by
  cases h : addEOk r n l e with
  | true => rw [(addE_yes h).1]; exact putE_len l e
  | false => rw [addE_no h]; omega
end Go.Proofs.YtpebiacdkfpnpaaGreat
