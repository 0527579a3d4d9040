/- Plain laws of reduced words: products, inverses, periods, powers. Conditions: none. -/
import Derived.Test.YtbghnllflfcfhaaCycE
import Derived.Test.YtbghnllflfcfhaaCycG
import Derived.Test.YtbghnllflfcfhaaWordD
namespace Go.Proofs.Ytbghnllflfcfhaa

/-- Letters of which each has its negative. -/
def Small (l : List Int) : Prop := ∀ x ∈ l, -100 ≤ x ∧ x ≤ 100
def Good (l : List Int) : Prop := ∀ x ∈ l, x ≠ 0 ∧ -100 ≤ x ∧ x ≤ 100
theorem Good.small {l : List Int} (h : Good l) : Small l := fun x hx => (h x hx).2
theorem Small.app {a b : List Int} (h : Small a) (k : Small b) : Small (a ++ b) := fun x hx => (List.mem_append.1 hx).elim (h x) (k x)
theorem Good.app {a b : List Int} (h : Good a) (k : Good b) : Good (a ++ b) := fun x hx => (List.mem_append.1 hx).elim (h x) (k x)
theorem Good.left {a b : List Int} (h : Good (a ++ b)) : Good a := fun x hx => h x (List.mem_append_left _ hx)
theorem Good.right {a b : List Int} (h : Good (a ++ b)) : Good b := fun x hx => h x (List.mem_append_right _ hx)
theorem Small.red {l : List Int} (h : Small l) : Small (red l) := fun x hx => h x (red_mem hx)
theorem Good.red {l : List Int} (h : Good l) : Good (red l) := fun x hx => h x (red_mem hx)
theorem neg_small {x : Int} (h : -100 ≤ x ∧ x ≤ 100) : neg x = -x := by unfold neg; split <;> omega
theorem Small.invW {l : List Int} (h : Small l) : Small (invW l) := fun x hx => by
  simp only [Go.Proofs.Ytbghnllflfcfhaa.invW, List.mem_reverse, List.mem_map] at hx
  obtain ⟨y, hy, rfl⟩ := hx
  have := h y hy
  rw [neg_small this]; omega
theorem Good.invW {l : List Int} (h : Good l) : Good (invW l) := fun x hx => by
  simp only [Go.Proofs.Ytbghnllflfcfhaa.invW, List.mem_reverse, List.mem_map] at hx
  obtain ⟨y, hy, rfl⟩ := hx
  have := h y hy
  rw [neg_small this.2]; omega
theorem same_app {a a' b b' : List Int} (h : red a = red a') (k : red b = red b') : red (a ++ b) = red (a' ++ b') := by
  rw [← red_red_append a b, h, red_red_append, ← red_append_red a' b, k, red_append_red]
theorem invW_append (a b : List Int) : invW (a ++ b) = invW b ++ invW a := by simp [invW]
theorem invW_one (x : Int) : invW [x] = [neg x] := rfl
theorem invW_invW {l : List Int} (h : Small l) : invW (invW l) = l := by
  unfold invW
  rw [List.map_reverse, List.reverse_reverse, List.map_map]
  conv => rhs; rw [← List.map_id l]
  apply List.map_congr_left
  intro x hx
  have := h x hx
  simp only [Function.comp, id]
  rw [neg_small this, neg_small (by omega)]; omega
theorem inv_neg {x : Int} (h : x ≠ 0 ∧ -100 ≤ x ∧ x ≤ 100) : inv x (neg x) = true := by
  rw [neg_small h.2]; simp only [inv, decide_eq_true_eq]; exact ⟨h.1, by omega, by omega, trivial⟩
theorem inv_negs {a b : Int} (ha : -100 ≤ a ∧ a ≤ 100) (hb : -100 ≤ b ∧ b ≤ 100) : inv (neg b) (neg a) = inv a b := by
  rw [neg_small ha, neg_small hb]
  simp only [inv, decide_eq_decide]; omega
theorem inv_is_neg {a b : Int} (h : inv a b = true) : b = neg a := by
  simp only [inv, decide_eq_true_eq] at h
  unfold neg; split <;> omega
/-- What stands at the seam of two words. -/
def Seam (a b : List Int) : Prop := ∀ x y, a.getLast? = some x → b.head? = some y → inv x y = false
theorem reduced_app {a b : List Int} : Reduced (a ++ b) ↔ Reduced a ∧ Reduced b ∧ Seam a b := by
  induction a with
  | nil => simp [Reduced, Seam]
  | cons x a ih =>
    cases a with
    | nil =>
      cases b with
      | nil => simp [Reduced, Seam]
      | cons y b =>
        simp only [List.cons_append, List.nil_append, Reduced, Seam, List.getLast?_singleton, List.head?_cons, Option.some.injEq]
        constructor
        · rintro ⟨h1, h2⟩; exact ⟨trivial, h2, by rintro _ _ rfl rfl; exact h1⟩
        · rintro ⟨_, h2, h3⟩; exact ⟨h3 _ _ rfl rfl, h2⟩
    | cons z a =>
      simp only [List.cons_append, Reduced] at ih ⊢
      have e : Seam (x :: z :: a) b ↔ Seam (z :: a) b := by simp [Seam, List.getLast?_cons_cons]
      rw [ih, e]
      constructor
      · rintro ⟨h1, h2, h3, h4⟩; exact ⟨⟨h1, h2⟩, h3, h4⟩
      · rintro ⟨⟨h1, h2⟩, h3, h4⟩; exact ⟨h1, h2, h3, h4⟩
theorem Seam.inv {a b : List Int} (ha : Small a) (hb : Small b) (h : Seam a b) : Seam (invW b) (invW a) := by
  intro x y hx hy
  simp only [Go.Proofs.Ytbghnllflfcfhaa.invW, List.getLast?_reverse, List.head?_map, Option.map_eq_some_iff] at hx
  simp only [Go.Proofs.Ytbghnllflfcfhaa.invW, List.head?_reverse, List.getLast?_map, Option.map_eq_some_iff] at hy
  obtain ⟨x', hx', rfl⟩ := hx
  obtain ⟨y', hy', rfl⟩ := hy
  rw [inv_negs (ha y' (List.mem_of_getLast? hy')) (hb x' (List.mem_of_head? hx'))]
  exact h _ _ hy' hx'
theorem Reduced.inv {l : List Int} (hs : Small l) (h : Reduced l) : Reduced (invW l) := by
  induction l with
  | nil => trivial
  | cons x l ih =>
    have h1 : Small [x] := fun y hy => hs y (by simp at hy; simp [hy])
    have h2 : Small l := fun y hy => hs y (List.mem_cons_of_mem _ hy)
    rw [show x :: l = [x] ++ l from rfl] at h ⊢
    rw [reduced_app] at h
    rw [invW_append, reduced_app]
    exact ⟨ih h2 h.2.1, trivial, h.2.2.inv h1 h2⟩
/-- A letter and its inverse between two words cancel. -/
theorem cancel_mid {x y : Int} (a b : List Int) (h : inv x y = true) : red (a ++ [x] ++ [y] ++ b) = red (a ++ b) := by
  rw [← red_red_append (a ++ [x] ++ [y]) b, red_snoc, red_snoc, push_push (red_reduced a) h, red_red_append]
theorem cancel {l : List Int} (h : Good l) : red (l ++ invW l) = [] := by
  induction l using snoc_ind with
  | h0 => rfl
  | h1 l x ih =>
    have hx := h x (by simp)
    rw [invW_append, invW_one, ← List.append_assoc, cancel_mid l (invW l) (inv_neg hx)]
    exact ih h.left
theorem cancel' {l : List Int} (h : Good l) : red (invW l ++ l) = [] := by
  have := cancel h.invW
  rwa [invW_invW h.small] at this
theorem red_nil : red [] = [] := rfl
/-- The inverse of a reduced form. -/
theorem invW_red {l : List Int} (h : Small l) : invW (red l) = red (invW l) := by
  induction l using snoc_ind with
  | h0 => rfl
  | h1 l x ih =>
    have hl : Small l := fun y hy => h y (List.mem_append_left _ hy)
    have hx : -100 ≤ x ∧ x ≤ 100 := h x (by simp)
    have hr := hl.red
    have hrr := red_reduced l
    rw [red_snoc, invW_append, invW_one, ← red_append_red, ← ih hl]
    rcases List.eq_nil_or_concat (red l) with e | ⟨o, y, e⟩
    · rw [e]; rfl
    · rw [List.concat_eq_append] at e
      rw [e] at hr hrr ⊢
      have hy : -100 ≤ y ∧ y ≤ 100 := hr y (by simp)
      have ho : Small o := fun z hz => hr z (List.mem_append_left _ hz)
      rw [invW_append, invW_one]
      cases hi : inv y x with
      | true =>
        rw [push_inv hi]
        have e2 := cancel_mid (x := neg x) (y := neg y) [] (invW o) (by rw [inv_negs hy hx]; exact hi)
        simp only [List.nil_append] at e2
        rw [List.append_assoc] at e2
        rw [e2, red_of_reduced ((reduced_pop hrr).inv ho)]
      | false =>
        rw [push_not hi, invW_append, invW_one, invW_append, invW_one]
        refine (red_of_reduced ?_).symm
        have hs2 : Small (o ++ [y] ++ [x]) := hr.app fun z hz => by simp at hz; rw [hz]; exact hx
        have := (reduced_snoc2.2 ⟨hrr, hi⟩).inv hs2
        rwa [invW_append, invW_one, invW_append, invW_one] at this

/-! ### Periods -/
/-- The word read round and round. -/
def cyc (c : List Int) (i : Nat) : Int := c.getD (i % c.length) 0
def Per (c : List Int) (k : Nat) : Prop := ∀ i, cyc c (i + k) = cyc c i
theorem Per.len (c : List Int) : Per c c.length := fun i => by unfold cyc; rw [Nat.add_mod_right]
theorem Per.zero (c : List Int) : Per c 0 := fun _ => rfl
theorem Per.mul {c : List Int} {k : Nat} (h : Per c k) (m : Nat) : Per c (k * m) := by
  induction m with
  | zero => exact Per.zero c
  | succ m ih => intro i; rw [Nat.mul_succ, ← Nat.add_assoc, h, ih]
theorem Per.mod {c : List Int} {a b : Nat} (ha : Per c a) (hb : Per c b) : Per c (b % a) := fun i => by
  have := ha.mul (b / a) (i + b % a)
  rw [Nat.add_assoc, Nat.mod_add_div, hb] at this
  exact this.symm
theorem Per.gcd {c : List Int} (a b : Nat) (ha : Per c a) (hb : Per c b) : Per c (Nat.gcd a b) := by
  induction a, b using Nat.gcd.induction with
  | H0 n => rw [Nat.gcd_zero_left]; exact hb
  | H1 m n hm ih => rw [Nat.gcd_rec]; exact ih (ha.mod hb) ha
theorem getD_ext {a b : List Int} (h : a.length = b.length) (k : ∀ i, i < a.length → a.getD i 0 = b.getD i 0) : a = b := by
  apply List.ext_getElem h
  intro i h1 h2
  have := k i h1
  simpa [List.getD_eq_getElem?_getD, h1, h2] using this
theorem rotL_cyc {c : List Int} {k i : Nat} (hk : k < c.length) (hi : i < c.length) : (rotL c k).getD i 0 = cyc c (i + k) := by
  rw [List.getD_eq_getElem?_getD, rotL_get hk hi]; rfl
theorem cyc_lt {c : List Int} {i : Nat} (h : i < c.length) : cyc c i = c.getD i 0 := by unfold cyc; rw [Nat.mod_eq_of_lt h]
theorem cyc_mod (c : List Int) (i : Nat) : cyc c (i % c.length) = cyc c i := by unfold cyc; rw [Nat.mod_mod]
theorem rotL_per {c : List Int} {k : Nat} (hk : k < c.length) : rotL c k = c ↔ Per c k := by
  constructor
  · intro h i
    have h1 := rotL_cyc hk (Nat.mod_lt i (show 0 < c.length by omega))
    rw [h, ← cyc_lt (Nat.mod_lt _ (by omega)), cyc_mod] at h1
    rw [h1]; unfold cyc; rw [Nat.mod_add_mod]
  · intro h
    refine getD_ext (rotL_length c k) fun i hi => ?_
    rw [rotL_length] at hi
    rw [rotL_cyc hk hi, h, cyc_lt hi]
theorem rotK_mod (d n : Nat) : rotK (d : Int) n = d % n := by
  unfold rotK; rw [← Int.natCast_emod]; rfl
theorem per_mod_len {c : List Int} {d : Nat} : Per c (d % c.length) ↔ Per c d := by
  constructor
  · intro h i
    have := h i
    have e : cyc c (i + d) = cyc c (i + d % c.length) := by unfold cyc; rw [Nat.add_mod_mod]
    rw [e, this]
  · exact fun h => (Per.len c).mod h
theorem turns_iff {c : List Int} {d : Nat} (h : 0 < c.length) : turns c d = true ↔ c.length % d = 0 ∧ Per c d := by
  simp only [turns, eqL, Bool.and_eq_true, decide_eq_true_eq, beq_iff_eq, rotK_mod]
  rw [rotL_per (Nat.mod_lt _ h), per_mod_len]
theorem rootGo_spec (c : List Int) (h : turns c c.length = true) : ∀ f d, d ≤ c.length → c.length < f + d → turns c (rootGo c f d) = true ∧ d ≤ rootGo c f d ∧ rootGo c f d ≤ c.length ∧ ∀ e, d ≤ e → e < rootGo c f d → turns c e = false := by
  intro f
  induction f with
  | zero => intro d h1 h2; omega
  | succ f ih =>
    intro d h1 h2
    cases ht : turns c d with
    | true => rw [rootGo_yes ht]; exact ⟨ht, Nat.le_refl _, h1, fun e h3 h4 => by omega⟩
    | false =>
      rw [rootGo_no ht]
      have hne : d ≠ c.length := fun e => by rw [e, h] at ht; cases ht
      obtain ⟨i1, i2, i3, i4⟩ := ih (d + 1) (by omega) (by omega)
      refine ⟨i1, by omega, i3, fun e h3 h4 => ?_⟩
      by_cases hed : e = d
      · rw [hed]; exact ht
      · exact i4 e (by omega) h4
theorem rootD_spec {c : List Int} (h : 0 < c.length) : (c.length % rootD c = 0 ∧ Per c (rootD c)) ∧ 1 ≤ rootD c ∧ rootD c ≤ c.length ∧ ∀ e, 1 ≤ e → e < rootD c → ¬ (c.length % e = 0 ∧ Per c e) := by
  have ht : turns c c.length = true := (turns_iff h).2 ⟨Nat.mod_self _, Per.len c⟩
  obtain ⟨h1, h2, h3, h4⟩ := rootGo_spec c ht c.length 1 (by omega) (by omega)
  refine ⟨(turns_iff h).1 h1, h2, h3, fun e h5 h6 h7 => ?_⟩
  have := h4 e h5 h6
  rw [(turns_iff h).2 h7] at this; cases this
theorem rootD_nil : rootD [] = 0 := rfl
/-- A word k times. -/
def powL (u : List Int) (k : Nat) : List Int := (List.replicate k u).flatten
theorem powL_succ (u : List Int) (k : Nat) : powL u (k + 1) = u ++ powL u k := by simp [powL, List.replicate_succ]
theorem powL_zero (u : List Int) : powL u 0 = [] := rfl
theorem powL_one (u : List Int) : powL u 1 = u := by simp [powL]
theorem powL_add (u : List Int) (j k : Nat) : powL u (j + k) = powL u j ++ powL u k := by
  induction j with
  | zero => simp [powL_zero]
  | succ j ih => rw [Nat.succ_add, powL_succ, ih, powL_succ, List.append_assoc]
theorem powL_snoc (u : List Int) (k : Nat) : powL u (k + 1) = powL u k ++ u := by rw [powL_add, powL_one]
theorem powL_length (u : List Int) (k : Nat) : (powL u k).length = k * u.length := rep_length k u
theorem powL_get (u : List Int) : ∀ k i, i < k * u.length → (powL u k).getD i 0 = u.getD (i % u.length) 0 := by
  intro k
  induction k with
  | zero => intro i h; simp at h
  | succ k ih =>
    intro i h
    rw [powL_succ]
    rw [Nat.succ_mul] at h
    by_cases hi : i < u.length
    · rw [List.getD_eq_getElem?_getD, List.getElem?_append_left hi, Nat.mod_eq_of_lt hi, List.getD_eq_getElem?_getD]
    · rw [List.getD_eq_getElem?_getD, List.getElem?_append_right (by omega), ← List.getD_eq_getElem?_getD, ih _ (by omega)]
      congr 1
      conv => rhs; rw [show i = (i - u.length) + u.length by omega, Nat.add_mod_right]
theorem cyc_pow {u : List Int} {k : Nat} (hk : 1 ≤ k) (i : Nat) : cyc (powL u k) i = cyc u i := by
  unfold cyc
  rw [powL_length]
  rcases Nat.eq_zero_or_pos u.length with h0 | h0
  · have : u = [] := List.length_eq_zero_iff.1 h0
    subst this
    have : powL [] k = [] := List.length_eq_zero_iff.1 (by rw [powL_length]; simp)
    rw [this]; simp
  · rw [powL_get u k _ (Nat.mod_lt _ (Nat.mul_pos (by omega) h0)), Nat.mod_mul_left_mod]
theorem per_pow {u : List Int} {k g : Nat} (hk : 1 ≤ k) : Per (powL u k) g ↔ Per u g := by
  unfold Per
  simp only [cyc_pow hk]
theorem pow_of_per {c : List Int} {d : Nat} (hd : c.length % d = 0) (h : Per c d) (h1 : 1 ≤ d) (h2 : d ≤ c.length) : c = powL (c.take d) (c.length / d) := by
  have hl : (c.take d).length = d := by rw [List.length_take]; omega
  have hn : c.length / d * d = c.length := Nat.div_mul_cancel (Nat.dvd_of_mod_eq_zero hd)
  refine getD_ext (by rw [powL_length, hl, hn]) fun i hi => ?_
  have hm : i % d < d := Nat.mod_lt _ (by omega)
  rw [powL_get _ _ _ (by rw [hl, hn]; exact hi), hl, List.getD_eq_getElem?_getD (l := c.take d), List.getElem?_take_of_lt hm, ← List.getD_eq_getElem?_getD, ← cyc_lt hi, ← cyc_lt (show i % d < c.length by omega)]
  have := h.mul (i / d) (i % d)
  rw [Nat.mod_add_div] at this
  exact this
/-- No period but the length's multiples. -/
structure Prim (u : List Int) : Prop where
  pos : 0 < u.length
  per : ∀ g, Per u g → u.length ∣ g
theorem rootD_prim {c : List Int} (h : 0 < c.length) : Prim (c.take (rootD c)) ∧ c = powL (c.take (rootD c)) (c.length / rootD c) ∧ (c.take (rootD c)).length = rootD c ∧ 1 ≤ c.length / rootD c := by
  obtain ⟨⟨h1, h2⟩, h3, h4, h5⟩ := rootD_spec h
  have hc := pow_of_per h1 h2 h3 h4
  have hl : (c.take (rootD c)).length = rootD c := by rw [List.length_take]; omega
  have hk : 1 ≤ c.length / rootD c := (Nat.le_div_iff_mul_le (by omega)).2 (by omega)
  refine ⟨⟨by omega, fun g hg => ?_⟩, hc, hl, hk⟩
  rw [hl]
  have hg2 : Per c g := by rw [hc]; exact (per_pow hk).2 hg
  have hp := Per.gcd _ _ (Per.gcd _ _ hg2 (Per.len c)) h2
  have hdv : Nat.gcd (Nat.gcd g c.length) (rootD c) ∣ c.length := Nat.dvd_trans (Nat.gcd_dvd_left _ _) (Nat.gcd_dvd_right _ _)
  have hpos : 1 ≤ Nat.gcd (Nat.gcd g c.length) (rootD c) := Nat.gcd_pos_of_pos_right _ (by omega)
  have hle : Nat.gcd (Nat.gcd g c.length) (rootD c) ≤ rootD c := Nat.le_of_dvd (by omega) (Nat.gcd_dvd_right _ _)
  have heq : Nat.gcd (Nat.gcd g c.length) (rootD c) = rootD c := by
    rcases Nat.lt_or_ge (Nat.gcd (Nat.gcd g c.length) (rootD c)) (rootD c) with h6 | h6
    · exact absurd ⟨Nat.mod_eq_zero_of_dvd hdv, hp⟩ (h5 _ hpos h6)
    · omega
  rw [← heq]
  exact Nat.dvd_trans (Nat.gcd_dvd_left _ _) (Nat.gcd_dvd_left _ _)
theorem rootD_pow {u : List Int} {k : Nat} (h : Prim u) (hk : 1 ≤ k) : rootD (powL u k) = u.length := by
  have hp := h.pos
  have hl : 0 < (powL u k).length := by rw [powL_length]; exact Nat.mul_pos (by omega) hp
  obtain ⟨⟨h1, h2⟩, h3, h4, h5⟩ := rootD_spec hl
  have h6 := h.per _ ((per_pow hk).1 h2)
  have h7 := Nat.le_of_dvd (by omega) h6
  rcases Nat.lt_or_ge u.length (rootD (powL u k)) with h8 | h8
  · exfalso
    refine h5 u.length (by omega) h8 ⟨?_, (per_pow hk).2 (Per.len u)⟩
    rw [powL_length]; exact Nat.mul_mod_left _ _
  · omega
theorem prim_iff {u : List Int} : Prim u ↔ u ≠ [] ∧ ∀ a b, u = a ++ b → u = b ++ a → a = [] ∨ b = [] := by
  constructor
  · intro h
    refine ⟨fun e => by have := h.pos; simp [e] at this, fun a b h1 h2 => ?_⟩
    rcases Nat.eq_zero_or_pos b.length with hb | hb
    · exact .inr (List.length_eq_zero_iff.1 hb)
    · left
      have hl : a.length < u.length := by rw [h1, List.length_append]; omega
      have hr : rotL u a.length = u := by
        have e : rotL u a.length = b ++ a := by rw [h1]; simp [rotL]
        rw [e, ← h2]
      have := h.per _ ((rotL_per hl).1 hr)
      exact List.length_eq_zero_iff.1 (Nat.eq_zero_of_dvd_of_lt this hl)
  · rintro ⟨h0, h⟩
    have hp : 0 < u.length := List.length_pos_iff.2 h0
    refine ⟨hp, fun g hg => ?_⟩
    have hlt := Nat.mod_lt g hp
    have hr := (rotL_per hlt).2 (per_mod_len.2 hg)
    rcases h (u.take (g % u.length)) (u.drop (g % u.length)) (List.take_append_drop _ _).symm (by unfold rotL at hr; exact hr.symm) with e | e
    · have := congrArg List.length e
      rw [List.length_take, List.length_nil] at this
      exact Nat.dvd_of_mod_eq_zero (by omega)
    · have := congrArg List.length e
      rw [List.length_drop, List.length_nil] at this
      omega
theorem Prim.inv {u : List Int} (hs : Small u) (h : Prim u) : Prim (invW u) := by
  rw [prim_iff] at h ⊢
  refine ⟨fun e => h.1 (by have := congrArg invW e; rwa [invW_invW hs] at this), fun a b h1 h2 => ?_⟩
  have e1 : u = invW b ++ invW a := by rw [← invW_append, ← h1, invW_invW hs]
  have e2 : u = invW a ++ invW b := by rw [← invW_append, ← h2, invW_invW hs]
  have hz : ∀ z : List Int, invW z = [] → z = [] := fun z hz => List.length_eq_zero_iff.1 (by rw [← invW_length, hz]; rfl)
  exact (h.2 _ _ e1 e2).elim (fun e => .inr (hz _ e)) fun e => .inl (hz _ e)
/-- What commutes with a power of a primitive word, letter by letter, is one. -/
theorem comm_word {u : List Int} {m : Nat} (hu : Prim u) (hm : 1 ≤ m) : ∀ n (y : List Int), y.length ≤ n → powL u m ++ y = y ++ powL u m → ∃ j, y = powL u j := by
  have hL : (powL u m).length = m * u.length := powL_length u m
  have hpos : 0 < (powL u m).length := by rw [hL]; exact Nat.mul_pos (by omega) hu.pos
  intro n
  induction n with
  | zero => intro y hy h; exact ⟨0, List.length_eq_zero_iff.1 (by omega)⟩
  | succ n ih =>
    intro y hy h
    by_cases hlt : y.length < (powL u m).length
    · have hpre : y = (powL u m).take y.length := by
        have := congrArg (List.take y.length) h
        rw [List.take_append_of_le_length (by omega), List.take_left' rfl] at this
        exact this.symm
      obtain ⟨z, hz⟩ : ∃ z, powL u m = y ++ z := ⟨(powL u m).drop y.length, by conv => lhs; rw [← List.take_append_drop y.length (powL u m), ← hpre]⟩
      rw [hz, List.append_assoc, List.append_cancel_left_eq] at h
      have hr : rotL (powL u m) y.length = powL u m := by
        rw [hz]; unfold rotL; rw [List.drop_left' rfl, List.take_left' rfl]; exact h
      have hd := hu.per _ ((per_pow hm).1 ((rotL_per hlt).1 hr))
      obtain ⟨j, hj⟩ := hd
      have hjm : j ≤ m := by
        rw [hL, hj, Nat.mul_comm] at hlt
        exact Nat.le_of_lt (Nat.lt_of_mul_lt_mul_right hlt)
      refine ⟨j, ?_⟩
      rw [hpre, hj, show m = j + (m - j) by omega, powL_add, List.take_left' (by rw [powL_length, Nat.mul_comm])]
    · have hpre : powL u m = y.take (powL u m).length := by
        have := congrArg (List.take (powL u m).length) h
        rw [List.take_left' rfl, List.take_append_of_le_length (by omega)] at this
        exact this
      obtain ⟨z, hz⟩ : ∃ z, y = powL u m ++ z := ⟨y.drop (powL u m).length, by conv => lhs; rw [← List.take_append_drop (powL u m).length y, ← hpre]⟩
      have h2 := h
      rw [hz, List.append_assoc, List.append_cancel_left_eq] at h2
      have hlz : z.length ≤ n := by have := congrArg List.length hz; rw [List.length_append] at this; omega
      obtain ⟨j, rfl⟩ := ih z hlz h2
      exact ⟨m + j, by rw [hz, powL_add]⟩
end Go.Proofs.Ytbghnllflfcfhaa
