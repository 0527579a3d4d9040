/- Plain laws of reachability: what edges connect with a vertex, by flags and by an ascending list. Conditions: none. -/
import Derived.Test.YtpebiacdkfpnpaaGreatEdges
namespace Go.Proofs.YtpebiacdkfpnpaaGreat

/-- What the edges l connect with v. -/
def Conn (l : List Ed) (v u : Int) : Prop := ∀ S : Int → Prop, S v → (∀ e ∈ l, S e.1 ↔ S e.2.2) → S u
theorem Conn.here (l : List Ed) (v : Int) : Conn l v v := fun _ h _ => h
theorem Conn.step {l : List Ed} {v : Int} {e : Ed} (he : e ∈ l) : Conn l v e.1 ↔ Conn l v e.2.2 :=
  ⟨fun h S h1 h2 => (h2 e he).1 (h S h1 h2), fun h S h1 h2 => (h2 e he).2 (h S h1 h2)⟩
/-- R is what is connected with v, ascending. -/
structure IsComp (l : List Ed) (v : Int) (R : List Int) : Prop where
  asc : R.Pairwise (· < ·)
  mem : ∀ u, u ∈ R ↔ Conn l v u
theorem asc_ext : ∀ {a b : List Int}, a.Pairwise (· < ·) → b.Pairwise (· < ·) → (∀ x, x ∈ a ↔ x ∈ b) → a = b
  | [], [], _, _, _ => rfl
  | [], y :: b, _, _, h => absurd ((h y).2 (List.mem_cons_self ..)) (by simp)
  | x :: a, [], _, _, h => absurd ((h x).1 (List.mem_cons_self ..)) (by simp)
  | x :: a, y :: b, ha, hb, h => by
    rw [List.pairwise_cons] at ha hb
    have hxy : x = y := by
      rcases List.mem_cons.1 ((h x).1 (List.mem_cons_self ..)) with e | e
      · exact e
      · rcases List.mem_cons.1 ((h y).2 (List.mem_cons_self ..)) with e' | e'
        · exact e'.symm
        · have := hb.1 x e; have := ha.1 y e'; omega
    subst hxy
    congr 1
    refine asc_ext ha.2 hb.2 fun z => ⟨fun hz => ?_, fun hz => ?_⟩
    · rcases List.mem_cons.1 ((h z).1 (List.mem_cons_of_mem _ hz)) with e | e
      · have := ha.1 z hz; omega
      · exact e
    · rcases List.mem_cons.1 ((h z).2 (List.mem_cons_of_mem _ hz)) with e | e
      · have := hb.1 z hz; omega
      · exact e
/-- The true places of a list of bools. -/
def trues (b : List Bool) : List Int := ((List.range b.length).filter fun i => b.getD i false).map fun (i : Nat) => (i : Int)
theorem mem_trues {b : List Bool} {x : Int} : x ∈ trues b ↔ 0 ≤ x ∧ b.getD x.toNat false = true := by
  simp only [trues, List.mem_map, List.mem_filter, List.mem_range]
  constructor
  · rintro ⟨i, ⟨h1, h2⟩, rfl⟩; exact ⟨by omega, by simpa using h2⟩
  · rintro ⟨h1, h2⟩
    refine ⟨x.toNat, ⟨?_, h2⟩, by omega⟩
    rcases Nat.lt_or_ge x.toNat b.length with h | h
    · exact h
    · rw [List.getD_eq_getElem?_getD, List.getElem?_eq_none h] at h2; cases h2
theorem trues_asc (b : List Bool) : (trues b).Pairwise (· < ·) := by
  rw [trues, List.pairwise_map]
  refine List.Pairwise.imp (fun {x y} (h : x < y) => by omega) (List.Pairwise.filter _ (List.pairwise_lt_range))
theorem range_filter_len {p q : Nat → Bool} : ∀ n, (∀ i, i < n → p i = q i) → (List.range n).filter p = (List.range n).filter q := fun n h => by
  apply List.filter_congr
  intro i hi
  exact h i (List.mem_range.1 hi)
theorem trues_snoc (b : List Bool) (x : Bool) : trues (b ++ [x]) = trues b ++ (match x with | true => [(b.length : Int)] | false => []) := by
  have h1 : (List.range b.length).filter (fun i => (b ++ [x]).getD i false) = (List.range b.length).filter (fun i => b.getD i false) := range_filter_len _ fun i hi => by
    simp only [List.getD_eq_getElem?_getD, List.getElem?_append_left hi]
  have h2 : (b ++ [x]).getD b.length false = x := by simp [List.getD_eq_getElem?_getD]
  simp only [trues, List.length_append, List.length_cons, List.length_nil, Nat.zero_add, List.range_succ, List.filter_append, List.map_append, h1, List.filter_cons, List.filter_nil, h2]
  cases x <;> simp
theorem trues_take {b : List Bool} {k : Nat} (h : k < b.length) : (b[k] = true → trues (b.take (k + 1)) = trues (b.take k) ++ [(k : Int)]) ∧ (b[k] = false → trues (b.take (k + 1)) = trues (b.take k)) := by
  rw [List.take_succ_eq_append_getElem h, trues_snoc]
  have hl : (b.take k).length = k := by rw [List.length_take]; omega
  constructor
  · intro e; rw [e, hl]
  · intro e; rw [e]; simp
theorem trues_len (b : List Bool) : (trues b).length ≤ b.length := by
  simp only [trues, List.length_map]
  exact Nat.le_trans (List.length_filter_le _ _) (by simp)

/-! ### The program's way: flags -/
/-- The flags of both ends of the edge are alike. -/
def evenAt (b : List Bool) (e : Ed) : Prop := b.getD e.1.toNat false = b.getD e.2.2.toNat false
/-- How many flags are not set. -/
def falses (b : List Bool) : Nat := b.countP (fun x => !x)
theorem falses_le (b : List Bool) : falses b ≤ b.length := List.countP_le_length
theorem falses_set {b : List Bool} {i : Nat} (h : i < b.length) : (b[i] = false → falses (b.set i true) + 1 = falses b) ∧ (b[i] = true → b.set i true = b) := by
  constructor
  · intro e
    have hs : b = b.take i ++ false :: b.drop (i + 1) := by
      conv => lhs; rw [← List.take_append_drop i b, List.drop_eq_getElem_cons h, e]
    have hl : (b.take i).length = i := by rw [List.length_take]; omega
    have h2 : b.set i true = b.take i ++ true :: b.drop (i + 1) := by
      conv => lhs; rw [hs]
      rw [List.set_append_right _ _ (by omega), hl, Nat.sub_self, List.set_cons_zero]
    rw [h2]
    conv => rhs; rw [hs]
    simp only [falses, List.countP_append, List.countP_cons]
    simp
    omega
  · intro e
    apply List.ext_getElem?
    intro j
    rw [List.getElem?_set]
    by_cases hj : i = j
    · subst hj; simp [h, e]
    · simp [hj]
structure SeenOk (l : List Ed) (n : Nat) (v : Int) (b : List Bool) : Prop where
  len : b.length = n
  start : b.getD v.toNat false = true
  conn : ∀ i : Nat, b.getD i false = true → Conn l v (i : Int)
theorem seen_start {l : List Ed} {n V : Nat} (h : V < n) : SeenOk l n (V : Int) ((List.replicate n false).set V true) := by
  have hg : ∀ i, ((List.replicate n false).set V true).getD i false = true → i = V := fun i hi => by
    rw [List.getD_eq_getElem?_getD, List.getElem?_set] at hi
    by_cases e : V = i
    · exact e.symm
    · rw [if_neg e, List.getElem?_replicate] at hi
      split at hi <;> cases hi
  refine ⟨by simp, ?_, fun i hi => ?_⟩
  · rw [Int.toNat_natCast, List.getD_eq_getElem?_getD, List.getElem?_set, if_pos rfl, if_pos (by simpa using h)]; rfl
  · rw [hg i hi]; exact Conn.here _ _
theorem seen_set {l : List Ed} {n : Nat} {v : Int} {b : List Bool} {e : Ed} (h : SeenOk l n v b) (he : e ∈ l) (h1 : 0 ≤ e.1) (h2 : e.1.toNat < n) (h3 : 0 ≤ e.2.2) (h4 : e.2.2.toNat < n) (hd : ¬ evenAt b e) :
    SeenOk l n v ((b.set e.1.toNat true).set e.2.2.toNat true) ∧ falses ((b.set e.1.toNat true).set e.2.2.toNat true) < falses b := by
  have hl := h.len
  have hc : Conn l v e.1 ∧ Conn l v e.2.2 := by
    have hb : b.getD e.1.toNat false = true ∨ b.getD e.2.2.toNat false = true := by
      unfold evenAt at hd
      cases h5 : b.getD e.1.toNat false <;> cases h6 : b.getD e.2.2.toNat false <;> simp_all
    rcases hb with hb | hb
    · have := h.conn _ hb
      rw [Int.toNat_of_nonneg h1] at this
      exact ⟨this, (Conn.step he).1 this⟩
    · have := h.conn _ hb
      rw [Int.toNat_of_nonneg h3] at this
      exact ⟨(Conn.step he).2 this, this⟩
  have hg : ∀ j, ((b.set e.1.toNat true).set e.2.2.toNat true).getD j false = true → j = e.1.toNat ∨ j = e.2.2.toNat ∨ b.getD j false = true := fun j hj => by
    rw [List.getD_eq_getElem?_getD, List.getElem?_set, List.length_set] at hj
    by_cases e1 : e.2.2.toNat = j
    · exact .inr (.inl e1.symm)
    · rw [if_neg e1, List.getElem?_set] at hj
      by_cases e2 : e.1.toNat = j
      · exact .inl e2.symm
      · rw [if_neg e2] at hj; exact .inr (.inr (by rw [List.getD_eq_getElem?_getD]; exact hj))
  have hk : ∀ j, b.getD j false = true → ((b.set e.1.toNat true).set e.2.2.toNat true).getD j false = true := fun j hj => by
    have hjn : j < b.length := by
      rcases Nat.lt_or_ge j b.length with h | h
      · exact h
      · rw [List.getD_eq_getElem?_getD, List.getElem?_eq_none h] at hj; cases hj
    rw [List.getD_eq_getElem?_getD, List.getElem?_set, List.length_set, List.getElem?_set]
    by_cases e1 : e.2.2.toNat = j
    · rw [if_pos e1, e1, if_pos hjn]; rfl
    · rw [if_neg e1]
      by_cases e2 : e.1.toNat = j
      · rw [if_pos e2, e2, if_pos hjn]; rfl
      · rw [if_neg e2, ← List.getD_eq_getElem?_getD]; exact hj
  refine ⟨⟨by simpa using hl, hk _ h.start, fun i hi => ?_⟩, ?_⟩
  · rcases hg i hi with rfl | rfl | hi
    · rw [Int.toNat_of_nonneg h1]; exact hc.1
    · rw [Int.toNat_of_nonneg h3]; exact hc.2
    · exact h.conn i hi
  · have i1 : e.1.toNat < b.length := by omega
    have i2 : e.2.2.toNat < b.length := by omega
    unfold evenAt at hd
    have g1 : b.getD e.1.toNat false = b[e.1.toNat] := by simp [List.getD_eq_getElem?_getD, i1]
    have g2 : b.getD e.2.2.toNat false = b[e.2.2.toNat] := by simp [List.getD_eq_getElem?_getD, i2]
    rw [g1, g2] at hd
    cases h5 : b[e.1.toNat] with
    | true =>
      have h6 : b[e.2.2.toNat] = false := by rw [h5] at hd; simpa using Ne.symm hd
      rw [(falses_set i1).2 h5]
      have := (falses_set i2).1 h6
      omega
    | false =>
      have h6 : b[e.2.2.toNat] = true := by rw [h5] at hd; simpa using Ne.symm hd
      have h7 := (falses_set i1).1 h5
      have hne : e.1.toNat ≠ e.2.2.toNat := fun e1 => by simp only [e1] at h5; rw [h5] at h6; cases h6
      have i3 : e.2.2.toNat < (b.set e.1.toNat true).length := by simpa using i2
      have h8 : (b.set e.1.toNat true)[e.2.2.toNat] = true := by rw [List.getElem_set_ne hne]; exact h6
      rw [(falses_set i3).2 h8]
      omega
theorem seen_done {l : List Ed} {n : Nat} {v : Int} {b : List Bool} {R : List Int} (hR : IsComp l v R) (h : SeenOk l n v b) (h0 : 0 ≤ v) (hr : ∀ e ∈ l, 0 ≤ e.1 ∧ 0 ≤ e.2.2) (hev : ∀ e ∈ l, evenAt b e) : trues b = R := by
  refine asc_ext (trues_asc b) hR.asc fun x => ?_
  rw [mem_trues, hR.mem]
  constructor
  · rintro ⟨h1, h2⟩
    have := h.conn _ h2
    rwa [Int.toNat_of_nonneg h1] at this
  · intro hc
    refine hc (fun x => 0 ≤ x ∧ b.getD x.toNat false = true) ⟨h0, h.start⟩ fun e he => ?_
    have h1 := hr e he
    have h2 := hev e he
    unfold evenAt at h2
    rw [h2]
    exact ⟨fun ⟨_, hh⟩ => ⟨h1.2, hh⟩, fun ⟨_, hh⟩ => ⟨h1.1, hh⟩⟩
theorem comp_exists {l : List Ed} {n : Nat} {v : Int} (hv : 0 ≤ v ∧ v.toNat < n) (hr : ∀ e ∈ l, (0 ≤ e.1 ∧ e.1.toNat < n) ∧ 0 ≤ e.2.2 ∧ e.2.2.toNat < n) : ∃ R, IsComp l v R ∧ R.length ≤ n := by
  have : ∃ f : Nat → Bool, ∀ i, f i = true ↔ Conn l v (i : Int) := by
    refine ⟨fun i => @decide (Conn l v (i : Int)) (Classical.propDecidable _), fun i => ?_⟩
    simp
  obtain ⟨f, hf⟩ := this
  have hl : ((List.range n).map f).length = n := by simp
  refine ⟨trues ((List.range n).map f), ⟨trues_asc _, fun u => ?_⟩, by have := trues_len ((List.range n).map f); omega⟩
  rw [mem_trues]
  have hg : ∀ j, j < n → ((List.range n).map f).getD j false = f j := fun j hj => by
    rw [List.getD_eq_getElem?_getD, List.getElem?_map, List.getElem?_range hj]; rfl
  have hg2 : ∀ j, n ≤ j → ((List.range n).map f).getD j false = false := fun j hj => by
    rw [List.getD_eq_getElem?_getD, List.getElem?_eq_none (by omega)]; rfl
  constructor
  · rintro ⟨h1, h2⟩
    rcases Nat.lt_or_ge u.toNat n with h | h
    · rw [hg _ h, hf, Int.toNat_of_nonneg h1] at h2; exact h2
    · rw [hg2 _ h] at h2; cases h2
  · intro hc
    have hx : 0 ≤ u ∧ u.toNat < n := hc (fun x => 0 ≤ x ∧ x.toNat < n) hv fun e he => ⟨fun _ => (hr e he).2, fun _ => (hr e he).1⟩
    refine ⟨hx.1, ?_⟩
    rw [hg _ hx.2, hf, Int.toNat_of_nonneg hx.1]
    exact hc

/-! ### The reference's way: an ascending list -/
/-- x put into an ascending list. -/
def addI (l : List Int) (x : Int) : List Int := match l with
  | [] => [x]
  | y :: t => match decide (x < y) with
    | true => x :: y :: t
    | false => match decide (x = y) with
      | true => y :: t
      | false => y :: addI t x
theorem mem_addI {l : List Int} {x u : Int} : u ∈ addI l x ↔ u = x ∨ u ∈ l := by
  induction l with
  | nil => simp [addI]
  | cons y t ih =>
    simp only [addI]
    by_cases h : x < y
    · simp [h]
    · by_cases h2 : x = y
      · subst h2; simp
      · simp only [decide_eq_false h, decide_eq_false h2, List.mem_cons, ih]
        constructor
        · rintro (h | h | h) <;> simp [h]
        · rintro (h | h | h) <;> simp [h]
theorem addI_asc {l : List Int} {x : Int} (h : l.Pairwise (· < ·)) : (addI l x).Pairwise (· < ·) := by
  induction l with
  | nil => simp [addI]
  | cons y t ih =>
    rw [List.pairwise_cons] at h
    simp only [addI]
    by_cases h1 : x < y
    · simp only [decide_eq_true h1, List.pairwise_cons]
      refine ⟨fun z hz => ?_, h⟩
      rcases List.mem_cons.1 hz with rfl | hz
      · exact h1
      · have := h.1 z hz; omega
    · by_cases h2 : x = y
      · simp only [decide_eq_false h1, decide_eq_true h2, List.pairwise_cons]; exact h
      · simp only [decide_eq_false h1, decide_eq_false h2, List.pairwise_cons]
        refine ⟨fun z hz => ?_, ih h.2⟩
        rcases mem_addI.1 hz with rfl | hz
        · omega
        · exact h.1 z hz
theorem addI_same {l : List Int} {x : Int} (h : l.Pairwise (· < ·)) (hx : x ∈ l) : addI l x = l :=
  asc_ext (addI_asc h) h fun u => by rw [mem_addI]; exact ⟨fun h => h.elim (fun e => e ▸ hx) id, .inr⟩
theorem addI_len {l : List Int} {x : Int} : (addI l x).length ≤ l.length + 1 := by
  induction l with
  | nil => simp [addI]
  | cons y t ih =>
    simp only [addI]
    by_cases h1 : x < y
    · simp [h1]
    · by_cases h2 : x = y
      · subst h2; simp
      · simp only [decide_eq_false h1, decide_eq_false h2, List.length_cons]; omega
/-- The loop of l4Add, from the place k on: what is there already, whether x was placed. -/
def addGo (x : Int) : List Int → Bool → List Int
  | [], true => []
  | [], false => [x]
  | y :: t, p => match p || decide (y = x) with
    | true => y :: addGo x t true
    | false => match decide (x < y) with
      | true => x :: y :: addGo x t true
      | false => y :: addGo x t false
theorem addGo_true (x : Int) (l : List Int) : addGo x l true = l := by
  induction l with
  | nil => rfl
  | cons y t ih => simp [addGo, ih]
theorem addGo_false (x : Int) (l : List Int) : addGo x l false = addI l x := by
  induction l with
  | nil => rfl
  | cons y t ih =>
    simp only [addGo, addI, Bool.false_or]
    by_cases h1 : y = x
    · subst h1; simp [addGo_true]
    · by_cases h2 : x < y
      · simp [h1, h2, addGo_true]
      · simp only [decide_eq_false h1, decide_eq_false h2, decide_eq_false (Ne.symm h1), ih]
/-- b put into the list, if a is there. -/
def stepA (o : List Int) (a b : Int) : List Int := match decide (a ∈ o) with
  | true => addI o b
  | false => o
/-- One edge of a pass. -/
def passE (o : List Int) (e : Ed) : List Int := stepA (stepA o e.1 e.2.2) e.2.2 e.1
theorem stepA_yes {o : List Int} {a b : Int} (h : a ∈ o) : stepA o a b = addI o b := by simp only [stepA, decide_eq_true h]
theorem stepA_no {o : List Int} {a b : Int} (h : a ∉ o) : stepA o a b = o := by simp only [stepA, decide_eq_false h]
theorem stepA_grow {o : List Int} {a b u : Int} (h : u ∈ o) : u ∈ stepA o a b := by
  by_cases ha : a ∈ o
  · rw [stepA_yes ha]; exact mem_addI.2 (.inr h)
  · rw [stepA_no ha]; exact h
/-- How many edges lie inside. -/
def inside (l : List Ed) (o : List Int) : Nat := l.countP fun e => decide (e.1 ∈ o) && decide (e.2.2 ∈ o)
theorem inside_le (l : List Ed) (o : List Int) : inside l o ≤ l.length := List.countP_le_length
structure ReachOk (l : List Ed) (v : Int) (o : List Int) : Prop where
  asc : o.Pairwise (· < ·)
  start : v ∈ o
  conn : ∀ u ∈ o, Conn l v u
/-- One number more. -/
theorem ReachOk.add {l : List Ed} {v x : Int} {o : List Int} (h : ReachOk l v o) (hc : Conn l v x) : ReachOk l v (addI o x) :=
  ⟨addI_asc h.asc, mem_addI.2 (.inr h.start), fun u hu => by
    rcases mem_addI.1 hu with rfl | hu
    · exact hc
    · exact h.conn u hu⟩
theorem ReachOk.stepA {l : List Ed} {v a b : Int} {o : List Int} (h : ReachOk l v o) (hc : Conn l v a → Conn l v b) : ReachOk l v (stepA o a b) := by
  by_cases ha : a ∈ o
  · rw [stepA_yes ha]; exact h.add (hc (h.conn _ ha))
  · rw [stepA_no ha]; exact h
/-- Within a pass, k edges done, since the list o0: it only grew; if one of the first k edges had one end in o0, it is inside now; a list that is closed stays. -/
structure PassOk (l : List Ed) (v : Int) (o0 o : List Int) (k : Nat) : Prop where
  ok : ReachOk l v o
  grow : ∀ u ∈ o0, u ∈ o
  shut : ∀ (i : Nat) (h : i < l.length), i < k → (l[i].1 ∈ o0 ∨ l[i].2.2 ∈ o0) → l[i].1 ∈ o ∧ l[i].2.2 ∈ o
  still : (∀ e ∈ l, e.1 ∈ o0 ↔ e.2.2 ∈ o0) → o = o0
theorem PassOk.start {l : List Ed} {v : Int} {o : List Int} (h : ReachOk l v o) : PassOk l v o o 0 := ⟨h, fun _ h => h, fun _ _ h => absurd h (Nat.not_lt_zero _), fun _ => rfl⟩
theorem PassOk.next {l : List Ed} {v : Int} {o0 o : List Int} {k : Nat} (h : PassOk l v o0 o k) (hk : k < l.length) : PassOk l v o0 (passE o l[k]) (k + 1) := by
  have hm : l[k] ∈ l := List.getElem_mem hk
  have hs := @Conn.step l v l[k] hm
  have g : ∀ u ∈ o, u ∈ passE o l[k] := fun u hu => stepA_grow (stepA_grow hu)
  refine ⟨(h.ok.stepA hs.1).stepA hs.2, fun u hu => g u (h.grow u hu), fun i hi hik ht => ?_, fun hc => ?_⟩
  · by_cases e : i = k
    · subst e
      unfold passE
      by_cases h1 : l[i].1 ∈ o
      · rw [stepA_yes h1]
        have h2 : l[i].2.2 ∈ addI o l[i].2.2 := mem_addI.2 (.inl rfl)
        rw [stepA_yes h2]
        exact ⟨mem_addI.2 (.inl rfl), mem_addI.2 (.inr h2)⟩
      · rw [stepA_no h1]
        have h2 : l[i].2.2 ∈ o := ht.elim (fun h' => absurd (h.grow _ h') h1) (h.grow _)
        rw [stepA_yes h2]
        exact ⟨mem_addI.2 (.inl rfl), mem_addI.2 (.inr h2)⟩
    · have := h.shut i hi (by omega) ht
      exact ⟨g _ this.1, g _ this.2⟩
  · have e := h.still hc
    subst e
    have := hc _ hm
    unfold passE
    by_cases h1 : l[k].1 ∈ o
    · have h2 := this.1 h1
      rw [stepA_yes h1, addI_same h.ok.asc h2, stepA_yes h2, addI_same h.ok.asc h1]
    · have h2 : l[k].2.2 ∉ o := fun h' => h1 (this.2 h')
      rw [stepA_no h1, stepA_no h2]
/-- The end of a pass: either all edges that touch the list lie inside, or more of them than before do. -/
theorem PassOk.done {l : List Ed} {v : Int} {o0 o : List Int} {m : Nat} (h : PassOk l v o0 o l.length) (hm : (∀ e ∈ l, e.1 ∈ o0 ↔ e.2.2 ∈ o0) ∨ m ≤ inside l o0) : (∀ e ∈ l, e.1 ∈ o ↔ e.2.2 ∈ o) ∨ m + 1 ≤ inside l o := by
  by_cases hc : ∀ e ∈ l, e.1 ∈ o0 ↔ e.2.2 ∈ o0
  · left; rw [h.still hc]; exact hc
  · right
    have hm : m ≤ inside l o0 := hm.elim (fun h => absurd h hc) id
    have hlt : inside l o0 < inside l o := by
      have : ∃ e ∈ l, ¬ (e.1 ∈ o0 ↔ e.2.2 ∈ o0) := by
        apply Classical.byContradiction
        intro hn
        exact hc fun e he => Classical.byContradiction fun h => hn ⟨e, he, h⟩
      obtain ⟨e, he, hne⟩ := this
      have himp : ∀ e ∈ l, (decide (e.1 ∈ o0) && decide (e.2.2 ∈ o0)) = true → (decide (e.1 ∈ o) && decide (e.2.2 ∈ o)) = true := fun e _ h1 => by
        simp only [Bool.and_eq_true, decide_eq_true_eq] at *
        exact ⟨h.grow _ h1.1, h.grow _ h1.2⟩
      obtain ⟨i, hi, rfl⟩ := List.mem_iff_getElem.1 he
      have hin := h.shut i hi hi (by
        by_cases h1 : l[i].1 ∈ o0
        · exact .inl h1
        · exact .inr (Classical.byContradiction fun h2 => hne ⟨fun h => absurd h h1, fun h => absurd h h2⟩))
      have hs : l = l.take i ++ l[i] :: l.drop (i + 1) := by
        conv => lhs; rw [← List.take_append_drop i l, List.drop_eq_getElem_cons hi]
      have hmono : ∀ l' : List Ed, (∀ e ∈ l', e ∈ l) → inside l' o0 ≤ inside l' o := fun l' h' => List.countP_mono_left fun e he => himp e (h' e he)
      have m1 := hmono (l.take i) fun e he => List.mem_of_mem_take he
      have m2 := hmono (l.drop (i + 1)) fun e he => List.mem_of_mem_drop he
      have hn : (decide (l[i].1 ∈ o0) && decide (l[i].2.2 ∈ o0)) = false := by
        rw [Bool.eq_false_iff]
        simp only [ne_eq, Bool.and_eq_true, decide_eq_true_eq]
        exact fun hh => hne ⟨fun _ => hh.2, fun _ => hh.1⟩
      have hy : (decide (l[i].1 ∈ o) && decide (l[i].2.2 ∈ o)) = true := by simp [hin]
      have e0 : inside l o0 = inside (l.take i) o0 + inside (l.drop (i + 1)) o0 := by
        unfold inside
        conv => lhs; rw [hs]
        rw [List.countP_append, List.countP_cons_of_neg (by simp only [hn]; simp)]
      have e1 : inside l o = inside (l.take i) o + (inside (l.drop (i + 1)) o + 1) := by
        unfold inside
        conv => lhs; rw [hs]
        rw [List.countP_append, List.countP_cons_of_pos (by simp only [hy])]
      omega
    omega
theorem reach_done {l : List Ed} {v : Int} {o R : List Int} (hR : IsComp l v R) (h : ReachOk l v o) (hc : ∀ e ∈ l, e.1 ∈ o ↔ e.2.2 ∈ o) : o = R :=
  asc_ext h.asc hR.asc fun x => by
    rw [hR.mem]
    exact ⟨h.conn x, fun hx => hx (· ∈ o) h.start hc⟩
end Go.Proofs.YtpebiacdkfpnpaaGreat
