/- Plain laws of steps along edges and of reading words in a graph. Conditions: none. -/
import Derived.Test.YtpebiacdkfpnpaaGreatReach
namespace Go.Proofs.YtpebiacdkfpnpaaGreat

/-! ### Steps along edges -/
/-- What the edge gives from v by the letter x. -/
def hitE (v x : Int) (e : Ed) : Option Int := match decide (0 < x) && (decide (e.2.1 = x) && decide (e.1 = v)) with
  | true => some e.2.2
  | false => match decide (x < 0) && (decide (e.2.1 = -x) && decide (e.2.2 = v)) with
    | true => some e.1
    | false => none
def hits (l : List Ed) (v x : Int) : List Int := l.filterMap (hitE v x)
/-- The ends of the steps, ascending, each once. -/
def stepsL (l : List Ed) (v x : Int) : List Int := (hits l v x).foldl addI []
theorem hitE_fwd {v x : Int} {e : Ed} (h : 0 < x) (h1 : e.2.1 = x) (h2 : e.1 = v) : hitE v x e = some e.2.2 := by
  simp only [hitE, decide_eq_true h, decide_eq_true h1, decide_eq_true h2, Bool.and_self]
theorem hitE_bwd {v x : Int} {e : Ed} (h : x < 0) (h1 : e.2.1 = -x) (h2 : e.2.2 = v) : hitE v x e = some e.1 := by
  simp only [hitE, decide_eq_false (show ¬ 0 < x by omega), decide_eq_true h, decide_eq_true h1, decide_eq_true h2, Bool.and_self, Bool.false_and]
theorem hitE_none {v x : Int} {e : Ed} (h : ¬ (0 < x ∧ e.2.1 = x ∧ e.1 = v)) (h2 : ¬ (x < 0 ∧ e.2.1 = -x ∧ e.2.2 = v)) : hitE v x e = none := by
  have e1 : (decide (0 < x) && (decide (e.2.1 = x) && decide (e.1 = v))) = false := by
    rw [Bool.eq_false_iff]; simpa using h
  have e2 : (decide (x < 0) && (decide (e.2.1 = -x) && decide (e.2.2 = v))) = false := by
    rw [Bool.eq_false_iff]; simpa using h2
  simp only [hitE, e1, e2]
theorem hits_take {l : List Ed} {v x : Int} {k : Nat} (h : k < l.length) : hits (l.take (k + 1)) v x = hits (l.take k) v x ++ (hitE v x l[k]).toList := by
  rw [List.take_succ_eq_append_getElem h]
  simp only [hits, List.filterMap_append]
  cases hc : hitE v x l[k] <;> simp [hc]
theorem hits_len (l : List Ed) (v x : Int) : (hits l v x).length ≤ l.length := List.length_filterMap_le _ _
theorem hits_mem {l : List Ed} {v x t : Int} (h : t ∈ hits l v x) : ∃ e ∈ l, t = e.1 ∨ t = e.2.2 := by
  simp only [hits, List.mem_filterMap] at h
  obtain ⟨e, he, h⟩ := h
  refine ⟨e, he, ?_⟩
  unfold hitE at h
  split at h
  · exact .inr (by simpa using h.symm)
  · split at h
    · exact .inl (by simpa using h.symm)
    · cases h
theorem foldl_addI {l : List Int} : ∀ {o : List Int}, o.Pairwise (· < ·) → (l.foldl addI o).Pairwise (· < ·) ∧ (∀ u, u ∈ l.foldl addI o ↔ u ∈ o ∨ u ∈ l) := by
  induction l with
  | nil => intro o h; exact ⟨h, fun u => by simp⟩
  | cons x t ih =>
    intro o h
    obtain ⟨h1, h2⟩ := ih (o := addI o x) (addI_asc h)
    refine ⟨h1, fun u => ?_⟩
    rw [List.foldl_cons, h2, mem_addI, List.mem_cons]
    constructor
    · rintro ((h | h) | h) <;> simp [h]
    · rintro (h | h | h) <;> simp [h]
theorem foldl_addI_len {l : List Int} : ∀ {o : List Int}, (l.foldl addI o).length ≤ o.length + l.length := by
  induction l with
  | nil => intro o; simp
  | cons x t ih => intro o; have := ih (o := addI o x); have := addI_len (l := o) (x := x); simp only [List.foldl_cons, List.length_cons]; omega
theorem stepsL_asc (l : List Ed) (v x : Int) : (stepsL l v x).Pairwise (· < ·) := (foldl_addI List.Pairwise.nil).1
theorem stepsL_mem {l : List Ed} {v x u : Int} : u ∈ stepsL l v x ↔ u ∈ hits l v x := by
  rw [stepsL, (foldl_addI List.Pairwise.nil).2]; simp
theorem stepsL_len (l : List Ed) (v x : Int) : (stepsL l v x).length ≤ l.length := by
  have := foldl_addI_len (l := hits l v x) (o := []); have := hits_len l v x; simp only [stepsL, List.length_nil] at *; omega
theorem stepsL_take {l : List Ed} {v x : Int} {k : Nat} (h : k < l.length) :
    (∀ t, hitE v x l[k] = some t → stepsL (l.take (k + 1)) v x = addI (stepsL (l.take k) v x) t) ∧ (hitE v x l[k] = none → stepsL (l.take (k + 1)) v x = stepsL (l.take k) v x) := by
  unfold stepsL
  rw [hits_take h]
  constructor
  · intro t ht; rw [ht]; simp
  · intro ht; rw [ht]; simp
/-- Without the least int all that a step asks is symmetric. -/
theorem steps_back {l : List Ed} {v x t : Int} (h : t ∈ stepsL l v x) : v ∈ stepsL l t (-x) := by
  rw [stepsL_mem] at h ⊢
  simp only [hits, List.mem_filterMap] at h ⊢
  obtain ⟨e, he, h⟩ := h
  refine ⟨e, he, ?_⟩
  unfold hitE at h
  split at h
  · rename_i hc
    simp only [Bool.and_eq_true, decide_eq_true_eq] at hc
    cases h
    rw [hitE_bwd (by omega) (by omega) rfl, hc.2.2]
  · split at h
    · rename_i hc
      simp only [Bool.and_eq_true, decide_eq_true_eq] at hc
      cases h
      rw [hitE_fwd (by omega) hc.2.1 rfl, hc.2.2]
    · cases h
/-- The sorted list without repetitions is the one that insertion makes. -/
theorem stepsL_of {l : List Ed} {v x : Int} {s : List Int} (hs : s.Pairwise (· < ·)) (hm : ∀ u, u ∈ s ↔ u ∈ hits l v x) : s = stepsL l v x :=
  asc_ext hs (stepsL_asc l v x) fun u => by rw [hm, stepsL_mem]

/-! ### One step; reading words -/
def nextV (l : List Ed) (v x : Int) : Int := (stepsL l v x).headD (-1)
theorem nextV_none {l : List Ed} {v x : Int} (h : stepsL l v x = []) : nextV l v x = -1 := by rw [nextV, h]; rfl
theorem nextV_some {l : List Ed} {v x : Int} (h : 0 < (stepsL l v x).length) : nextV l v x = (stepsL l v x)[0] := by
  have hh : ∀ (m : List Int) (h : 0 < m.length), m.headD (-1) = m[0] := fun m h => by
    cases m with
    | nil => simp at h
    | cons a t => rfl
  exact hh _ h
theorem nextV_mem {l : List Ed} {v x : Int} : nextV l v x = -1 ∨ nextV l v x ∈ stepsL l v x := by
  rw [nextV]
  cases stepsL l v x with
  | nil => exact .inl rfl
  | cons a t => exact .inr (List.mem_cons_self ..)
/-- The vertex reached by the letters that can be read. -/
def readV (l : List Ed) : Int → List Int → Int
  | v, [] => v
  | v, x :: w => match decide (nextV l v x < 0) with
    | true => v
    | false => readV l (nextV l v x) w
/-- How many letters can be read. -/
def readC (l : List Ed) : Int → List Int → Nat
  | _, [] => 0
  | v, x :: w => match decide (nextV l v x < 0) with
    | true => 0
    | false => readC l (nextV l v x) w + 1
theorem readC_le (l : List Ed) : ∀ (w : List Int) (v : Int), readC l v w ≤ w.length
  | [], v => Nat.le_refl _
  | x :: w, v => by
    unfold readC
    split
    · exact Nat.zero_le _
    · have := readC_le l w (nextV l v x); simp only [List.length_cons]; omega
theorem read_stop {l : List Ed} {v x : Int} (w : List Int) (h : nextV l v x < 0) : readV l v (x :: w) = v ∧ readC l v (x :: w) = 0 := by
  simp only [readV, readC, decide_eq_true h, and_self]
theorem read_go {l : List Ed} {v x : Int} (w : List Int) (h : ¬ nextV l v x < 0) : readV l v (x :: w) = readV l (nextV l v x) w ∧ readC l v (x :: w) = readC l (nextV l v x) w + 1 := by
  simp only [readV, readC, decide_eq_false h, and_self]
/-- What is left to read at the place k. -/
theorem read_drop {w : List Int} {k : Nat} (h : k < w.length) : w.drop k = w[k] :: w.drop (k + 1) := List.drop_eq_getElem_cons h
/-- Words read one after the other. -/
theorem read_snoc (l : List Ed) (x : Int) : ∀ (w : List Int) (v : Int), (readC l v w = w.length → readC l v (w ++ [x]) = w.length + (match decide (nextV l (readV l v w) x < 0) with | true => 0 | false => 1) ∧ (¬ nextV l (readV l v w) x < 0 → readV l v (w ++ [x]) = nextV l (readV l v w) x)) ∧ (readC l v w ≠ w.length → readC l v (w ++ [x]) = readC l v w)
  | [], v => by
    refine ⟨fun _ => ?_, fun h => absurd rfl h⟩
    by_cases h : nextV l v x < 0
    · simp [readC, readV, h]
    · simp [readC, readV, h]
  | y :: w, v => by
    obtain ⟨i1, i2⟩ := read_snoc l x w (nextV l v y)
    by_cases h : nextV l v y < 0
    · have h1 := read_stop w h
      have h2 := read_stop (w ++ [x]) h
      rw [List.cons_append, h1.2, h2.2]
      exact ⟨fun h => by simp at h, fun _ => rfl⟩
    · have h1 := read_go w h
      have h2 := read_go (w ++ [x]) h
      rw [List.cons_append, h1.2, h2.2, h1.1, h2.1]
      simp only [List.length_cons, Nat.add_right_cancel_iff]
      refine ⟨fun hr => ?_, fun hr => by rw [i2 (by omega)]⟩
      obtain ⟨a, b⟩ := i1 hr
      exact ⟨by rw [a]; omega, b⟩
end Go.Proofs.YtpebiacdkfpnpaaGreat
