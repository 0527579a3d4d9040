/- Plain law of LoopWords: words by their length, those that can be read, those that lead back. Conditions: none. -/
import Derived.Test.YtpebiacdkfpnpaaBfs
import Derived.Test.YtpebiacdkfpnpaaWordMath
namespace Go.Proofs.Ytpebiacdkfpnpaa

/-! ### Words by their length, and those that lead back -/
/-- Whether x may follow the word w. -/
def okNext (w : List Int) (x : Int) : Bool := match w.getLast? with
  | none => true
  | some y => !inv y x
theorem okNext_nil (x : Int) : okNext [] x = true := rfl
theorem okNext_last {w : List Int} {x : Int} (h : 0 < w.length) : okNext w x = !inv (w.getD (w.length - 1) 0) x := by
  have : w.getLast? = some (w.getD (w.length - 1) 0) := by
    rw [List.getLast?_eq_getElem?, List.getD_eq_getElem?_getD, List.getElem?_eq_getElem (by omega)]; rfl
  rw [okNext, this]
/-- One letter more. -/
def extW (xs : List Int) (w : List Int) : List (List Int) := (xs.filter (okNext w)).map fun x => w ++ [x]
theorem extW_yes {xs w : List Int} {x : Int} (h : okNext w x = true) : extW (xs ++ [x]) w = extW xs w ++ [w ++ [x]] := by
  simp [extW, List.filter_append, h]
theorem extW_no {xs w : List Int} {x : Int} (h : okNext w x = false) : extW (xs ++ [x]) w = extW xs w := by
  simp [extW, List.filter_append, h]
theorem extW_nil (w : List Int) : extW [] w = [] := rfl
/-- The words with n letters. -/
def levelW (r : Nat) : Nat → List (List Int)
  | 0 => [[]]
  | n + 1 => (levelW r n).flatMap (extW (lettersL r))
/-- Those with fewer than n letters. -/
def belowW (r : Nat) : Nat → List (List Int)
  | 0 => []
  | n + 1 => belowW r n ++ levelW r n
theorem levelW_mem {r : Nat} : ∀ {n : Nat} {w : List Int}, w ∈ levelW r n → w.length = n ∧ ∀ x ∈ w, x ≠ 0 ∧ -(r : Int) ≤ x ∧ x ≤ r
  | 0, w, h => by simp [levelW] at h; subst h; simp
  | n + 1, w, h => by
    simp only [levelW, List.mem_flatMap, extW, List.mem_map, List.mem_filter] at h
    obtain ⟨u, hu, x, ⟨hx, _⟩, rfl⟩ := h
    obtain ⟨h1, h2⟩ := levelW_mem hu
    refine ⟨by simp [h1], fun y hy => ?_⟩
    rcases List.mem_append.1 hy with hy | hy
    · exact h2 y hy
    · simp at hy; rw [hy]; exact lettersL_mem hx
theorem flatMap_len {α β : Type} {f : α → List β} {c : Nat} {l : List α} (h : ∀ a ∈ l, (f a).length ≤ c) : (l.flatMap f).length ≤ l.length * c := by
  induction l with
  | nil => simp
  | cons a l ih =>
    have := ih fun b hb => h b (List.mem_cons_of_mem _ hb)
    have := h a (List.mem_cons_self ..)
    rw [List.flatMap_cons, List.length_append, List.length_cons, Nat.succ_mul]; omega
theorem extW_len (xs w : List Int) : (extW xs w).length ≤ xs.length := by
  simp only [extW, List.length_map]; exact List.length_filter_le _ _
theorem levelW_len {r : Nat} (hr : r ≤ 3) : ∀ n, (levelW r n).length ≤ 6 ^ n
  | 0 => by simp [levelW]
  | n + 1 => by
    have h1 := levelW_len hr n
    have h2 := flatMap_len (f := extW (lettersL r)) (c := 6) (l := levelW r n) fun w _ => Nat.le_trans (extW_len _ w) (by rw [lettersL_length]; omega)
    rw [levelW, Nat.pow_succ]
    exact Nat.le_trans h2 (Nat.mul_le_mul_right _ h1)
theorem belowW_len {r : Nat} (hr : r ≤ 3) : ∀ n, (belowW r n).length ≤ n * 6 ^ n
  | 0 => by simp [belowW]
  | n + 1 => by
    have h1 := belowW_len hr n
    have h2 := levelW_len hr n
    rw [belowW, List.length_append, Nat.pow_succ]
    have : n * 6 ^ n + 6 ^ n ≤ (n + 1) * (6 ^ n * 6) := by
      rw [← Nat.succ_mul]
      exact Nat.mul_le_mul_left _ (Nat.le_mul_of_pos_right _ (by omega))
    omega
def canRead (l : List Ed) (v : Int) (w : List Int) : Bool := decide (readC l v w = w.length)
def isLoop (l : List Ed) (v : Int) (w : List Int) : Bool := decide (readC l v w = w.length) && decide (readV l v w = v)
/-- What LoopWords hands back. -/
def loopsL (l : List Ed) (r : Nat) (v : Int) (most : Nat) : List (List Int) := (belowW r (most + 1)).filter (isLoop l v)
/-- The words of a length that can be read. -/
def layerW (l : List Ed) (r : Nat) (v : Int) (n : Nat) : List (List Int) := (levelW r n).filter (canRead l v)
/-- One letter more, where an edge leads on. -/
def extR (l : List Ed) (v : Int) (xs : List Int) (w : List Int) : List (List Int) := (xs.filter fun x => okNext w x && decide (0 ≤ nextV l (readV l v w) x)).map fun x => w ++ [x]
theorem extR_yes {l : List Ed} {v : Int} {xs w : List Int} {x : Int} (h : okNext w x = true) (h2 : 0 ≤ nextV l (readV l v w) x) : extR l v (xs ++ [x]) w = extR l v xs w ++ [w ++ [x]] := by
  simp [extR, List.filter_append, h, h2]
theorem extR_no {l : List Ed} {v : Int} {xs w : List Int} {x : Int} (h : okNext w x = false ∨ nextV l (readV l v w) x < 0) : extR l v (xs ++ [x]) w = extR l v xs w := by
  have : (okNext w x && decide (0 ≤ nextV l (readV l v w) x)) = false := by
    rcases h with h | h
    · rw [h, Bool.false_and]
    · rw [decide_eq_false (by omega), Bool.and_false]
  simp only [extR, List.filter_append, List.filter_cons, List.filter_nil, this, List.map_append]
  simp
theorem extR_nil (l : List Ed) (v : Int) (w : List Int) : extR l v [] w = [] := rfl
theorem ext_read {l : List Ed} {v : Int} (xs w : List Int) : (extW xs w).filter (canRead l v) = (match canRead l v w with | true => extR l v xs w | false => []) := by
  induction xs using snoc_ind with
  | h0 => cases canRead l v w <;> rfl
  | h1 xs x ih =>
    obtain ⟨h1, h2⟩ := read_snoc l x w v
    cases hc : canRead l v w with
    | true =>
      rw [hc] at ih
      simp only at ih ⊢
      have hr : readC l v w = w.length := by simpa [canRead] using hc
      cases ho : okNext w x with
      | false => rw [extW_no ho, extR_no (.inl ho), ih]
      | true =>
        rw [extW_yes ho, List.filter_append, ih]
        by_cases hn : nextV l (readV l v w) x < 0
        · have hf : canRead l v (w ++ [x]) = false := by
            have := (h1 hr).1
            simp only [decide_eq_true hn] at this
            simp only [canRead, decide_eq_false_iff_not, this, List.length_append, List.length_singleton]; omega
          rw [extR_no (.inr hn), List.filter_cons, hf]; simp
        · have ht : canRead l v (w ++ [x]) = true := by
            have := (h1 hr).1
            simp only [decide_eq_false hn] at this
            simp only [canRead, decide_eq_true_eq, this, List.length_append, List.length_singleton]
          rw [extR_yes ho (by omega), List.filter_cons, ht]; simp
    | false =>
      rw [hc] at ih
      simp only at ih ⊢
      have hr : readC l v w ≠ w.length := by simpa [canRead] using hc
      have hf : canRead l v (w ++ [x]) = false := by
        have := readC_le l w v
        simp only [canRead, decide_eq_false_iff_not, h2 hr, List.length_append, List.length_singleton]; omega
      cases ho : okNext w x with
      | false => rw [extW_no ho, ih]
      | true => rw [extW_yes ho, List.filter_append, ih, List.filter_cons, hf]; simp
theorem filter_flatMap' {α β : Type} (f : α → List β) (p : β → Bool) (l : List α) : (l.flatMap f).filter p = l.flatMap fun a => (f a).filter p := by
  induction l with
  | nil => rfl
  | cons a l ih => rw [List.flatMap_cons, List.filter_append, ih, List.flatMap_cons]
theorem layer_next (l : List Ed) (r : Nat) (v : Int) (n : Nat) : layerW l r v (n + 1) = (layerW l r v n).flatMap (extR l v (lettersL r)) := by
  unfold layerW
  rw [levelW, filter_flatMap']
  induction levelW r n with
  | nil => rfl
  | cons w t ih =>
    rw [List.flatMap_cons, ext_read, ih, List.filter_cons]
    cases canRead l v w <;> simp
theorem loop_read {l : List Ed} {v : Int} {w : List Int} : isLoop l v w = (canRead l v w && decide (readV l v w = v)) := rfl
/-- The loops of a length, out of the words of it that can be read. -/
theorem layer_loops (l : List Ed) (r : Nat) (v : Int) (n : Nat) : (levelW r n).filter (isLoop l v) = (layerW l r v n).filter fun w => decide (readV l v w = v) := by
  unfold layerW
  rw [List.filter_filter]
  congr 1
  funext w
  rw [loop_read, Bool.and_comm]
theorem layer_zero (l : List Ed) (r : Nat) (v : Int) : layerW l r v 0 = [[]] := rfl
end Go.Proofs.Ytpebiacdkfpnpaa
