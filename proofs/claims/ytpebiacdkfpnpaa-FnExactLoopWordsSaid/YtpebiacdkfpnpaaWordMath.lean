/- Words as lists of ints: inverse letters, reduction. Plain Lean, no program. Conditions: none. -/
import Derived.Test.YtpebiacdkfpnpaaBase
namespace Go.Proofs.Ytpebiacdkfpnpaa

/-- Two letters are inverse to each other: 0 and the least int are inverse to none. -/
def inv (a b : Int) : Bool := decide (a ≠ 0 ∧ a ≠ -9223372036854775808 ∧ b ≠ -9223372036854775808 ∧ b = -a)
/-- One letter more, cancelled against the last one if they are inverse. -/
def push (out : List Int) (x : Int) : List Int := match out.getLast? with
  | some y => match inv y x with
    | true => out.dropLast
    | false => out ++ [x]
  | none => out ++ [x]
/-- The reduced form. -/
def red (l : List Int) : List Int := l.foldl push []
theorem push_nil (x : Int) : push [] x = [x] := rfl
theorem push_inv {o : List Int} {y x : Int} (h : inv y x = true) : push (o ++ [y]) x = o := by simp [push, h]
theorem push_not {o : List Int} {y x : Int} (h : inv y x = false) : push (o ++ [y]) x = o ++ [y] ++ [x] := by simp [push, h]
theorem red_snoc (l : List Int) (x : Int) : red (l ++ [x]) = push (red l) x := by simp [red]
theorem red_append (l m : List Int) : red (l ++ m) = m.foldl push (red l) := by simp [red]
theorem push_length (o : List Int) (x : Int) : (push o x).length ≤ o.length + 1 := by
  rcases List.eq_nil_or_concat o with rfl | ⟨o', y, rfl⟩
  · simp [push_nil]
  · rw [List.concat_eq_append]
    cases h : inv y x with
    | true => rw [push_inv h]; simp; omega
    | false => rw [push_not h]; simp
theorem foldl_push_length (l : List Int) : ∀ o : List Int, (l.foldl push o).length ≤ o.length + l.length := by
  induction l with
  | nil => intro o; simp
  | cons x l ih => intro o; have := ih (push o x); have := push_length o x; simp only [List.foldl_cons, List.length_cons]; omega
theorem red_length (l : List Int) : (red l).length ≤ l.length := by have := foldl_push_length l []; simpa [red] using this
theorem push_mem {o : List Int} {x y : Int} (h : y ∈ push o x) : y ∈ o ∨ y = x := by
  rcases List.eq_nil_or_concat o with rfl | ⟨o', z, rfl⟩
  · rw [push_nil] at h; simp at h; exact .inr h
  · rw [List.concat_eq_append] at h ⊢
    cases hi : inv z x with
    | true => rw [push_inv hi] at h; exact .inl (List.mem_append_left _ h)
    | false =>
      rw [push_not hi, List.mem_append] at h
      rcases h with h | h
      · exact .inl h
      · simp at h; exact .inr h
theorem foldl_push_mem (l : List Int) : ∀ (o : List Int) (y : Int), y ∈ l.foldl push o → y ∈ o ∨ y ∈ l := by
  induction l with
  | nil => intro o y h; exact .inl h
  | cons x l ih =>
    intro o y h
    rcases ih _ _ h with h | h
    · rcases push_mem h with h | h
      · exact .inl h
      · exact .inr (by rw [h]; exact List.mem_cons_self)
    · exact .inr (List.mem_cons_of_mem _ h)
theorem red_mem {l : List Int} {y : Int} (h : y ∈ red l) : y ∈ l := by
  rcases foldl_push_mem l [] y h with h | h
  · cases h
  · exact h
/-- The inverse of a word. The least int, which has no negative, is taken to be its own. -/
def neg (x : Int) : Int := if x = -9223372036854775808 then x else -x
def invW (l : List Int) : List Int := (l.map neg).reverse
theorem inv_symm {a b : Int} (h : inv a b = true) : inv b a = true := by
  simp only [inv, decide_eq_true_eq] at h ⊢
  omega
theorem inv_unique {a b c : Int} (h : inv a b = true) (k : inv a c = true) : b = c := by
  simp only [inv, decide_eq_true_eq] at h k
  omega
/-- No letter and its inverse side by side. -/
def Reduced : List Int → Prop
  | [] => True
  | [_] => True
  | a :: b :: l => inv a b = false ∧ Reduced (b :: l)
theorem reduced_snoc2 {l : List Int} {y x : Int} : Reduced (l ++ [y] ++ [x]) ↔ Reduced (l ++ [y]) ∧ inv y x = false := by
  induction l with
  | nil => simp [Reduced]
  | cons a l ih =>
    cases l with
    | nil => simp [Reduced]
    | cons b l =>
      simp only [List.cons_append, Reduced] at ih ⊢
      constructor
      · rintro ⟨h1, h2⟩; exact ⟨⟨h1, (ih.1 h2).1⟩, (ih.1 h2).2⟩
      · rintro ⟨⟨h1, h2⟩, h3⟩; exact ⟨h1, ih.2 ⟨h2, h3⟩⟩
theorem reduced_pop {l : List Int} {y : Int} (h : Reduced (l ++ [y])) : Reduced l := by
  rcases List.eq_nil_or_concat l with rfl | ⟨l', z, rfl⟩
  · trivial
  · rw [List.concat_eq_append] at h ⊢
    exact (reduced_snoc2.1 h).1
theorem push_reduced {o : List Int} {x : Int} (h : Reduced o) : Reduced (push o x) := by
  rcases List.eq_nil_or_concat o with rfl | ⟨o', y, rfl⟩
  · rw [push_nil]; trivial
  · rw [List.concat_eq_append] at h ⊢
    cases hi : inv y x with
    | true => rw [push_inv hi]; exact reduced_pop h
    | false => rw [push_not hi]; exact reduced_snoc2.2 ⟨h, hi⟩
theorem foldl_push_reduced (l : List Int) : ∀ o : List Int, Reduced o → Reduced (l.foldl push o) := by
  induction l with
  | nil => intro o h; exact h
  | cons x l ih => intro o h; exact ih _ (push_reduced h)
theorem red_reduced (l : List Int) : Reduced (red l) := foldl_push_reduced l [] trivial
/-- A letter and its inverse, pushed one after the other, do nothing. -/
theorem push_push {o : List Int} {y x : Int} (ho : Reduced o) (h : inv y x = true) : push (push o y) x = o := by
  rcases List.eq_nil_or_concat o with rfl | ⟨o', z, rfl⟩
  · rw [push_nil]; exact push_inv (o := []) h
  · rw [List.concat_eq_append] at ho ⊢
    cases hi : inv z y with
    | true =>
      rw [push_inv hi]
      obtain rfl : z = x := inv_unique (inv_symm hi) h
      rcases List.eq_nil_or_concat o' with rfl | ⟨o2, u, rfl⟩
      · rfl
      · rw [List.concat_eq_append] at ho ⊢
        exact push_not (reduced_snoc2.1 ho).2
    | false => rw [push_not hi, push_inv h]
theorem foldl_push_push {o : List Int} (ho : Reduced o) (l : List Int) (x : Int) : (push l x).foldl push o = push (l.foldl push o) x := by
  rcases List.eq_nil_or_concat l with rfl | ⟨l', y, rfl⟩
  · rw [push_nil]; rfl
  · rw [List.concat_eq_append]
    cases hi : inv y x with
    | true =>
      rw [push_inv hi, List.foldl_append]
      exact (push_push (foldl_push_reduced _ _ ho) hi).symm
    | false => rw [push_not hi, List.foldl_append]; rfl
theorem foldl_push_red {o : List Int} (ho : Reduced o) (l : List Int) : (red l).foldl push o = l.foldl push o := by
  induction l using snoc_ind with
  | h0 => rfl
  | h1 l x ih => rw [red_snoc, foldl_push_push ho, ih, List.foldl_append]; rfl
/-- A reduced word is its own reduced form. -/
theorem red_of_reduced {l : List Int} (h : Reduced l) : red l = l := by
  induction l using snoc_ind with
  | h0 => rfl
  | h1 l x ih =>
    rw [red_snoc, ih (reduced_pop h)]
    rcases List.eq_nil_or_concat l with rfl | ⟨l', y, rfl⟩
    · rfl
    · rw [List.concat_eq_append] at h ⊢
      exact push_not (reduced_snoc2.1 h).2
theorem red_red (l : List Int) : red (red l) = red l := red_of_reduced (red_reduced l)
theorem red_append_red (l m : List Int) : red (l ++ red m) = red (l ++ m) := by rw [red_append, red_append, foldl_push_red (red_reduced l)]
theorem red_red_append (l m : List Int) : red (red l ++ m) = red (l ++ m) := by rw [red_append, red_append, red_red]
theorem invW_length (l : List Int) : (invW l).length = l.length := by simp [invW]
end Go.Proofs.Ytpebiacdkfpnpaa
