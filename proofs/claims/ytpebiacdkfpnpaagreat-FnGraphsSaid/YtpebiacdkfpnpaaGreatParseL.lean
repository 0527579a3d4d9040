/- ParseGraph in plain terms: what the program reads and what the reference reads agree where either gives its text back. Conditions: none. -/
import Derived.Test.YtpebiacdkfpnpaaGreatNumP
import Derived.Test.YtpebiacdkfpnpaaGreatParseA
import Derived.Test.YtpebiacdkfpnpaaGreatGraphH
import Derived.Test.YtpebiacdkfpnpaaGreatLetOf
import Derived.Test.YtpebiacdkfpnpaaGreatCut
namespace Go.Proofs.YtpebiacdkfpnpaaGreat
open Go.RowKit

/-- The edge that the program reads: the part ahead, the part behind. -/
def readI (a : List UInt8) : List UInt8 → Ed
  | [] => (0, 0, 0)
  | b :: l => match decide (letOf b.toNat = 0) with
    | true => readI (a ++ [b]) l
    | false => (parseIV a, letOf b.toNat, parseIV l)
theorem readI_cons_no {a : List UInt8} {b : UInt8} {l : List UInt8} (h : letOf b.toNat = 0) : readI a (b :: l) = readI (a ++ [b]) l := by
  simp only [readI, decide_eq_true h]
theorem readI_cons_yes {a : List UInt8} {b : UInt8} {l : List UInt8} (h : ¬ letOf b.toNat = 0) : readI a (b :: l) = (parseIV a, letOf b.toNat, parseIV l) := by
  simp only [readI, decide_eq_false h]
def wordAt (s : List UInt8) (k : Nat) : List UInt8 := (cutB 32 s).getD k []
def rI (s : List UInt8) : Int := parseIV (wordAt s 0)
def nI (s : List UInt8) : Int := parseIV (wordAt s 1)
def lI (s : List UInt8) : List Ed := ((cutB 32 s).drop 2).map (readI [])
def rS (s : List UInt8) : Int := numS (wordAt s 0)
def nS (s : List UInt8) : Int := match decide (1 < (cutB 32 s).length) with
  | true => numS (wordAt s 1)
  | false => 0
def lS (s : List UInt8) : List Ed := ((cutB 32 s).drop 2).map (readS [])
/-- Whether the text is that of a graph. -/
def pgOk (s : List UInt8) : Bool := decide (s ≠ []) && decide (fmtG (rS s) (nS s) (lS s) = s)
def pgR (s : List UInt8) : Int := match pgOk s with
  | true => rS s
  | false => 0
def pgN (s : List UInt8) : Int := match pgOk s with
  | true => nS s
  | false => 0
def pgL (s : List UInt8) : List Ed := match pgOk s with
  | true => lS s
  | false => []
theorem fmtI_bytes (n : Int) : ∀ b ∈ fmtI n, isDig b = true ∨ b = 45 := by
  obtain ⟨d, _, hd, h⟩ := fmtI_form n
  intro b hb
  rcases h with h | h
  · rw [h] at hb; exact .inl (hd b hb)
  · rw [h] at hb
    rcases List.mem_cons.1 hb with hb | hb
    · exact .inr hb
    · exact .inl (hd b hb)
theorem isDig_nat {b : UInt8} (h : isDig b = true ∨ b = 45) : (48 ≤ b.toNat ∧ b.toNat ≤ 57) ∨ b.toNat = 45 := by
  rcases h with h | h
  · exact .inl (of_decide_eq_true h)
  · subst h; exact .inr rfl
theorem isDig_facts {b : UInt8} (h : isDig b = true ∨ b = 45) : b ≠ 32 ∧ letOf b.toNat = 0 ∧ isLow b = false := by
  have hn := isDig_nat h
  refine ⟨?_, ?_, ?_⟩
  · intro e; subst e
    have : (32 : UInt8).toNat = 32 := rfl
    omega
  · unfold letOf; rw [if_neg (by omega), if_neg (by omega)]
  · unfold isLow; rw [decide_eq_false_iff_not]; omega
theorem chr_facts {x : Int} (h1 : 1 ≤ x) (h2 : x ≤ 3) : chr x ≠ 32 ∧ letOf (chr x).toNat = x ∧ isLow (chr x) = true ∧ ((chr x).toNat : Int) - 96 = x := by
  have h : x = 1 ∨ x = 2 ∨ x = 3 := by omega
  rcases h with rfl | rfl | rfl <;> decide
/-- The text of an edge without the space ahead. -/
def edW (e : Ed) : List UInt8 := fmtI e.1 ++ chr e.2.1 :: fmtI e.2.2
theorem edTxt_eq (e : Ed) : edTxt e = 32 :: edW e := by simp [edTxt, edW]
theorem cut_free {c : UInt8} : ∀ (x : List UInt8) (st : List (List UInt8) × List UInt8), (∀ b ∈ x, b ≠ c) → x.foldl (cutStep c) st = (st.1, st.2 ++ x) := by
  intro x
  induction x with
  | nil => intro st _; simp
  | cons b x ih =>
    intro st h
    rw [List.foldl_cons, cutStep_no (h b (by simp)), ih _ (fun b' hb' => h b' (by simp [hb']))]
    simp
theorem edW_free {e : Ed} (h1 : 1 ≤ e.2.1) (h2 : e.2.1 ≤ 3) : ∀ b ∈ edW e, b ≠ 32 := by
  intro b hb
  rcases List.mem_append.1 hb with hb | hb
  · exact (isDig_facts (fmtI_bytes _ b hb)).1
  · rcases List.mem_cons.1 hb with hb | hb
    · rw [hb]; exact (chr_facts h1 h2).1
    · exact (isDig_facts (fmtI_bytes _ b hb)).1
theorem cut_edges : ∀ (l : List Ed) (st : List (List UInt8) × List UInt8), (∀ e ∈ l, 1 ≤ e.2.1 ∧ e.2.1 ≤ 3) →
    ((l.flatMap edTxt).foldl (cutStep 32) st).1 ++ [((l.flatMap edTxt).foldl (cutStep 32) st).2] = st.1 ++ [st.2] ++ l.map edW := by
  intro l
  induction l with
  | nil => intro st _; simp
  | cons e l ih =>
    intro st h
    have he := h e (by simp)
    rw [List.flatMap_cons, List.foldl_append, edTxt_eq, List.foldl_cons, cutStep_yes rfl, cut_free _ _ (edW_free he.1 he.2), ih _ (fun e' h' => h e' (by simp [h']))]
    simp
theorem isG_mem {r n : Int} {l : List Ed} (h : isG r n l = true) : ∀ e ∈ l, 0 ≤ e.1 ∧ e.1 ≤ n - 1 ∧ 1 ≤ e.2.1 ∧ e.2.1 ≤ r ∧ 0 ≤ e.2.2 ∧ e.2.2 ≤ n - 1 := by
  intro e he
  obtain ⟨k, hk, rfl⟩ := List.getElem_of_mem he
  exact isG_edge h hk
theorem cut_fmtG {r n : Int} {l : List Ed} (h : isG r n l = true) : cutB 32 (fmtG r n l) = fmtI r :: fmtI n :: l.map edW := by
  obtain ⟨hr, hn, _, _⟩ := isG_parts h
  have hm := isG_mem h
  rw [fmtG_yes h, headG]
  unfold cutB cutSt
  rw [List.foldl_append, cut_edges l _ (fun e he => by have := hm e he; omega), List.foldl_append, List.foldl_append, cut_free (fmtI r) _ (fun b hb => (isDig_facts (fmtI_bytes _ b hb)).1), List.foldl_cons, cutStep_yes rfl, List.foldl_nil, cut_free (fmtI n) _ (fun b hb => (isDig_facts (fmtI_bytes _ b hb)).1)]
  simp
theorem parse_small {x : Int} (h0 : 0 ≤ x) (h1 : x ≤ 40) : parseIV (fmtI x) = x ∧ numS (fmtI x) = x := by
  have h := parse_fmtI x
  have ht : parseIOk (fmtI x) = true := by rw [h.1]; exact decide_eq_true (by omega)
  exact ⟨h.2 ht, by rw [numS_yes ht]; exact h.2 ht⟩
theorem readI_skip : ∀ (x a l : List UInt8), (∀ b ∈ x, letOf b.toNat = 0) → readI a (x ++ l) = readI (a ++ x) l := by
  intro x
  induction x with
  | nil => intro a l _; simp
  | cons b x ih =>
    intro a l h
    rw [List.cons_append, readI_cons_no (h b (by simp)), ih _ _ (fun b' hb' => h b' (by simp [hb']))]
    simp
theorem readS_skip : ∀ (x a l : List UInt8), (∀ b ∈ x, isLow b = false) → readS a (x ++ l) = readS (a ++ x) l := by
  intro x
  induction x with
  | nil => intro a l _; simp
  | cons b x ih =>
    intro a l h
    have hb := h b (by simp)
    rw [List.cons_append]
    have : readS a (b :: (x ++ l)) = readS (a ++ [b]) (x ++ l) := by simp only [readS, hb]
    rw [this, ih _ _ (fun b' hb' => h b' (by simp [hb']))]
    simp
theorem read_edW {e : Ed} (h : 0 ≤ e.1 ∧ e.1 ≤ 39 ∧ 1 ≤ e.2.1 ∧ e.2.1 ≤ 3 ∧ 0 ≤ e.2.2 ∧ e.2.2 ≤ 39) : readI [] (edW e) = e ∧ readS [] (edW e) = e := by
  obtain ⟨f, x, t⟩ := e
  simp only at h
  obtain ⟨_, hc2, hc3, hc4⟩ := chr_facts (x := x) (by omega) (by omega)
  obtain ⟨pf1, pf2⟩ := parse_small (x := f) (by omega) (by omega)
  obtain ⟨pt1, pt2⟩ := parse_small (x := t) (by omega) (by omega)
  unfold edW
  refine ⟨?_, ?_⟩
  · rw [readI_skip _ _ _ (fun b hb => (isDig_facts (fmtI_bytes _ b hb)).2.1), readI_cons_yes (by rw [hc2]; omega), hc2, List.nil_append]
    simp only [pf1, pt1]
  · rw [readS_skip _ _ _ (fun b hb => (isDig_facts (fmtI_bytes _ b hb)).2.2), List.nil_append]
    simp only [readS, hc3]
    rw [hc4, pf2, pt2]
theorem map_self {l : List Ed} {f : Ed → Ed} (h : ∀ e ∈ l, f e = e) : l.map f = l := by
  conv => rhs; rw [← List.map_id l]
  exact List.map_congr_left h
/-- The text of a graph is read back, by either. -/
theorem read_back {r n : Int} {l : List Ed} (h : isG r n l = true) :
    (rI (fmtG r n l) = r ∧ nI (fmtG r n l) = n ∧ lI (fmtG r n l) = l) ∧ (rS (fmtG r n l) = r ∧ nS (fmtG r n l) = n ∧ lS (fmtG r n l) = l) ∧ (cutB 32 (fmtG r n l)).length = l.length + 2 := by
  obtain ⟨hr, hn, hl, _⟩ := isG_parts h
  have hm := isG_mem h
  have hc := cut_fmtG h
  obtain ⟨pr1, pr2⟩ := parse_small (x := r) (by omega) (by omega)
  obtain ⟨pn1, pn2⟩ := parse_small (x := n) (by omega) (by omega)
  have hlen : (cutB 32 (fmtG r n l)).length = l.length + 2 := by rw [hc]; simp
  have w0 : wordAt (fmtG r n l) 0 = fmtI r := by unfold wordAt; rw [hc]; rfl
  have w1 : wordAt (fmtG r n l) 1 = fmtI n := by unfold wordAt; rw [hc]; rfl
  have hd : (cutB 32 (fmtG r n l)).drop 2 = l.map edW := by rw [hc]; rfl
  refine ⟨⟨?_, ?_, ?_⟩, ⟨?_, ?_, ?_⟩, hlen⟩
  · unfold rI; rw [w0]; exact pr1
  · unfold nI; rw [w1]; exact pn1
  · unfold lI; rw [hd, List.map_map]; exact map_self fun e he => (read_edW (by have := hm e he; omega)).1
  · unfold rS; rw [w0]; exact pr2
  · unfold nS; rw [decide_eq_true (by omega : 1 < (cutB 32 (fmtG r n l)).length), w1]; exact pn2
  · unfold lS; rw [hd, List.map_map]; exact map_self fun e he => (read_edW (by have := hm e he; omega)).2
theorem fmtG_ok {r n : Int} {l : List Ed} {s : List UInt8} (h0 : s ≠ []) (h : fmtG r n l = s) : isG r n l = true := by
  cases hg : isG r n l with
  | true => rfl
  | false => rw [fmtG_no hg] at h; exact absurd h.symm h0
theorem pg_yes {s : List UInt8} (h0 : s ≠ []) (h : fmtG (rS s) (nS s) (lS s) = s) : pgOk s = true ∧ pgR s = rS s ∧ pgN s = nS s ∧ pgL s = lS s := by
  have e : pgOk s = true := by simp only [pgOk, decide_eq_true h0, decide_eq_true h, Bool.and_self]
  exact ⟨e, by simp only [pgR, e], by simp only [pgN, e], by simp only [pgL, e]⟩
theorem pg_off {s : List UInt8} (e : pgOk s = false) : pgOk s = false ∧ pgR s = 0 ∧ pgN s = 0 ∧ pgL s = [] :=
  ⟨e, by simp only [pgR, e], by simp only [pgN, e], by simp only [pgL, e]⟩
theorem pg_no {s : List UInt8} (h : s = [] ∨ fmtG (rS s) (nS s) (lS s) ≠ s) : pgOk s = false ∧ pgR s = 0 ∧ pgN s = 0 ∧ pgL s = [] := by
  refine pg_off ?_
  rcases h with h | h
  · simp only [pgOk, decide_eq_false (not_not_intro h : ¬ s ≠ []), Bool.false_and]
  · simp only [pgOk, decide_eq_false h, Bool.and_false]
/-- The program's candidate gives the text back: the answer is that candidate. -/
theorem pgI_yes {s : List UInt8} (h0 : s ≠ []) (h : fmtG (rI s) (nI s) (lI s) = s) : pgOk s = true ∧ pgR s = rI s ∧ pgN s = nI s ∧ pgL s = lI s := by
  have hg := fmtG_ok h0 h
  obtain ⟨_, ⟨b1, b2, b3⟩, _⟩ := read_back hg
  rw [h] at b1 b2 b3
  obtain ⟨c0, c1, c2, c3⟩ := pg_yes h0 (by rw [b1, b2, b3]; exact h)
  exact ⟨c0, c1.trans b1, c2.trans b2, c3.trans b3⟩
theorem pgI_of {s : List UInt8} (h : pgOk s = true) : s ≠ [] ∧ fmtG (rI s) (nI s) (lI s) = s ∧ 2 ≤ (cutB 32 s).length ∧ (cutB 32 s).length ≤ 122 ∧ isG (pgR s) (pgN s) (pgL s) = true ∧ fmtG (pgR s) (pgN s) (pgL s) = s := by
  simp only [pgOk, Bool.and_eq_true, decide_eq_true_eq] at h
  obtain ⟨h0, h1⟩ := h
  have hg := fmtG_ok h0 h1
  obtain ⟨_, _, hl, _⟩ := isG_parts hg
  obtain ⟨⟨a1, a2, a3⟩, _, hlen⟩ := read_back hg
  obtain ⟨_, c1, c2, c3⟩ := pg_yes h0 h1
  rw [h1] at a1 a2 a3 hlen
  exact ⟨h0, by rw [a1, a2, a3]; exact h1, by omega, by omega, by rw [c1, c2, c3]; exact hg, by rw [c1, c2, c3]; exact h1⟩
/-- It does not: there is no answer. -/
theorem pgI_no {s : List UInt8} (h : s = [] ∨ fmtG (rI s) (nI s) (lI s) ≠ s ∨ (cutB 32 s).length < 2 ∨ 122 < (cutB 32 s).length) : pgOk s = false ∧ pgR s = 0 ∧ pgN s = 0 ∧ pgL s = [] := by
  refine pg_off ?_
  cases e : pgOk s with
  | false => rfl
  | true =>
    obtain ⟨h1, h2, h3, h4, _⟩ := pgI_of e
    rcases h with h | h | h | h
    · exact absurd h h1
    · exact absurd h2 h
    · omega
    · omega
theorem pgL_len (s : List UInt8) : (pgL s).length ≤ 120 := by
  cases e : pgOk s with
  | false => rw [(pg_off e).2.2.2]; simp
  | true => exact (isG_parts (pgI_of e).2.2.2.2.1).2.2.1
/-- The text of a graph is read as that graph. -/
theorem pg_fmt {r n : Int} {l : List Ed} (h : isG r n l = true) : pgOk (fmtG r n l) = true ∧ pgR (fmtG r n l) = r ∧ pgN (fmtG r n l) = n ∧ pgL (fmtG r n l) = l := by
  obtain ⟨_, ⟨b1, b2, b3⟩, _⟩ := read_back h
  have h0 : fmtG r n l ≠ [] := by rw [fmtG_yes h]; simp [headG]
  obtain ⟨c0, c1, c2, c3⟩ := pg_yes h0 (by rw [b1, b2, b3])
  exact ⟨c0, c1.trans b1, c2.trans b2, c3.trans b3⟩
theorem pg_empty : pgOk [] = false ∧ pgR [] = 0 ∧ pgN [] = 0 ∧ pgL [] = [] := pg_no (.inl rfl)
end Go.Proofs.YtpebiacdkfpnpaaGreat
