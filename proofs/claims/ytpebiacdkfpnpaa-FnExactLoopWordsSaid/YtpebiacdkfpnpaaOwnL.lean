/- Slices of slices of ints of the call's own: rows apart from one another; contracts of markIntSS and heldIntSS. Conditions: at most 2^20 letters and words in all. -/
import Derived.Test.YtpebiacdkfpnpaaListA
namespace Go.Proofs.Ytpebiacdkfpnpaa
open Go.RowKit

/-- The slice v is a row of the call's own (its block from B on), its elements rows of the call's own, all apart, that read as ls. -/
def OwnL (w : World) (B : Nat) (v : Value) (ls : List (List Int)) : Prop :=
  ∃ g cap vs, v = .slice (some ⟨g, 0, none⟩) ls.length cap ∧ w.ownsRow B 33 1 v ls.length vs ∧
    (∀ i (h : i < ls.length), ∃ vi, vs[i]? = some vi ∧ OwnI w B vi ls[i] ∧ vi.ownBlock ≠ some g) ∧
    ∀ (i j : Nat) (vi vj : Value), i < j → vs[i]? = some vi → vs[j]? = some vj → vi.ownBlock ≠ vj.ownBlock
theorem OwnL.keep {w w' : World} {B : Nat} {v : Value} {ls : List (List Int)} (h : OwnL w B v ls) (hB : Below w.heap.size w w') : OwnL w' B v ls := by
  obtain ⟨g, cap, vs, rfl, ho, hr, hp⟩ := h
  refine ⟨g, cap, vs, rfl, ownsRow_keep ho hB, fun i hi => ?_, hp⟩
  obtain ⟨vi, h1, h2, h3⟩ := hr i hi
  exact ⟨vi, h1, h2.keep hB, h3⟩
theorem OwnL.base {w : World} {B B' : Nat} {v : Value} {ls : List (List Int)} (h : OwnL w B v ls) (hb : B' ≤ B) : OwnL w B' v ls := by
  obtain ⟨g, cap, vs, rfl, ho, hr, hp⟩ := h
  refine ⟨g, cap, vs, rfl, ownsRow_base ho hb, fun i hi => ?_, hp⟩
  obtain ⟨vi, h1, h2, h3⟩ := hr i hi
  exact ⟨vi, h1, h2.base hb, h3⟩
theorem OwnL.rows {w : World} {B : Nat} {v : Value} {ls : List (List Int)} (h : OwnL w B v ls) : Rows2 w v ls := by
  obtain ⟨g, cap, vs, rfl, ho, hr, hp⟩ := h
  have hpt := ownsRow_parts ho
  refine ⟨g, 0, cap, rfl, hpt.2.2.1, hpt.2.1, fun i hi => ?_⟩
  obtain ⟨vi, h1, h2, _⟩ := hr i hi
  exact ⟨vi, by rw [Nat.zero_add, ho.cellAt i (by omega)]; exact h1, h2.ints⟩
theorem OwnL.none_ {w : World} {B : Nat} (hb : B ≤ w.heap.size) : OwnL (w.alloc (.cells #[] 33 (0, 0))) B (.slice (some ⟨w.heap.size, 0, none⟩) 0 0) [] :=
  ⟨_, _, [], rfl, World.ownsRow_made _ _ _ hb (by decide) rfl, fun i h => absurd h (Nat.not_lt_zero _), fun i j vi vj _ h => by simp at h⟩
/-- One row more. -/
theorem OwnL.push {w w2 w3 : World} {B g cap g' cap' : Nat} {ls : List (List Int)} {l9 : List Int} {vs : List Value} {v9 : Value}
    (ho : w.ownsRow B 33 1 (.slice (some ⟨g, 0, none⟩) ls.length cap) ls.length vs)
    (hr : ∀ i (h : i < ls.length), ∃ vi, vs[i]? = some vi ∧ OwnI w B vi ls[i] ∧ vi.ownBlock ≠ some g)
    (hp : ∀ (i j : Nat) (vi vj : Value), i < j → vs[i]? = some vi → vs[j]? = some vj → vi.ownBlock ≠ vj.ownBlock)
    (hb2 : Below w.heap.size w w2) (o9 : OwnI w2 w.heap.size v9 l9) (hBw : B ≤ w.heap.size)
    (hown' : w3.ownsRow B 33 1 (.slice (some ⟨g', 0, none⟩) (ls.length + 1) cap') (ls.length + 1) (vs ++ [v9]))
    (hgrow : (w2.alloc (.cells #[v9] 33 (0, 0))).grownBy w3 (some g)) (hat : g' = g ∨ g' = (w2.alloc (.cells #[v9] 33 (0, 0))).heap.size) :
    OwnL w3 B (.slice (some ⟨g', 0, none⟩) (ls.length + 1) cap') (ls ++ [l9]) := by
  have hlen : (ls ++ [l9]).length = ls.length + 1 := by simp
  have hvl : vs.length = ls.length := by simpa using ho.1
  have hg := ownsRow_parts ho
  obtain ⟨k9, hk9, hlo9, hhi9⟩ := o9.block
  have hsz : w.heap.size ≤ w2.heap.size := hb2.size
  have hal : Below w2.heap.size w2 (w2.alloc (.cells #[v9] 33 (0, 0))) := (Below.refl _ _).alloc (Nat.le_refl _) _
  have hold : ∀ i (h : i < ls.length), ∃ vi, vs[i]? = some vi ∧ OwnI w3 B vi ls[i] ∧ vi.ownBlock ≠ some g' ∧ ∃ k, vi.ownBlock = some k ∧ k < w.heap.size := fun i h => by
    obtain ⟨vi, h1, h2, h3⟩ := hr i h
    obtain ⟨k, hk, _, hkhi⟩ := h2.block
    refine ⟨vi, h1, ((h2.keep hb2).keep hal).grown hgrow h3, ?_, k, hk, hkhi⟩
    rcases hat with rfl | rfl
    · exact h3
    · rw [hk]; simp; omega
  refine ⟨g', cap', vs ++ [v9], by rw [hlen], by rw [hlen]; exact hown', fun i hi => ?_, fun i j vi vj hij h1 h2 => ?_⟩
  · by_cases hil : i < ls.length
    · obtain ⟨vi, h1, h2, h3, _⟩ := hold i hil
      refine ⟨vi, by rw [List.getElem?_append_left (by omega)]; exact h1, ?_, h3⟩
      rw [List.getElem_append_left hil]; exact h2
    · obtain rfl : i = ls.length := by omega
      refine ⟨v9, by rw [List.getElem?_append_right (by omega), hvl, Nat.sub_self]; rfl, ?_, ?_⟩
      · rw [List.getElem_append_right (by omega)]
        simp only [Nat.sub_self, List.getElem_cons_zero]
        refine ((o9.base hBw).keep hal).grown hgrow ?_
        rw [hk9]; simp; omega
      · rw [hk9]
        rcases hat with rfl | rfl
        · simp; omega
        · simp; omega
  · have hj : j < ls.length + 1 := by
      have := (List.getElem?_eq_some_iff.1 h2).1
      simpa [hvl] using this
    by_cases hjl : j < ls.length
    · rw [List.getElem?_append_left (by omega)] at h1 h2
      exact hp i j vi vj hij h1 h2
    · obtain rfl : j = ls.length := by omega
      rw [List.getElem?_append_left (by omega)] at h1
      rw [List.getElem?_append_right (by omega), hvl, Nat.sub_self] at h2
      simp only [List.getElem?_cons_zero, Option.some.injEq] at h2
      subst h2
      obtain ⟨vi', h3, _, _, k, hk, hkl⟩ := hold i (by omega)
      rw [h1] at h3
      cases h3
      rw [hk, hk9]; simp; omega
/-- What markIntSS writes. -/
def marksL (k : Int) : List (List Int) → List (List Int)
  | [] => []
  | l :: ls => marks k l.length :: marksL (k + l.length) ls
theorem marksL_length (ls : List (List Int)) : ∀ k, (marksL k ls).length = ls.length := by
  induction ls with
  | nil => intro k; rfl
  | cons l ls ih => intro k; simp only [marksL, List.length_cons, ih]
theorem marksL_get (ls : List (List Int)) : ∀ (k : Int) (i : Nat) (h : i < ls.length), (marksL k ls)[i]? = some (marks (k + (totL (ls.take i) : Nat)) ls[i].length) := by
  induction ls with
  | nil => intro k i h; simp at h
  | cons l ls ih =>
    intro k i h
    cases i with
    | zero => simp [marksL, totL]
    | succ i =>
      have hi : i < ls.length := by simpa using h
      have := ih (k + l.length) i hi
      simp only [marksL, List.getElem?_cons_succ, this, List.take_succ_cons, List.getElem_cons_succ]
      have e : totL (l :: ls.take i) = l.length + totL (ls.take i) := by simp [totL]
      rw [e]
      congr 2
      omega
theorem totL_marks (ls : List (List Int)) : ∀ k, totL (marksL k ls) = totL ls := by
  induction ls with
  | nil => intro k; rfl
  | cons l ls ih =>
    intro k
    have := ih (k + l.length)
    simp only [totL, marksL, List.map_cons, List.sum_cons, marks_length] at *
    rw [this]
/-- What row i holds when the first k are marked. -/
def rowAt (k0 : Int) (ls : List (List Int)) (k i : Nat) : List Int := match decide (i < k) with
  | true => marks (k0 + (totL (ls.take i) : Nat)) (ls.getD i []).length
  | false => ls.getD i []
theorem rowAt_yes {k0 : Int} {ls : List (List Int)} {k i : Nat} (h : i < k) : rowAt k0 ls k i = marks (k0 + (totL (ls.take i) : Nat)) (ls.getD i []).length := by
  have : decide (i < k) = true := decide_eq_true h
  simp only [rowAt, this]
theorem rowAt_no {k0 : Int} {ls : List (List Int)} {k i : Nat} (h : ¬ i < k) : rowAt k0 ls k i = ls.getD i [] := by
  have : decide (i < k) = false := decide_eq_false h
  simp only [rowAt, this]
theorem getD_row {ls : List (List Int)} {i : Nat} (h : i < ls.length) : ls.getD i [] = ls[i] := by simp [List.getD_eq_getElem?_getD, h]
theorem totL_le_take {ls : List (List Int)} {k : Nat} (h : k < ls.length) : totL (ls.take k) + ls[k].length ≤ totL ls := by
  have := totL_mono (ls := ls) (k + 1)
  rw [totL_take h] at this; omega
set_option maxHeartbeats 800000 in
theorem markIntSS_any (v : Value) (ls : List (List Int)) (B : Nat) (k0 : Int) (w : World) (h : OwnL w B v ls) (h0 : 0 ≤ k0) (h1 : k0 + totL ls ≤ 4611686018427387904) (hn : ls.length ≤ 1048576) (hBw : B ≤ w.heap.size) :
    Calls Try.prog 35 #[v, .int .i64 k0] w fun e w' => e = .returned (.int .i64 (k0 + (totL ls : Nat))) ∧ OwnL w' B v (marksL k0 ls) ∧ Below B w w' := by
  obtain ⟨g, cap, vs, rfl, hown0, hr, hp⟩ := h
  obtain ⟨k0, rfl⟩ := Int.eq_ofNat_of_zero_le h0
  have hr0 : Kept (∀ i (h : i < ls.length), ∃ vi, vs[i]? = some vi ∧ OwnI w B vi (rowAt k0 ls 0 i) ∧ vi.ownBlock ≠ some g) := ⟨fun i h => by
    rw [rowAt_no (by omega), getD_row h]; exact hr i h⟩
  have HP := Lib.hid hp
  have HT := Lib.hid (fun k => totL_le_take (ls := ls) (k := k))
  have HT2 := Lib.hid (fun k => totL_take (ls := ls) (k := k))
  clear hr hp
  go_enter Try.func35, Try.ntmps35
  go_wp2
  go_loopw [1, 5] (fun x i wr => ∃ (k t : Nat), k ≤ ls.length ∧ i = .int .i64 k ∧ x = .int .i64 ((k0 : Int) + (t : Int)) ∧ Kept (t = totL (ls.take k)) ∧ t ≤ totL ls ∧ wr.ownsRow B 33 1 (.slice (some ⟨g, 0, none⟩) ls.length cap) ls.length vs ∧ Kept (∀ i (h : i < ls.length), ∃ vi, vs[i]? = some vi ∧ OwnI wr B vi (rowAt k0 ls k i) ∧ vi.ownBlock ≠ some g) ∧ B ≤ wr.heap.size ∧ Below B w wr)
    (fun _ i _ => ls.length - (intOf i).toNat)
  case atStart => exact ⟨0, 0, by omega, rfl, by simp, ⟨by simp [totL]⟩, by omega, hown0, hr0, hBw, Below.refl _ _⟩
  case round =>
    obtain ⟨k, t, hk, rfl, rfl, ht, htl, hown, hrows, hsz, hbel⟩ := hrel
    by_cases hlt : k < ls.length
    · obtain ⟨vi, hvi, ho, hne⟩ := hrows.out k hlt
      rw [rowAt_no (by omega), getD_row hlt] at ho
      obtain ⟨gi, ci, hvs, hio, hir⟩ := id ho
      have hcell : wr.cell? ⟨g, k, none⟩ = some vi := by rw [hown.cellAt k (by omega)]; exact hvi
      have htot := HT.out k hlt
      have ht2 := HT2.out k hlt
      have hte := ht.out
      have hkl : (k : Int) < (ls.length : Int) := by omega
      have hq := markIntS_any vi ls[k] B ((k0 : Int) + (t : Int)) wr ho (by omega) (by omega)
      have HQ := Lib.hid hq
      have hnext : Kept (t + ls[k].length = totL (ls.take (k + 1))) := ⟨by omega⟩
      have hle : t + ls[k].length ≤ totL ls := by omega
      obtain ⟨m, hm⟩ : ∃ m, m = ls[k].length := ⟨_, rfl⟩
      have hmk : Kept (m = ls[k].length) := ⟨hm⟩
      rw [← hm] at hvs hnext hle
      subst hvs
      clear hq htot ht2 hte hio hir hm
      go_wp2_with fail
      refine (HQ.out).mono ?_
      rintro e w2 ⟨rfl, om, hg⟩
      have hown2 := hown.kept hg (.inr (by intro he; exact hne he.symm))
      have hb2 := hbel.grown hg hsz (own_base ho)
      have hrows2 : Kept (∀ i (h : i < ls.length), ∃ vi, vs[i]? = some vi ∧ OwnI w2 B vi (rowAt k0 ls (k + 1) i) ∧ vi.ownBlock ≠ some g) := ⟨fun i h => by
        by_cases hik : i = k
        · subst hik
          refine ⟨_, hvi, ?_, hne⟩
          rw [rowAt_yes (by omega), getD_row h, ← ht.out]
          exact om
        · obtain ⟨vj, h1, h2, h3⟩ := hrows.out i h
          refine ⟨vj, h1, ?_, h3⟩
          have hr : rowAt k0 ls (k + 1) i = rowAt k0 ls k i := by
            by_cases hl : i < k
            · rw [rowAt_yes hl, rowAt_yes (by omega)]
            · rw [rowAt_no hl, rowAt_no (by omega)]
          rw [hr]
          refine h2.grown hg ?_
          rcases Nat.lt_or_gt_of_ne hik with hl | hl
          · exact HP.out i k _ _ hl h1 hvi
          · exact fun he => HP.out k i _ _ hl hvi h1 he.symm⟩
      have hsz2 : B ≤ w2.heap.size := Nat.le_trans hsz hg.size
      rw [← hmk.out]
      clear om hg hown hrows
      go_wp2
      go_roundw
      case rel => exact ⟨k + 1, t + m, by omega, by go_num, by go_num, hnext, hle, hown2, hrows2, hsz2, hb2⟩
      case measure => simp [intOf]; omega
    · obtain rfl : k = ls.length := by omega
      have hfin : Kept (t = totL ls) := ⟨by rw [ht.out, List.take_length]⟩
      go_wp2
      go_ret
      rw [hfin.out]
      refine ⟨rfl, ⟨g, cap, vs, by rw [marksL_length], by rw [marksL_length]; exact hown, fun i hi => ?_, HP.out⟩, hbel⟩
      rw [marksL_length] at hi
      obtain ⟨vi, h1, h2, h3⟩ := hrows.out i hi
      rw [rowAt_yes hi, getD_row hi] at h2
      have hg2 := marksL_get ls k0 i hi
      rw [List.getElem?_eq_getElem (by rw [marksL_length]; exact hi)] at hg2
      exact ⟨vi, h1, by rw [Option.some.inj hg2]; exact h2, h3⟩
theorem heldIntSS_any (v : Value) (ls : List (List Int)) (k0 : Int) (w : World) (h : Rows2 w v (marksL k0 ls)) (h0 : 0 ≤ k0) (h1 : k0 + totL ls ≤ 4611686018427387904) (hn : ls.length ≤ 1048576) :
    Calls Try.prog 36 #[v, .int .i64 k0] w fun e w' => e = .returned (.int .i64 (k0 + (totL ls : Nat))) ∧ w = w' := by
  obtain ⟨b, off, cap, rfl, hc, hb, hcell⟩ := h
  obtain ⟨k0, rfl⟩ := Int.eq_ofNat_of_zero_le h0
  rw [marksL_length] at hc ⊢
  have H : Kept (∀ i (hi : i < ls.length), ∃ vi, w.cell? ⟨b, off + i, none⟩ = some vi ∧ Ints w vi (marks ((k0 : Int) + (totL (ls.take i) : Nat)) ls[i].length)) := ⟨fun i hi => by
    obtain ⟨vi, h1, h2⟩ := hcell i (by rw [marksL_length]; exact hi)
    have hg2 := marksL_get ls k0 i hi
    rw [List.getElem?_eq_getElem (by rw [marksL_length]; exact hi)] at hg2
    rw [Option.some.inj hg2] at h2
    exact ⟨vi, h1, h2⟩⟩
  have HT := Lib.hid (fun k => totL_le_take (ls := ls) (k := k))
  have HT2 := Lib.hid (fun k => totL_take (ls := ls) (k := k))
  clear hcell
  go_enter Try.func36, Try.ntmps36
  go_wp2
  go_loop [1, 5] (fun x i => ∃ (k t : Nat), k ≤ ls.length ∧ i = .int .i64 k ∧ x = .int .i64 ((k0 : Int) + (t : Int)) ∧ Kept (t = totL (ls.take k)) ∧ t ≤ totL ls) (fun _ i => ls.length - (intOf i).toNat)
  case atStart => exact ⟨0, 0, by omega, rfl, by simp, ⟨by simp [totL]⟩, by omega⟩
  case round =>
    obtain ⟨k, t, hk, rfl, rfl, ht, htl⟩ := hrel
    by_cases hlt : k < ls.length
    · obtain ⟨vi, hvi, hi⟩ := H.out k hlt
      have htot := HT.out k hlt
      have ht2 := HT2.out k hlt
      have hte := ht.out
      have hkl : (k : Int) < (ls.length : Int) := by omega
      rw [← hte] at hi
      have hq := heldIntS_any vi ls[k].length ((k0 : Int) + (t : Int)) w hi (by omega) (by omega)
      have HQ := Lib.hid hq
      have hnext : Kept (t + ls[k].length = totL (ls.take (k + 1))) := ⟨by omega⟩
      have hle : t + ls[k].length ≤ totL ls := by omega
      obtain ⟨m, hm⟩ : ∃ m, m = ls[k].length := ⟨_, rfl⟩
      have hmk : Kept (m = ls[k].length) := ⟨hm⟩
      rw [← hm] at hnext hle
      obtain ⟨p, o, c, rfl, _⟩ := hi.form
      clear hq htot ht2 hte hm hi
      go_wp2_with fail
      refine (HQ.out).mono ?_
      rintro e w2 ⟨rfl, rfl⟩
      rw [← hmk.out]
      go_wp2
      go_round
      case rel => exact ⟨k + 1, t + m, by omega, by go_num, by go_num, hnext, hle⟩
      case measure => simp [intOf]; omega
    · obtain rfl : k = ls.length := by omega
      have hfin : Kept (t = totL ls) := ⟨by rw [ht.out, List.take_length]⟩
      go_wp2
      go_ret
      rw [hfin.out]
      exact ⟨rfl, rfl⟩
end Go.Proofs.Ytpebiacdkfpnpaa
