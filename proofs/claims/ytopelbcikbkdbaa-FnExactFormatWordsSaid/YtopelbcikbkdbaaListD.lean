/- Contracts of glued and FormatWords. Conditions: at most 2^20 letters and words in all. -/
import Derived.Test.YtopelbcikbkdbaaListA
import Derived.Test.YtopelbcikbkdbaaWordG
namespace Go.Proofs.Ytopelbcikbkdbaa
open Go.RowKit

theorem elemS : Elem Try.prog 50 9 (.string ByteArray.empty) 1 16 := ⟨Try.underlying50, by kernel_rfl, rfl, by decide, by decide⟩
abbrev strV (t : List UInt8) : Value := .string ⟨t.toArray⟩
def strsV (ts : List (List UInt8)) : List Value := ts.map fun t => .string ⟨t.toArray⟩
/-- The slice of strings v reads as the list ts. -/
def Strs (w : World) (v : Value) (ts : List (List UInt8)) : Prop :=
  ∃ b off cap, v = .slice (some ⟨b, off, none⟩) ts.length cap ∧ ts.length ≤ cap ∧ b < w.heap.size ∧ ∀ i (h : i < ts.length), w.cell? ⟨b, off + i, none⟩ = some (.string ⟨ts[i].toArray⟩)
/-- A slice of strings of the call's own. -/
def OwnS (w : World) (B : Nat) (v : Value) (ts : List (List UInt8)) : Prop :=
  ∃ g cap, v = .slice (some ⟨g, 0, none⟩) ts.length cap ∧ w.ownsRow B 9 1 v ts.length (strsV ts)
theorem OwnS.strs {w : World} {B : Nat} {v : Value} {ts : List (List UInt8)} (h : OwnS w B v ts) : Strs w v ts := by
  obtain ⟨g, cap, rfl, ho⟩ := h
  have hp := ownsRow_parts ho
  refine ⟨g, 0, cap, rfl, hp.2.2.1, hp.2.1, fun i hi => ?_⟩
  rw [Nat.zero_add, ho.cellAt i (by omega), strsV, List.getElem?_map, List.getElem?_eq_getElem hi]
  rfl
theorem add_to {P : Program} {x y z : List UInt8} (hz : z = x ++ y) (h : x.length + y.length ≤ 9223372036854775807) : ∀ W, (Op.stringOp .add ⟨x.toArray⟩ ⟨y.toArray⟩).run P W = .ok (.string ⟨z.toArray⟩) W := fun W => by
  rw [hz]; exact run_add_lists x y h W
/-- Texts with commas between them. -/
def joinW : List (List UInt8) → List UInt8
  | [] => []
  | a :: l => a ++ l.flatMap fun t => 44 :: t
theorem joinW_snoc (l : List (List UInt8)) (t : List UInt8) (h : 0 < l.length) : joinW (l ++ [t]) = joinW l ++ [44] ++ t := by
  cases l with
  | nil => simp at h
  | cons a l => simp [joinW]
theorem joinW_one (t : List UInt8) : joinW [t] = t := by simp [joinW]
theorem joinW_len (l : List (List UInt8)) : (joinW l).length ≤ (l.map List.length).sum + l.length := by
  cases l with
  | nil => simp [joinW]
  | cons a l =>
    have : (l.flatMap fun t => (44 : UInt8) :: t).length = (l.map List.length).sum + l.length := by
      induction l with
      | nil => simp
      | cons b l ih => simp only [List.flatMap_cons, List.length_append, List.length_cons, ih, List.map_cons, List.sum_cons]; omega
    simp only [joinW, List.length_append, this, List.map_cons, List.sum_cons, List.length_cons]; omega
def glueT (ts : List (List UInt8)) : List UInt8 := match ts.isEmpty with
  | true => [110, 111, 110, 101]
  | false => joinW ts
set_option maxHeartbeats 800000 in
theorem glued_any (v : Value) (ts : List (List UInt8)) (w : World) (h : Strs w v ts) (hn : ts.length ≤ 1048576) (hs : (ts.map List.length).sum ≤ 4194304) :
    Calls Try.prog 57 #[v, .string ⟨#[44]⟩, .string ⟨#[110, 111, 110, 101]⟩] w fun e w' => e = .returned (.string ⟨(glueT ts).toArray⟩) ∧ w = w' := by
  obtain ⟨b, off, cap, rfl, hc, hb, hcell⟩ := h
  by_cases h0 : ts.length = 0
  · have ht : ts = [] := List.length_eq_zero_iff.1 h0
    subst ht
    go_enter Try.func57, Try.ntmps57
    go_wp2
    go_ret
    exact ⟨rfl, rfl⟩
  have hz : ((ts.length : Int) == 0) = false := by simp only [beq_eq_false_iff_ne]; omega
  have hg : Kept (glueT ts = joinW ts) := ⟨by
    have : ts.isEmpty = false := by cases ts with | nil => simp at h0 | cons a l => rfl
    simp only [glueT, this]⟩
  have hpos : 0 < ts.length := by omega
  have H := Lib.hid hcell
  have e0 : w.cell? ⟨b, off, none⟩ = some (.string ⟨ts[0].toArray⟩) := hcell 0 hpos
  have hj1 : Kept (joinW (ts.take 1) = ts[0]) := ⟨by rw [List.take_one, List.head?_eq_getElem?, List.getElem?_eq_getElem hpos]; exact joinW_one _⟩
  obtain ⟨t0, ht0⟩ : ∃ t, t = ts[0] := ⟨_, rfl⟩
  rw [← ht0] at e0 hj1
  have hjl := fun k => joinW_len (ts.take k)
  have hsum : ∀ k, ((ts.take k).map List.length).sum ≤ (ts.map List.length).sum := fun k => by
    have := List.take_append_drop k ts
    calc ((ts.take k).map List.length).sum ≤ ((ts.take k).map List.length).sum + ((ts.drop k).map List.length).sum := by omega
      _ = (ts.map List.length).sum := by rw [← List.sum_append, ← List.map_append, this]
  have HJ := Lib.hid hjl
  have HS := Lib.hid hsum
  clear hcell h0 ht0 hjl hsum
  by_cases hck : cap = 1
  · have hl1 : ts.length ≤ 1 := by omega
    have hfin : Kept (glueT ts = t0) := ⟨by rw [hg.out, ← hj1.out, List.take_of_length_le (by omega)]⟩
    subst hck
    go_enter Try.func57, Try.ntmps57
    go_wp2
    refine wp_loop_rounds 1 ?_
    rw [rounds_succ]
    go_wp2
    go_ret
    rw [hfin.out]
    exact ⟨rfl, rfl⟩
  · have hck2 : 1 ≤ cap := by omega
    go_enter Try.func57, Try.ntmps57
    go_wp2
    go_loop [7, 9, 20] (fun s _ i => ∃ (j : Nat) (u : List UInt8), j ≤ ts.length - 1 ∧ i = .int .i64 j ∧ s = .string ⟨u.toArray⟩ ∧ Kept (u = joinW (ts.take (j + 1)))) (fun _ _ i => ts.length - 1 - (intOf i).toNat)
    case atStart => exact ⟨0, t0, by omega, rfl, rfl, ⟨hj1.out.symm⟩⟩
    case round =>
      obtain ⟨j, u, hj, rfl, rfl, hu⟩ := hrel
      by_cases hlt : j < ts.length - 1
      · have hjl : j + 1 < ts.length := by omega
        have e1 := H.out (j + 1) hjl
        rw [show off + (j + 1) = off + 1 + j by omega] at e1
        obtain ⟨t, ht⟩ : ∃ t, t = ts[j + 1] := ⟨_, rfl⟩
        rw [← ht] at e1
        obtain ⟨u1, hu1⟩ : ∃ z, z = u ++ [44] := ⟨_, rfl⟩
        obtain ⟨u2, hu2⟩ : ∃ z, z = u1 ++ t := ⟨_, rfl⟩
        have hnext : Kept (u2 = joinW (ts.take (j + 1 + 1))) := ⟨by
          rw [List.take_succ_eq_append_getElem hjl, joinW_snoc _ _ (by simp; omega), ← ht, hu2, hu1, hu.out]⟩
        have hb2 : u2.length ≤ 8388608 := by
          have h1 := HJ.out (j + 1 + 1)
          have h2 := HS.out (j + 1 + 1)
          rw [hnext.out]; simp only [List.length_take] at h1; omega
        have hb1 : u1.length + t.length ≤ 8388608 := by rw [hu2, List.length_append] at hb2; exact hb2
        have hb0 : u.length + [(44 : UInt8)].length ≤ 8388608 := by rw [hu1, List.length_append] at hb1; omega
        have a1 := fun W => add_to (P := Try.prog) hu1 (by omega) W
        have a2 := fun W => add_to (P := Try.prog) hu2 (by omega) W
        have hjI : (j : Int) < (ts.length : Int) - 1 := by omega
        clear hu hu1 hu2 ht hb2 hb1 hb0
        go_wp2
        go_round
        case rel => exact ⟨j + 1, u2, by omega, by go_num, rfl, hnext⟩
        case measure => simp [intOf]; omega
      · have hfin : Kept (glueT ts = u) := ⟨by rw [hg.out, hu.out, List.take_of_length_le (by omega)]⟩
        have hjI : (ts.length : Int) - 1 ≤ (j : Int) := by omega
        go_wp2
        go_ret
        rw [hfin.out]
        exact ⟨rfl, rfl⟩
theorem fmtW_len (l : List Int) : (fmtW l).length ≤ l.length + 1 := by
  unfold fmtW
  split <;> simp
/-- The text of a list of words. -/
def fmtWs (ls : List (List Int)) : List UInt8 := match (ls.map fmtW).any (fun t => t.isEmpty) with
  | true => []
  | false => glueT (ls.map fmtW)
theorem fmtWs_bad {ls : List (List Int)} {k : Nat} (hk : k < ls.length) (h : (fmtW ls[k]).isEmpty = true) : fmtWs ls = [] := by
  have : (ls.map fmtW).any (fun t => t.isEmpty) = true := by
    rw [List.any_eq_true]
    exact ⟨fmtW ls[k], List.mem_map.2 ⟨_, List.getElem_mem hk, rfl⟩, h⟩
  simp only [fmtWs, this]
theorem fmtWs_good {ls : List (List Int)} (h : ∀ j (hj : j < ls.length), (fmtW ls[j]).isEmpty = false) : fmtWs ls = glueT (ls.map fmtW) := by
  have : (ls.map fmtW).any (fun t => t.isEmpty) = false := by
    rw [Bool.eq_false_iff]
    intro e
    rw [List.any_eq_true] at e
    obtain ⟨t, ht, he⟩ := e
    obtain ⟨x, hx, rfl⟩ := List.mem_map.1 ht
    obtain ⟨j, hj, rfl⟩ := List.mem_iff_getElem.1 hx
    rw [h j hj] at he
    cases he
  simp only [fmtWs, this]
theorem sum_fmt (ls : List (List Int)) : ((ls.map fmtW).map List.length).sum ≤ totL ls + ls.length := by
  induction ls with
  | nil => simp
  | cons a l ih =>
    have := fmtW_len a
    simp only [List.map_cons, List.sum_cons, totL, List.length_cons] at *; omega
theorem strsV_snoc (ts : List (List UInt8)) (t : List UInt8) : strsV (ts ++ [t]) = strsV ts ++ [.string ⟨t.toArray⟩] := by simp [strsV]
set_option maxHeartbeats 800000 in
theorem formatWords_any (v : Value) (ls : List (List Int)) (w : World) (h : Rows2 w v ls) (hn : ls.length ≤ 1048576) (hlen : totL ls ≤ 1048576) :
    Calls Try.prog 25 #[v] w (RetV w (.string ⟨(fmtWs ls).toArray⟩)) := by
  obtain ⟨b, off, cap, rfl, hc, hb, hcell⟩ := h
  have H := Lib.hid hcell
  have hsf := sum_fmt ls
  have HSF := Lib.hid hsf
  clear hcell hsf
  go_enter Try.func25, Try.ntmps25
  go_wp2
  have hmade : OwnS (w.alloc (.cells #[] 9 (0, 0))) w.heap.size (.slice (some ⟨w.heap.size, 0, none⟩) 0 0) [] := ⟨_, _, rfl, World.ownsRow_made _ _ _ (Nat.le_refl _) (by decide) rfl⟩
  go_loopw [3, 5, 6, 10] (fun o _ _ i wr => ∃ (k : Nat) (ts : List (List UInt8)), k ≤ ls.length ∧ i = .int .i64 k ∧ Kept (ts = (ls.map fmtW).take k) ∧ Kept (∀ j (hj : j < ls.length), j < k → (fmtW ls[j]).isEmpty = false) ∧ OwnS wr w.heap.size o ts ∧ Below w.heap.size w wr) (fun _ _ _ i _ => ls.length - (intOf i).toNat)
  case atStart => exact ⟨0, [], by omega, rfl, ⟨by simp⟩, ⟨fun j _ h => absurd h (Nat.not_lt_zero _)⟩, hmade, (Below.refl _ _).alloc (Nat.le_refl _) _⟩
  case round =>
    obtain ⟨k, ts, hk, rfl, hts, hall, hown, hbel⟩ := hrel
    by_cases hlt : k < ls.length
    · obtain ⟨x, d, i⟩ := H.out k hlt
      have c1 := (hbel.cell (p := ⟨b, off + k, none⟩) hb).trans d
      have hrow := totL_row hlt
      have hq := formatWord_any x ls[k] wr (i.keep hbel) (by omega)
      obtain ⟨t, ht⟩ : ∃ t, t = fmtW ls[k] := ⟨_, rfl⟩
      rw [← ht] at hq
      have HQ := Lib.hid hq
      have hkl : (k : Int) < (ls.length : Int) := by omega
      obtain ⟨p, o, c, rfl, _⟩ := i.form
      have htl : ts.length ≤ 1048576 := by rw [hts.out]; simp; omega
      have hnext : Kept (ts ++ [t] = (ls.map fmtW).take (k + 1)) := ⟨by rw [List.take_succ_eq_append_getElem (by simpa using hlt), hts.out, ht]; simp⟩
      have hbad : t.isEmpty = true → Kept (fmtWs ls = []) := fun h => ⟨fmtWs_bad hlt (by rw [← ht]; exact h)⟩
      have hall2 : t.isEmpty = false → Kept (∀ j (hj : j < ls.length), j < k + 1 → (fmtW ls[j]).isEmpty = false) := fun h => ⟨fun j hj h1 => by
        by_cases hjk : j = k
        · subst hjk; rw [← ht]; exact h
        · exact hall.out j hj (by omega)⟩
      have HBAD := Lib.hid hbad
      have HALL := Lib.hid hall2
      clear d i hrow hq ht hts hbad hall2
      go_wp2_with fail
      refine (HQ.out).mono ?_
      rintro e w2 ⟨rfl, hb2⟩
      have hbel2 := hbel.trans (hb2.mono hbel.size)
      obtain ⟨g, cap3, rfl, hown⟩ := hown
      replace hown := ownsRow_keep hown hb2
      cases hte : t.isEmpty with
      | true =>
        have hfin := HBAD.out hte
        go_wp2
        go_ret
        rw [hfin.out]
        exact ⟨rfl, hbel2⟩
      | false =>
        have hall3 := HALL.out hte
        go_wp2_with (at_builtin; refine wpl_push elemS rfl (.tmp 18) (.tmp 20) rfl rfl (hown.alloc _) rfl (heap_alloc_new _ _) rfl (by omega) ?_; intro g' cap' w3 hown' hgrow hat)
        have hg : w.heap.size ≤ g := (ownsRow_parts hown).1
        have hb3 := below_push hbel2 hgrow hg (Nat.le_refl _)
        have ho3 : OwnS w3 w.heap.size (.slice (some ⟨g', 0, none⟩) (ts.length + 1) cap') (ts ++ [t]) := ⟨g', cap', by simp, by rw [strsV_snoc]; simpa using hown'⟩
        clear hown'
        go_roundw
        case rel => exact ⟨k + 1, ts ++ [t], by omega, by go_num, hnext, hall3, ho3, hb3⟩
        case measure => simp [intOf]; omega
    · obtain rfl : k = ls.length := by omega
      have hfin : Kept (fmtWs ls = glueT ts) := ⟨by rw [fmtWs_good fun j hj => hall.out j hj hj, hts.out, List.take_of_length_le (by simp)]⟩
      have hgl := glued_any _ ts wr hown.strs (by rw [hts.out]; simp; omega) (by rw [hts.out, List.take_of_length_le (by simp)]; have := HSF.out; omega)
      have HG := Lib.hid hgl
      clear hgl hts
      obtain ⟨g, cap3, rfl, hown⟩ := hown
      go_wp2_with fail
      refine (HG.out).mono ?_
      rintro e w2 ⟨rfl, rfl⟩
      go_wp2
      go_ret
      rw [hfin.out]
      exact ⟨rfl, hbel⟩
theorem joinW_take (ts : List (List UInt8)) (k : Nat) : (joinW (ts.take k)).length ≤ (ts.map List.length).sum + ts.length := by
  have h1 := joinW_len (ts.take k)
  have h2 : ((ts.take k).map List.length).sum ≤ (ts.map List.length).sum := by
    have := List.take_append_drop k ts
    calc ((ts.take k).map List.length).sum ≤ ((ts.take k).map List.length).sum + ((ts.drop k).map List.length).sum := by omega
      _ = (ts.map List.length).sum := by rw [← List.sum_append, ← List.map_append, this]
  have h3 : (ts.take k).length ≤ ts.length := by rw [List.length_take]; omega
  omega
theorem isEmpty_join {ts : List (List UInt8)} (h : ∀ t ∈ ts, t.isEmpty = false) (h0 : 0 < ts.length) : (joinW ts).isEmpty = false := by
  cases ts with
  | nil => simp at h0
  | cons a l =>
    have := h a (by simp)
    cases a with
    | nil => simp at this
    | cons x a => rfl
set_option maxHeartbeats 800000 in
theorem formatWordsS_any (v : Value) (ls : List (List Int)) (w : World) (h : Rows2 w v ls) (hn : ls.length ≤ 1048576) (hlen : totL ls ≤ 1048576) :
    Calls Try.prog 24 #[v] w (RetV w (.string ⟨(fmtWs ls).toArray⟩)) := by
  obtain ⟨b, off, cap, rfl, hc, hb, hcell⟩ := h
  have H := Lib.hid hcell
  have hsf := sum_fmt ls
  have HSF := Lib.hid hsf
  clear hcell hsf
  go_enter Try.func24, Try.ntmps24
  go_wp2
  go_loopw [3, 4, 5] (fun s i _ wr => ∃ (k : Nat) (u : List UInt8), k ≤ ls.length ∧ i = .int .i64 k ∧ s = .string ⟨u.toArray⟩ ∧ Kept (u = joinW ((ls.map fmtW).take k)) ∧ Kept (∀ j (hj : j < ls.length), j < k → (fmtW ls[j]).isEmpty = false) ∧ Below w.heap.size w wr) (fun _ i _ _ => ls.length - (intOf i).toNat)
  case atStart => exact ⟨0, [], by omega, rfl, rfl, ⟨rfl⟩, ⟨fun j _ h => absurd h (Nat.not_lt_zero _)⟩, Below.refl _ _⟩
  case round =>
    obtain ⟨k, u, hk, rfl, rfl, hu, hall, hbel⟩ := hrel
    by_cases hlt : k < ls.length
    · obtain ⟨x, d, i⟩ := H.out k hlt
      have c1 := (hbel.cell (p := ⟨b, off + k, none⟩) hb).trans d
      have hrow := totL_row hlt
      have hq := formatWordS_any x ls[k] wr (i.keep hbel) (by omega)
      obtain ⟨t, ht⟩ : ∃ t, t = fmtW ls[k] := ⟨_, rfl⟩
      rw [← ht] at hq
      have HQ := Lib.hid hq
      have hkl : (k : Int) < (ls.length : Int) := by omega
      obtain ⟨p, o, c, rfl, _⟩ := i.form
      have htake : (ls.map fmtW).take (k + 1) = (ls.map fmtW).take k ++ [t] := by rw [List.take_succ_eq_append_getElem (by simpa using hlt), ht]; simp
      have hbad : t.isEmpty = true → Kept (fmtWs ls = []) := fun h => ⟨fmtWs_bad hlt (by rw [← ht]; exact h)⟩
      have hall2 : t.isEmpty = false → Kept (∀ j (hj : j < ls.length), j < k + 1 → (fmtW ls[j]).isEmpty = false) := fun h => ⟨fun j hj h1 => by
        by_cases hjk : j = k
        · subst hjk; rw [← ht]; exact h
        · exact hall.out j hj (by omega)⟩
      have HBAD := Lib.hid hbad
      have HALL := Lib.hid hall2
      have hle := joinW_take (ls.map fmtW) (k + 1)
      have hsf := HSF.out
      simp only [List.length_map] at hle
      by_cases hk0 : k = 0
      · have hk1 : decide (0 < k) = false := decide_eq_false (by omega)
        have hk2 : (k : Int) ≤ 0 := by omega
        have hu0 : u = [] := by rw [hu.out, hk0]; rfl
        have hnext : Kept (t = joinW ((ls.map fmtW).take (k + 1))) := ⟨by rw [htake, hk0, List.take_zero, List.nil_append, joinW_one]⟩
        have a1 := fun W => add_to (P := Try.prog) (x := []) (y := t) (z := t) rfl (by rw [← hnext.out] at hle; simp only [List.length_nil]; omega) W
        subst hu0
        clear d i hrow hq ht hu hbad hall2 htake hle hsf hk0
        go_wp2_with fail
        refine (HQ.out).mono ?_
        rintro e w2 ⟨rfl, hb2⟩
        have hbel2 := hbel.trans (hb2.mono hbel.size)
        cases hte : t.isEmpty with
        | true =>
          have hfin := HBAD.out hte
          go_wp2
          go_ret
          rw [hfin.out]
          exact ⟨rfl, hbel2⟩
        | false =>
          have hall3 := HALL.out hte
          go_wp2
          go_roundw
          case rel => exact ⟨k + 1, t, by omega, by go_num, rfl, hnext, hall3, hbel2⟩
          case measure => simp [intOf]; omega
      · have hk1 : decide (0 < k) = true := decide_eq_true (by omega)
        have hk2 : (0 : Int) < (k : Int) := by omega
        obtain ⟨u1, hu1⟩ : ∃ z, z = u ++ [44] := ⟨_, rfl⟩
        obtain ⟨u2, hu2⟩ : ∃ z, z = u1 ++ t := ⟨_, rfl⟩
        have hnext : Kept (u2 = joinW ((ls.map fmtW).take (k + 1))) := ⟨by rw [htake, joinW_snoc _ _ (by simp; omega), hu2, hu1, hu.out]⟩
        have hb2 : u2.length ≤ 8388608 := by rw [hnext.out]; omega
        have hb1 : u1.length + t.length ≤ 8388608 := by rw [hu2, List.length_append] at hb2; exact hb2
        have hb0 : u.length + [(44 : UInt8)].length ≤ 8388608 := by rw [hu1, List.length_append] at hb1; omega
        have a1 := fun W => add_to (P := Try.prog) hu1 (by omega) W
        have a2 := fun W => add_to (P := Try.prog) hu2 (by omega) W
        clear d i hrow hq ht hu hbad hall2 htake hle hsf hk0 hu1 hu2 hb2 hb1 hb0
        go_wp2_with fail
        refine (HQ.out).mono ?_
        rintro e w2 ⟨rfl, hb2⟩
        have hbel2 := hbel.trans (hb2.mono hbel.size)
        cases hte : t.isEmpty with
        | true =>
          have hfin := HBAD.out hte
          go_wp2
          go_ret
          rw [hfin.out]
          exact ⟨rfl, hbel2⟩
        | false =>
          have hall3 := HALL.out hte
          go_wp2
          go_roundw
          case rel => exact ⟨k + 1, u2, by omega, by go_num, rfl, hnext, hall3, hbel2⟩
          case measure => simp [intOf]; omega
    · obtain rfl : k = ls.length := by omega
      have hgood := fmtWs_good fun j hj => hall.out j hj hj
      by_cases h0 : ls.length = 0
      · have hls : ls = [] := List.length_eq_zero_iff.1 h0
        have hu0 : u = [] := by rw [hu.out, hls]; rfl
        have hfin : Kept (fmtWs ls = [110, 111, 110, 101]) := ⟨by rw [hls]; rfl⟩
        subst hu0
        clear hu hall hgood hls h0
        go_wp2
        go_ret
        rw [hfin.out]
        exact ⟨rfl, hbel⟩
      · have huj : u = joinW (ls.map fmtW) := by rw [hu.out, List.take_of_length_le (by simp)]
        have hne : u.isEmpty = false := by
          rw [huj]
          refine isEmpty_join (fun t ht => ?_) (by simp; omega)
          obtain ⟨y, hy, rfl⟩ := List.mem_map.1 ht
          obtain ⟨j, hj, rfl⟩ := List.mem_iff_getElem.1 hy
          exact hall.out j hj hj
        have hfin : Kept (fmtWs ls = u) := ⟨by
          have hm : (ls.map fmtW).isEmpty = false := by
            cases ls with
            | nil => simp at h0
            | cons a l => rfl
          rw [hgood, huj]; simp only [glueT, hm]⟩
        clear hu hall hgood huj h0
        go_wp2
        go_ret
        rw [hfin.out]
        exact ⟨rfl, hbel⟩
end Go.Proofs.Ytopelbcikbkdbaa
