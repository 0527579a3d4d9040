/- Lists of words as arguments; contracts of szIntSS, toIntSS, eqIntSS. Conditions: at most 2^20 letters and words in all. -/
import Derived.Test.YtopelbcikbkdbaaWordC
namespace Go.Proofs.Ytopelbcikbkdbaa
open Go.RowKit

theorem elemII : Elem Try.prog 22 33 (.slice none 0 0) 1 24 := ⟨Try.underlying22, by kernel_rfl, rfl, by decide, by decide⟩
theorem ArgI.keep {w w' : World} {a : Option Addr} {len cap : Nat} {L : List Int} (h : ArgI w a len cap L) (hB : Below w.heap.size w w') : ArgI w' a len cap L := by
  obtain ⟨zs, hz, rfl⟩ := h; exact ⟨zs, hz.keep hB, rfl⟩
/-- The argument reads as the list of words ls. -/
def ArgL (w : World) (a : Option Addr) (len cap : Nat) (ls : List (List Int)) : Prop :=
  ls.length = len ∧ len ≤ 9223372036854775807 ∧ (0 < len → ∃ b off, a = some ⟨b, off, none⟩ ∧ b < w.heap.size ∧ len ≤ cap ∧
    ∀ i (h : i < ls.length), ∃ A L C, w.cell? ⟨b, off + i, none⟩ = some (.slice A L C) ∧ ArgI w A L C ls[i] ∧ L ≤ 9223372036854775807)
theorem ArgL.keep {w w' : World} {a : Option Addr} {len cap : Nat} {ls : List (List Int)} (h : ArgL w a len cap ls) (hB : Below w.heap.size w w') : ArgL w' a len cap ls := by
  refine ⟨h.1, h.2.1, fun h0 => ?_⟩
  obtain ⟨b, off, rfl, hb, hc, hcell⟩ := h.2.2 h0
  refine ⟨b, off, rfl, Nat.lt_of_lt_of_le hb hB.size, hc, fun i hi => ?_⟩
  obtain ⟨A, L, C, h1, h2, h3⟩ := hcell i hi
  exact ⟨A, L, C, (hB.cell (p := ⟨b, off + i, none⟩) hb).trans h1, h2.keep hB, h3⟩
/-- The letters of all words together. -/
def totL (ls : List (List Int)) : Nat := (ls.map List.length).sum
theorem totL_snoc (ls : List (List Int)) (l : List Int) : totL (ls ++ [l]) = totL ls + l.length := by simp [totL]
theorem totL_take {ls : List (List Int)} {k : Nat} (h : k < ls.length) : totL (ls.take (k + 1)) = totL (ls.take k) + ls[k].length := by
  rw [List.take_succ_eq_append_getElem h, totL_snoc]
theorem totL_mono {ls : List (List Int)} : ∀ k, totL (ls.take k) ≤ totL ls := by
  induction ls with
  | nil => intro k; simp
  | cons a l ih =>
    intro k
    cases k with
    | zero => simp [totL]
    | succ k => have := ih k; simp only [List.take_succ_cons, totL, List.map_cons, List.sum_cons] at *; omega
theorem totL_row {ls : List (List Int)} {k : Nat} (h : k < ls.length) : ls[k].length ≤ totL ls := by
  have := totL_mono (ls := ls) (k + 1)
  rw [totL_take h] at this; omega
theorem szIntS_fits (left : Int) (a : Option Addr) (len cap : Nat) (w : World) (h0 : (len : Int) ≤ left) (h1 : left ≤ 1048576) :
    Calls Try.prog 48 #[.slice a len cap, .int .i64 left] w fun e w' => e = .returned (.int .i64 (left - len)) ∧ w = w' := by
  go_enter Try.func48, Try.ntmps48
  go_wp2
  go_ret
  exact ⟨rfl, rfl⟩
theorem szIntS_over (left : Int) (a : Option Addr) (len cap : Nat) (w : World) (h0 : left < (len : Int)) (h1 : 0 ≤ left) (hm : len ≤ 9223372036854775807) :
    Calls Try.prog 48 #[.slice a len cap, .int .i64 left] w fun e w' => e = .returned (.int .i64 (-1)) ∧ w = w' := by
  go_enter Try.func48, Try.ntmps48
  go_wp2
  go_ret
  exact ⟨rfl, rfl⟩
/-- What szIntSS answers. -/
def szR (left : Int) (n : Nat) : Int := match decide ((n : Int) ≤ left) with
  | true => left - n
  | false => -1
theorem szR_yes {left : Int} {n : Nat} (h : (n : Int) ≤ left) : szR left n = left - n := by simp [szR, h]
theorem szR_no {left : Int} {n : Nat} (h : left < (n : Int)) : szR left n = -1 := by
  have : decide ((n : Int) ≤ left) = false := decide_eq_false (by omega)
  simp only [szR, this]
theorem szIntSS_any (left : Int) (a : Option Addr) (len cap : Nat) (ls : List (List Int)) (w : World) (h : ArgL w a len cap ls) (h0 : 0 ≤ left) (h1 : left ≤ 1048576) :
    Calls Try.prog 15 #[.slice a len cap, .int .i64 left] w (RetV w (.int .i64 (szR left (len + totL ls)))) := by
  obtain ⟨hl, hm, hcell⟩ := h
  by_cases c0 : (len : Int) ≤ left
  case neg =>
    rw [szR_no (by omega)]
    have c1 : left < (len : Int) := by omega
    go_enter Try.func15, Try.ntmps15
    go_wp2
    go_ret
    exact ⟨rfl, Below.refl _ _⟩
  have H := Lib.hid hcell
  have hlh := Lib.hid hl
  clear hcell hl
  go_enter Try.func15, Try.ntmps15
  go_wp2
  go_loopw [1, 5] (fun x i wr => ∃ (k : Nat) (s : Int), k ≤ len ∧ i = .int .i64 k ∧ x = .int .i64 s ∧ Kept (s = left - len - totL (ls.take k)) ∧ 0 ≤ s ∧ s ≤ 1048576 ∧ wr = w)
    (fun _ i _ => len - (intOf i).toNat)
  case atStart => exact ⟨0, left - len, by omega, rfl, rfl, ⟨by simp [totL]⟩, by omega, by omega, rfl⟩
  case round =>
    obtain ⟨k, s, hk, rfl, rfl, hs, hs0, hs1, rfl⟩ := hrel
    by_cases hlt : k < len
    · obtain ⟨b, off, rfl, hb, hcap, hcell⟩ := H.out (by omega)
      have hkl : k < ls.length := by rw [hlh.out]; exact hlt
      obtain ⟨A, L, C, e1, e2, hLm⟩ := hcell k hkl
      have hL : L = ls[k].length := e2.len.symm
      have htt := totL_take hkl
      have hmono := totL_mono (ls := ls) (k + 1)
      rw [htt, ← hL] at hmono
      have hs' := hs.out
      by_cases hfit : (L : Int) ≤ s
      · have hnew : Kept (s - L = left - len - totL (ls.take (k + 1))) := ⟨by rw [htt, ← hL]; omega⟩
        clear hcell hL htt hmono hs' e2
        go_wp2_with fail
        refine (szIntS_fits s A L C _ hfit hs1).mono ?_
        rintro e w' ⟨rfl, rfl⟩
        go_wp2
        go_roundw
        case rel => exact ⟨k + 1, s - L, by omega, by go_num, rfl, hnew, by omega, by omega, by first | rfl | trivial⟩
        case measure => simp [intOf]; omega
      · have hno : Kept (szR left (len + totL ls) = -1) := ⟨szR_no (by omega)⟩
        have hov : s < (L : Int) := by omega
        clear hcell hL htt hmono hs' e2 hfit
        go_wp2_with fail
        refine (szIntS_over s A L C _ hov hs0 hLm).mono ?_
        rintro e w' ⟨rfl, rfl⟩
        go_wp2
        go_ret
        rw [hno.out]
        exact ⟨rfl, Below.refl _ _⟩
    · obtain rfl : k = len := by omega
      have hyes : Kept (szR left (k + totL ls) = s) := ⟨by
        have h2 := hs.out
        rw [List.take_of_length_le (by rw [hlh.out]; omega)] at h2
        rw [szR_yes (by omega)]; omega⟩
      clear hs
      go_wp2
      go_ret
      rw [hyes.out]
      exact ⟨rfl, Below.refl _ _⟩
theorem szIntSS_fits (left : Int) (a : Option Addr) (len cap : Nat) (ls : List (List Int)) (N : Nat) (w : World) (h : ArgL w a len cap ls) (hN : N = len + totL ls) (h0 : (N : Int) ≤ left) (h1 : left ≤ 1048576) :
    Calls Try.prog 15 #[.slice a len cap, .int .i64 left] w (RetV w (.int .i64 (left - N))) := by
  have := szIntSS_any left a len cap ls w h (by omega) h1
  rw [← hN, szR_yes h0] at this
  exact this
theorem szIntSS_over (left : Int) (a : Option Addr) (len cap : Nat) (ls : List (List Int)) (N : Nat) (w : World) (h : ArgL w a len cap ls) (hN : N = len + totL ls) (h0 : left < (N : Int)) (h1 : left ≤ 1048576) (h2 : 0 ≤ left) :
    Calls Try.prog 15 #[.slice a len cap, .int .i64 left] w (RetV w (.int .i64 (-1))) := by
  have := szIntSS_any left a len cap ls w h h2 h1
  rw [← hN, szR_no h0] at this
  exact this

set_option maxHeartbeats 800000 in
theorem toIntSS_arg {w0 w : World} {a : Option Addr} {len cap : Nat} {ls : List (List Int)} (h : ArgL w0 a len cap ls) (hB : Below w0.heap.size w0 w) (hlen : len + totL ls ≤ 1048576) :
    Calls Try.prog 17 #[.slice a len cap] w fun e w' => ∃ v, e = .returned v ∧ Rows2 w' v ls ∧ Below w.heap.size w w' := by
  obtain ⟨hl, hm, hcell⟩ := h.keep hB
  obtain ⟨i0, hi, hz0, hz1, hz2⟩ := info_parts elemII.info
  have H := Lib.hid hcell
  have hlh := Lib.hid hl
  have htl := Lib.hid (fun k => totL_row (ls := ls) (k := k))
  clear hcell hl h
  go_enter Try.func17, Try.ntmps17
  go_wp2_with (at_make; refine wpList_make_full _ rfl _ _ 22 rfl w.heap.size 33 i0 (.slice none 0 0) 1 Try.underlying22 hi hz0 hz1 _ _ _ _ len rfl rfl rfl rfl (by rw [hz2]; omega) (by unfold maxLen; omega) (Nat.le_refl _) ?_; intro w1 hown0 hgrow0)
  have hb0 : Below w.heap.size w w1 := (Below.refl _ _).grown hgrow0 (Nat.le_refl _) (fun k h => by cases h)
  have hlt0 : w.heap.size + 1 ≤ w1.heap.size := (ownsRow_parts hown0).2.1
  have hz : (madeCells (Value.slice none 0 0).cells (len * 1)).toList = List.replicate len (.slice none 0 0) := by rw [Nat.mul_one]; exact toList_madeCells_one _ _
  rw [hz] at hown0
  clear hgrow0 hz
  go_loopw [4] (fun i wr => ∃ (k : Nat) (vs : List Value), k ≤ len ∧ i = .int .i64 k ∧ Kept (vs.length = len) ∧ wr.ownsRow w.heap.size 33 1 (.slice (some ⟨w.heap.size, 0, none⟩) len len) len vs ∧ Kept (∀ j (_ : j < k) (hj : j < ls.length), ∃ vj, vs[j]? = some vj ∧ OwnI wr (w.heap.size + 1) vj ls[j]) ∧ w.heap.size + 1 ≤ wr.heap.size ∧ Below w.heap.size w wr)
    (fun i _ => len - (intOf i).toNat)
  case atStart => exact ⟨0, _, by omega, rfl, ⟨by simp⟩, hown0, ⟨fun j hj => absurd hj (Nat.not_lt_zero _)⟩, hlt0, hb0⟩
  case round =>
    obtain ⟨k, vs, hk, rfl, hvl, hown, hrows, hsz, hbel⟩ := hrel
    by_cases hlt : k < len
    · obtain ⟨b, off, rfl, hb, hcap, hcell⟩ := H.out (by omega)
      have hkl : k < ls.length := by rw [hlh.out]; exact hlt
      obtain ⟨A, L, C, e1, e2, hLm⟩ := hcell k hkl
      have hrow := htl.out k hkl
      have c1 := (hbel.cell (p := ⟨b, off + k, none⟩) hb).trans e1
      have hLl : L ≤ 1048576 := by rw [← e2.len]; omega
      clear hcell e1 hrow
      go_wp2_with fail
      refine (toIntS_arg e2 hbel hLl).mono ?_
      rintro e w2 ⟨v2, rfl, o2, hb2⟩
      replace hown := ownsRow_keep hown hb2
      have hrows2 : Kept (∀ j (_ : j < k) (hj : j < ls.length), ∃ vj, vs[j]? = some vj ∧ OwnI w2 (w.heap.size + 1) vj ls[j]) := ⟨fun j h1 h2 => by
        obtain ⟨vj, h3, h4⟩ := hrows.out j h1 h2
        exact ⟨vj, h3, h4.keep hb2⟩⟩
      replace hbel := hbel.trans (hb2.mono hbel.size)
      replace o2 := o2.base hsz
      replace hsz := Nat.le_trans hsz hb2.size
      clear hrows hb2
      obtain ⟨g2, c2, rfl, _⟩ := id o2
      obtain ⟨old, hc2⟩ := ownsRow_cell hown k hlt
      have hf2 := hown.frozenAt k
      go_wp2
      go_roundw
      case rel =>
        have hs := hown.stored k (.slice (some ⟨g2, 0, none⟩) ls[k].length c2)
        have hne : ∀ {v : Value} {l : List Int}, OwnI w2 (w.heap.size + 1) v l → v.ownBlock ≠ some w.heap.size := fun ho he => by
          obtain ⟨g, hg, h1, _⟩ := ho.block
          rw [hg] at he; cases he; omega
        refine ⟨k + 1, vs.set k (.slice (some ⟨g2, 0, none⟩) ls[k].length c2), by omega, by go_num, ⟨by simpa using hvl.out⟩, hs.1, ⟨fun j h1 h2 => ?_⟩, by simpa using hsz, hbel.setCell (Nat.le_refl _) _⟩
        by_cases hjk : j = k
        · subst hjk
          exact ⟨_, by rw [List.getElem?_set_self (by rw [hvl.out]; exact hlt)], o2.grown hs.2 (hne o2)⟩
        · obtain ⟨vj, h3, h4⟩ := hrows2.out j (by omega) h2
          exact ⟨vj, by rw [List.getElem?_set_ne (by omega)]; exact h3, h4.grown hs.2 (hne h4)⟩
      case measure => simp [intOf]; omega
    · obtain rfl : k = len := by omega
      go_wp2
      go_ret
      refine ⟨.slice (some ⟨w.heap.size, 0, none⟩) k k, rfl, ⟨w.heap.size, 0, k, by rw [hlh.out], by rw [hlh.out]; exact Nat.le_refl _, by omega, fun i hi => ?_⟩, hbel⟩
      obtain ⟨vi, h1, h2⟩ := hrows.out i (by rw [← hlh.out]; exact hi) hi
      exact ⟨vi, by rw [Nat.zero_add, hown.cellAt i (by have := hlh.out; omega)]; exact h1, h2.ints⟩
theorem eqIntSS_any (v1 v2 : Value) (ls : List (List Int)) (w : World) (h1 : Rows2 w v1 ls) (h2 : Rows2 w v2 ls) (hn : ls.length ≤ 1048576) (hlen : totL ls ≤ 1048576) :
    Calls Try.prog 19 #[v1, v2] w (RetV w (.bool true)) := by
  obtain ⟨b1, off1, cap1, rfl, hc1, hb1, hcell1⟩ := h1
  obtain ⟨b2, off2, cap2, rfl, hc2, hb2, hcell2⟩ := h2
  have H1 := Lib.hid hcell1
  have H2 := Lib.hid hcell2
  clear hcell1 hcell2
  go_enter Try.func19, Try.ntmps19
  go_wp2
  go_loopw [5] (fun i wr => ∃ k : Nat, k ≤ ls.length ∧ i = .int .i64 k ∧ Below w.heap.size w wr) (fun i _ => ls.length - (intOf i).toNat)
  case atStart => exact ⟨0, by omega, rfl, Below.refl _ _⟩
  case round =>
    obtain ⟨k, hk, rfl, hbel⟩ := hrel
    by_cases hlt : k < ls.length
    · obtain ⟨x1, d1, i1⟩ := H1.out k hlt
      obtain ⟨x2, d2, i2⟩ := H2.out k hlt
      have c1 := (hbel.cell (p := ⟨b1, off1 + k, none⟩) hb1).trans d1
      have c2 := (hbel.cell (p := ⟨b2, off2 + k, none⟩) hb2).trans d2
      have hrow := totL_row hlt
      have hq := eqIntS_any x1 x2 ls[k] wr.drew ((i1.keep hbel).keep (Below.refl _ _).drew) ((i2.keep hbel).keep (Below.refl _ _).drew) (by omega)
      have hkl : (k : Int) < (ls.length : Int) := by omega
      obtain ⟨p1, o1, k1, rfl, _⟩ := i1.form
      obtain ⟨p2, o2, k2, rfl, _⟩ := i2.form
      clear d1 d2 i1 i2 hrow
      go_wp2
      go_region_law (go_simp; go_at_call 33; refine hq.mono ?_; rintro e w2 ⟨rfl, hb⟩)
      all_goals
        go_wp2
        go_roundw
        case rel => exact ⟨k + 1, by omega, by go_num, hbel.drew.trans (hb.mono hbel.drew.size)⟩
        case measure => simp [intOf]; omega
    · obtain rfl : k = ls.length := by omega
      go_wp2
      go_ret
      exact ⟨rfl, hbel⟩
end Go.Proofs.Ytopelbcikbkdbaa
