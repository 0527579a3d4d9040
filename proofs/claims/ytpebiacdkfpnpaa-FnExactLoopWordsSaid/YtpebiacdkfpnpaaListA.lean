/- Lists of words as arguments; contracts of szIntSS, toIntSS, eqIntSS. Conditions: at most 2^20 letters and words in all. -/
import Derived.Test.YtpebiacdkfpnpaaWordB
import Derived.Test.YtpebiacdkfpnpaaArgs
namespace Go.Proofs.Ytpebiacdkfpnpaa
open Go.RowKit

theorem elemII : Elem Try.prog 52 33 (.slice none 0 0) 1 24 := ⟨Try.underlying52, by kernel_rfl, rfl, by decide, by decide⟩
theorem ArgI.keep {w w' : World} {a : Option Addr} {len cap : Nat} {L : List Int} (h : ArgI w a len cap L) (hB : Below w.heap.size w w') : ArgI w' a len cap L := by
  obtain ⟨zs, hz, rfl⟩ := h; exact ⟨zs, hz.keep hB, rfl⟩
/-- The argument reads as the list of words ls. -/
def ArgL (w : World) (a : Option Addr) (len cap : Nat) (ls : List (List Int)) : Prop :=
  ls.length = len ∧ len ≤ 9223372036854775807 ∧ (0 < len → ∃ b off, a = some ⟨b, off, none⟩ ∧ b < w.heap.size ∧ len ≤ cap ∧
    ∀ i (h : i < ls.length), ∃ A L C, w.cell? ⟨b, off + i, none⟩ = some (.slice A L C) ∧ ArgI w A L C ls[i] ∧ L ≤ 9223372036854775807)
theorem ArgL.keep {w w' : World} {a : Option Addr} {len cap : Nat} {ls : List (List Int)} (h : ArgL w a len cap ls) (hB : Below w.heap.size w w') : ArgL w' a len cap ls := by
  refine ⟨h.1, h.2.1, fun h0 => ?_⟩
  obtain ⟨b, off, rfl, hb, hc, hcell⟩ := h.2.2 h0
  refine ⟨b, off, rfl, Nat.lt_of_lt_of_le hb hB.size, hc, fun i hi => ?_⟩
  obtain ⟨A, L, C, h1, h2, h3⟩ := hcell i hi
  exact ⟨A, L, C, (hB.cell (p := ⟨b, off + i, none⟩) hb).trans h1, h2.keep hB, h3⟩
/-- The letters of all words together. -/
def totL (ls : List (List Int)) : Nat := (ls.map List.length).sum
theorem totL_snoc (ls : List (List Int)) (l : List Int) : totL (ls ++ [l]) = totL ls + l.length := by simp [totL]
theorem totL_take {ls : List (List Int)} {k : Nat} (h : k < ls.length) : totL (ls.take (k + 1)) = totL (ls.take k) + ls[k].length := by
  rw [List.take_succ_eq_append_getElem h, totL_snoc]
theorem totL_mono {ls : List (List Int)} : ∀ k, totL (ls.take k) ≤ totL ls := by
  induction ls with
  | nil => intro k; simp
  | cons a l ih =>
    intro k
    cases k with
    | zero => simp [totL]
    | succ k => have := ih k; simp only [List.take_succ_cons, totL, List.map_cons, List.sum_cons] at *; omega
theorem totL_row {ls : List (List Int)} {k : Nat} (h : k < ls.length) : ls[k].length ≤ totL ls := by
  have := totL_mono (ls := ls) (k + 1)
  rw [totL_take h] at this; omega
theorem eqIntSS_any (v1 v2 : Value) (ls : List (List Int)) (w : World) (h1 : Rows2 w v1 ls) (h2 : Rows2 w v2 ls) (hn : ls.length ≤ 1048576) (hlen : totL ls ≤ 1048576) :
    Calls Try.prog 34 #[v1, v2] w (RetV w (.bool true)) := by
  obtain ⟨b1, off1, cap1, rfl, hc1, hb1, hcell1⟩ := h1
  obtain ⟨b2, off2, cap2, rfl, hc2, hb2, hcell2⟩ := h2
  have H1 := Lib.hid hcell1
  have H2 := Lib.hid hcell2
  clear hcell1 hcell2
  go_enter Try.func34, Try.ntmps34
  go_wp2
  go_loopw [5] (fun i wr => ∃ k : Nat, k ≤ ls.length ∧ i = .int .i64 k ∧ Below w.heap.size w wr) (fun i _ => ls.length - (intOf i).toNat)
  case atStart => exact ⟨0, by omega, rfl, Below.refl _ _⟩
  case round =>
    obtain ⟨k, hk, rfl, hbel⟩ := hrel
    by_cases hlt : k < ls.length
    · obtain ⟨x1, d1, i1⟩ := H1.out k hlt
      obtain ⟨x2, d2, i2⟩ := H2.out k hlt
      have c1 := (hbel.cell (p := ⟨b1, off1 + k, none⟩) hb1).trans d1
      have c2 := (hbel.cell (p := ⟨b2, off2 + k, none⟩) hb2).trans d2
      have hrow := totL_row hlt
      have hq := eqIntS_any x1 x2 ls[k] wr.drew ((i1.keep hbel).keep (Below.refl _ _).drew) ((i2.keep hbel).keep (Below.refl _ _).drew) (by omega)
      have hkl : (k : Int) < (ls.length : Int) := by omega
      obtain ⟨p1, o1, k1, rfl, _⟩ := i1.form
      obtain ⟨p2, o2, k2, rfl, _⟩ := i2.form
      clear d1 d2 i1 i2 hrow
      go_wp2
      go_region_law (go_simp; go_at_call 17; refine hq.mono ?_; rintro e w2 ⟨rfl, hb⟩)
      all_goals
        go_wp2
        go_roundw
        case rel => exact ⟨k + 1, by omega, by go_num, hbel.drew.trans (hb.mono hbel.drew.size)⟩
        case measure => simp [intOf]; omega
    · obtain rfl : k = ls.length := by omega
      go_wp2
      go_ret
      exact ⟨rfl, hbel⟩
end Go.Proofs.Ytpebiacdkfpnpaa
