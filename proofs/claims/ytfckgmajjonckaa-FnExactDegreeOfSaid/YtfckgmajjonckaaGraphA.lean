/- Contracts of DegreeOf. Conditions: at most 2^20 edges. -/
import Derived.Test.YtfckgmajjonckaaEdges
namespace Go.Proofs.Ytfckgmajjonckaa
open Go.RowKit

def degL (v : Int) : List Ed → Int
  | [] => 0
  | e :: l => (if e.1 = v then 1 else 0) + (if e.2.2 = v then 1 else 0) + degL v l
theorem degL_snoc (v : Int) (l : List Ed) (e : Ed) : degL v (l ++ [e]) = degL v l + (if e.1 = v then 1 else 0) + (if e.2.2 = v then 1 else 0) := by
  induction l with
  | nil => simp [degL]
  | cons a l ih => simp only [List.cons_append, degL, ih]; omega
theorem degL_range (v : Int) (l : List Ed) : 0 ≤ degL v l ∧ degL v l ≤ 2 * l.length := by
  induction l with
  | nil => simp [degL]
  | cons a l ih => simp only [degL, List.length_cons]; split <;> split <;> omega
theorem degreeOf_any (r n : Int) (v : Value) (l : List Ed) (x : Int) (w : World) (h : Edges w v l) (hn : l.length ≤ 1048576) :
    Calls Try.prog 15 #[graphV r n v, .int .i64 x] w (RetV w (.int .i64 (degL x l))) := by
  obtain ⟨A, cap, rfl, hc, hr, hcell⟩ := h
  have H := Lib.hid hcell
  clear hcell
  go_enter Try.func15, Try.ntmps15
  go_wp2
  have hb0 : Below w.heap.size w (w.alloc (.cells #[.int .i64 r, .int .i64 n, .slice A l.length cap] 29 (0, 0))) := (Below.refl _ _).alloc (Nat.le_refl _) _
  go_loopw [5, 7, 11] (fun d _ i wr => ∃ k : Nat, k ≤ l.length ∧ i = .int .i64 k ∧ d = .int .i64 (degL x (l.take k)) ∧ Below w.heap.size w wr) (fun _ _ i _ => l.length - (intOf i).toNat)
  case atStart => exact ⟨0, by omega, rfl, rfl, hb0⟩
  case round =>
    obtain ⟨k, hk, rfl, rfl, hbel⟩ := hrel
    by_cases hlt : k < l.length
    · obtain ⟨b, off, rfl, hb, hcell⟩ := H.out (by omega)
      obtain ⟨e1, e2, e3⟩ := hcell k hlt
      have c1 := (hbel.cell (p := ⟨b, off + k * 3, none⟩) hb).trans e1
      have c2 := (hbel.cell (p := ⟨b, off + k * 3 + 1, none⟩) hb).trans e2
      have c3 := (hbel.cell (p := ⟨b, off + k * 3 + 2, none⟩) hb).trans e3
      have hs := degL_snoc x (l.take k) l[k]
      rw [← take_get hlt] at hs
      have hrg := degL_range x (l.take k)
      have hlen2 : (l.take k).length ≤ 1048576 := by rw [List.length_take]; omega
      obtain ⟨f1, hf1⟩ : ∃ z, z = l[k].1 := ⟨_, rfl⟩
      obtain ⟨f2, hf2⟩ : ∃ z, z = l[k].2.1 := ⟨_, rfl⟩
      obtain ⟨f3, hf3⟩ : ∃ z, z = l[k].2.2 := ⟨_, rfl⟩
      rw [← hf1] at c1 hs
      rw [← hf2] at c2
      rw [← hf3] at c3 hs
      clear e1 e2 e3 hf1 hf2 hf3 hcell
      obtain ⟨s0, hs0⟩ : ∃ s, s = degL x (l.take k) := ⟨_, rfl⟩
      obtain ⟨s1, hs1⟩ : ∃ s, s = degL x (l.take (k + 1)) := ⟨_, rfl⟩
      rw [← hs0, ← hs1] at hs
      rw [← hs0] at hrg ⊢
      have hS := Lib.hid hs1
      clear hs0 hs1
      by_cases h1 : f1 = x
      · have t1 : (f1 == x) = true := by simp [h1]
        by_cases h3 : f3 = x
        · have t3 : (f3 == x) = true := by simp [h3]
          have e4 : s1 = s0 + 2 := by rw [hs, if_pos h1, if_pos h3] <;> omega
          clear h1 h3 hs
          subst e4
          go_wp2
          go_roundw
          case rel => exact ⟨k + 1, by omega, by go_num, by rw [← hS.out] <;> go_num, hbel.alloc hbel.size _⟩
          case measure => simp [intOf]; omega
        · have t3 : (f3 == x) = false := by simp [h3]
          have e4 : s1 = s0 + 1 := by rw [hs, if_pos h1, if_neg h3] <;> omega
          clear h1 h3 hs
          subst e4
          go_wp2
          go_roundw
          case rel => exact ⟨k + 1, by omega, by go_num, by rw [← hS.out] <;> go_num, hbel.alloc hbel.size _⟩
          case measure => simp [intOf]; omega
      · have t1 : (f1 == x) = false := by simp [h1]
        by_cases h3 : f3 = x
        · have t3 : (f3 == x) = true := by simp [h3]
          have e4 : s1 = s0 + 1 := by rw [hs, if_neg h1, if_pos h3] <;> omega
          clear h1 h3 hs
          subst e4
          go_wp2
          go_roundw
          case rel => exact ⟨k + 1, by omega, by go_num, by rw [← hS.out] <;> go_num, hbel.alloc hbel.size _⟩
          case measure => simp [intOf]; omega
        · have t3 : (f3 == x) = false := by simp [h3]
          have e4 : s1 = s0 + 0 := by rw [hs, if_neg h1, if_neg h3] <;> omega
          clear h1 h3 hs
          subst e4
          go_wp2
          go_roundw
          case rel => exact ⟨k + 1, by omega, by go_num, by rw [← hS.out] <;> go_num, hbel.alloc hbel.size _⟩
          case measure => simp [intOf]; omega
    · obtain rfl : k = l.length := by omega
      have ht : l.take l.length = l := List.take_length
      have hT := Lib.hid ht
      clear ht
      go_wp2
      go_ret
      rw [hT.out]
      exact ⟨rfl, hbel⟩
theorem degreeOfS_any (r n : Int) (v : Value) (l : List Ed) (x : Int) (w : World) (h : Edges w v l) (hn : l.length ≤ 1048576) :
    Calls Try.prog 13 #[graphV r n v, .int .i64 x] w (RetV w (.int .i64 (degL x l))) := by
  obtain ⟨A, cap, rfl, hc, hr, hcell⟩ := h
  have H := Lib.hid hcell
  clear hcell
  go_enter Try.func13, Try.ntmps13
  go_wp2
  have hb0 : Below w.heap.size w (w.alloc (.cells #[.int .i64 r, .int .i64 n, .slice A l.length cap] 29 (0, 0))) := (Below.refl _ _).alloc (Nat.le_refl _) _
  go_loopw [5, 6] (fun d i wr => ∃ k : Nat, k ≤ l.length ∧ i = .int .i64 k ∧ d = .int .i64 (degL x (l.take k)) ∧ wr = w.alloc (.cells #[.int .i64 r, .int .i64 n, .slice A l.length cap] 29 (0, 0)) ∧ Below w.heap.size w wr) (fun _ i _ => l.length - (intOf i).toNat)
  case atStart => exact ⟨0, by omega, rfl, rfl, rfl, hb0⟩
  case round =>
    obtain ⟨k, hk, rfl, rfl, rfl, hbel⟩ := hrel
    by_cases hlt : k < l.length
    · obtain ⟨b, off, rfl, hb, hcell⟩ := H.out (by omega)
      obtain ⟨e1, e2, e3⟩ := hcell k hlt
      have c1 := (hbel.cell (p := ⟨b, off + k * 3, none⟩) hb).trans e1
      have c2 := (hbel.cell (p := ⟨b, off + k * 3 + 1, none⟩) hb).trans e2
      have c3 := (hbel.cell (p := ⟨b, off + k * 3 + 2, none⟩) hb).trans e3
      have hs := degL_snoc x (l.take k) l[k]
      rw [← take_get hlt] at hs
      have hrg := degL_range x (l.take k)
      have hlen2 : (l.take k).length ≤ 1048576 := by rw [List.length_take]; omega
      obtain ⟨f1, hf1⟩ : ∃ z, z = l[k].1 := ⟨_, rfl⟩
      obtain ⟨f2, hf2⟩ : ∃ z, z = l[k].2.1 := ⟨_, rfl⟩
      obtain ⟨f3, hf3⟩ : ∃ z, z = l[k].2.2 := ⟨_, rfl⟩
      rw [← hf1] at c1 hs
      rw [← hf2] at c2
      rw [← hf3] at c3 hs
      clear e1 e2 e3 hf1 hf2 hf3 hcell
      obtain ⟨s0, hs0⟩ : ∃ s, s = degL x (l.take k) := ⟨_, rfl⟩
      obtain ⟨s1, hs1⟩ : ∃ s, s = degL x (l.take (k + 1)) := ⟨_, rfl⟩
      rw [← hs0, ← hs1] at hs
      rw [← hs0] at hrg ⊢
      have hS := Lib.hid hs1
      clear hs0 hs1
      by_cases h1 : f1 = x
      · have t1 : (f1 == x) = true := by simp [h1]
        by_cases h3 : f3 = x
        · have t3 : (f3 == x) = true := by simp [h3]
          have e4 : s1 = s0 + 2 := by rw [hs, if_pos h1, if_pos h3] <;> omega
          clear h1 h3 hs
          subst e4
          go_wp2
          go_roundw
          case rel => exact ⟨k + 1, by omega, by go_num, by rw [← hS.out] <;> go_num, by first | rfl | trivial, hbel⟩
          case measure => simp [intOf]; omega
        · have t3 : (f3 == x) = false := by simp [h3]
          have e4 : s1 = s0 + 1 := by rw [hs, if_pos h1, if_neg h3] <;> omega
          clear h1 h3 hs
          subst e4
          go_wp2
          go_roundw
          case rel => exact ⟨k + 1, by omega, by go_num, by rw [← hS.out] <;> go_num, by first | rfl | trivial, hbel⟩
          case measure => simp [intOf]; omega
      · have t1 : (f1 == x) = false := by simp [h1]
        by_cases h3 : f3 = x
        · have t3 : (f3 == x) = true := by simp [h3]
          have e4 : s1 = s0 + 1 := by rw [hs, if_neg h1, if_pos h3] <;> omega
          clear h1 h3 hs
          subst e4
          go_wp2
          go_roundw
          case rel => exact ⟨k + 1, by omega, by go_num, by rw [← hS.out] <;> go_num, by first | rfl | trivial, hbel⟩
          case measure => simp [intOf]; omega
        · have t3 : (f3 == x) = false := by simp [h3]
          have e4 : s1 = s0 + 0 := by rw [hs, if_neg h1, if_neg h3] <;> omega
          clear h1 h3 hs
          subst e4
          go_wp2
          go_roundw
          case rel => exact ⟨k + 1, by omega, by go_num, by rw [← hS.out] <;> go_num, by first | rfl | trivial, hbel⟩
          case measure => simp [intOf]; omega
    · obtain rfl : k = l.length := by omega
      have ht : l.take l.length = l := List.take_length
      have hT := Lib.hid ht
      clear ht
      go_wp2
      go_ret
      rw [hT.out]
      exact ⟨rfl, hbel⟩
end Go.Proofs.Ytfckgmajjonckaa
