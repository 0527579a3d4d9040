/- Contracts of IsFolded. Conditions: at most 2^20 edges. -/
import Derived.Test.YtpebiacdkfpnpaaGraphD
namespace Go.Proofs.Ytpebiacdkfpnpaa
open Go.RowKit

/-- Whether two edges could be folded. -/
def clash (x y : Ed) : Bool := decide (x.2.1 = y.2.1) && (decide (x.1 = y.1) || decide (x.2.2 = y.2.2))
def noClash (l : List Ed) : Bool := (List.range l.length).all fun i => (List.range i).all fun j => !clash (l.getD i (0, 0, 0)) (l.getD j (0, 0, 0))
def isFold (r n : Int) (l : List Ed) : Bool := isG r n l && noClash l
theorem clash_symm (x y : Ed) : clash x y = clash y x := by
  have h : ∀ a b : Int, decide (a = b) = decide (b = a) := fun a b => decide_eq_decide.2 eq_comm
  simp only [clash, h x.1, h x.2.1, h x.2.2]
theorem noClash_iff {l : List Ed} : noClash l = true ↔ ∀ i j (_ : i < l.length) (_ : j < i), clash (l.getD i (0, 0, 0)) (l.getD j (0, 0, 0)) = false := by
  simp only [noClash, List.all_eq_true, List.mem_range, Bool.not_eq_true']
  exact ⟨fun h i j hi hj => h i hi j hj, fun h i hi j hj => h i j hi hj⟩
theorem noClash_at {l : List Ed} {i j : Nat} (hi : i < l.length) (hj : j < l.length) (hij : i ≠ j) (h : clash l[i] l[j] = true) : noClash l = false := by
  rw [Bool.eq_false_iff]
  intro e
  rw [noClash_iff] at e
  rcases Nat.lt_or_gt_of_ne hij with h1 | h1
  · have := e j i hj h1
    rw [getD_at hi, getD_at hj, clash_symm, h] at this
    cases this
  · have := e i j hi h1
    rw [getD_at hi, getD_at hj, h] at this
    cases this
theorem isFold_not {r n : Int} {l : List Ed} (h : isG r n l = false) : isFold r n l = false := by simp [isFold, h]
theorem isFold_clash {r n : Int} {l : List Ed} (h : noClash l = false) : isFold r n l = false := by simp [isFold, h]
theorem isFold_yes {r n : Int} {l : List Ed} (h : isG r n l = true) (h2 : noClash l = true) : isFold r n l = true := by simp [isFold, h, h2]
set_option maxHeartbeats 1600000 in
theorem isFolded_any (r n : Int) (v : Value) (l : List Ed) (w : World) (h : Edges w v l) (hn : l.length ≤ 1048576) :
    Calls Try.prog 56 #[graphV r n v] w (RetV w (.bool (isFold r n l))) := by
  have hkeep := h
  obtain ⟨A, cap, rfl, hc, hr, hcell⟩ := h
  have H := Lib.hid hcell
  clear hcell
  obtain ⟨W, hW⟩ : ∃ W, W = (w.alloc (.cells #[.int .i64 r, .int .i64 n, .slice A l.length cap] 29 (0, 0))) := ⟨_, rfl⟩
  have hB : Below w.heap.size w W := by rw [hW]; exact (Below.refl _ _).alloc (Nat.le_refl _) _
  have bx1 : Box W w.heap.size (.cells #[.int .i64 r, .int .i64 n, .slice A l.length cap] 29 (0, 0)) := by rw [hW]; exact Box.new _ _
  obtain ⟨y, hy⟩ : ∃ y, y = isG r n l := ⟨_, rfl⟩
  have hq := isGraph_any r n _ l W (hkeep.keep hB) hn
  rw [← hy] at hq
  have HW := Lib.hid hW
  have BX := Lib.hid bx1
  have HQ := Lib.hid hq
  clear hW bx1 hq hkeep
  go_enter Try.func56, Try.ntmps56
  go_wp2_with fail
  rw [← HW.out]
  refine (HQ.out).mono ?_
  rintro e w1 ⟨rfl, hb1⟩
  have hB1 := hB.trans (hb1.mono hB.size)
  obtain ⟨q1, q2, q3⟩ := (BX.out.keep hb1).cells
  cases y with
  | false =>
    have hst : Kept (isFold r n l = false) := ⟨isFold_not hy.symm⟩
    clear hy
    go_wp2
    go_ret
    rw [hst.out]
    exact ⟨rfl, hB1⟩
  | true =>
  have HY := Lib.hid hy
  clear hy
  go_wp2
  go_loopw [3, 4, 6, 13, 24] (fun _ _ _ i _ wr => ∃ k : Nat, k ≤ l.length ∧ i = .int .i64 k ∧ Kept (∀ a b (_ : a < l.length) (_ : b < l.length), a < k → a ≠ b → clash (l.getD a (0, 0, 0)) (l.getD b (0, 0, 0)) = false) ∧ Below w1.heap.size w1 wr) (fun _ _ _ i _ _ => l.length - (intOf i).toNat)
  case atStart => exact ⟨0, by omega, rfl, ⟨fun a b _ _ h => absurd h (Nat.not_lt_zero _)⟩, Below.refl _ _⟩
  case round =>
    obtain ⟨k, hk, rfl, hall, hbel⟩ := hrel
    have hBw := hB1.trans (hbel.mono hB1.size)
    obtain ⟨q1, q2, q3⟩ := (BX.out.keep (hb1.trans (hbel.mono hb1.size))).cells
    by_cases hlt : k < l.length
    · obtain ⟨b, off, rfl, hb, hcell⟩ := H.out (by omega)
      obtain ⟨e1, e2, e3⟩ := hcell k hlt
      replace e1 := (hBw.cell (p := ⟨b, off + k * 3, none⟩) hb).trans e1
      replace e2 := (hBw.cell (p := ⟨b, off + k * 3 + 1, none⟩) hb).trans e2
      replace e3 := (hBw.cell (p := ⟨b, off + k * 3 + 2, none⟩) hb).trans e3
      have hkl : (k : Int) < (l.length : Int) := by omega
      have HC := Lib.hid hcell
      obtain ⟨f1, hf1⟩ : ∃ z, z = l[k].1 := ⟨_, rfl⟩
      obtain ⟨f2, hf2⟩ : ∃ z, z = l[k].2.1 := ⟨_, rfl⟩
      obtain ⟨f3, hf3⟩ : ∃ z, z = l[k].2.2 := ⟨_, rfl⟩
      have hfk : l.getD k (0, 0, 0) = (f1, f2, f3) := by rw [getD_at hlt, hf1, hf2, hf3]
      rw [← hf1] at e1
      rw [← hf2] at e2
      rw [← hf3] at e3
      have HF := Lib.hid hfk
      clear hcell hf1 hf2 hf3 hfk
      obtain ⟨W1, hW1⟩ : ∃ W1, W1 = wr.alloc (.cells #[.int .i64 f1, .int .i64 f2, .int .i64 f3] 42 (0, 0)) := ⟨_, rfl⟩
      have hd1 : Below w1.heap.size w1 W1 := by rw [hW1]; exact hbel.alloc hbel.size _
      have be : Box W1 wr.heap.size (.cells #[.int .i64 f1, .int .i64 f2, .int .i64 f3] 42 (0, 0)) := by rw [hW1]; exact Box.new _ _
      obtain ⟨_, _, q6⟩ := (BX.out.keep (hb1.trans (hd1.mono hb1.size))).cells
      rw [hW1] at q6
      have HW1 := Lib.hid hW1
      have BE := Lib.hid be
      have hBW1 := hB1.trans (hd1.mono hB1.size)
      clear hW1 be
      by_cases hlast : k + 1 = l.length
      · have hnext : Kept (∀ a b (_ : a < l.length) (_ : b < l.length), a < k + 1 → a ≠ b → clash (l.getD a (0, 0, 0)) (l.getD b (0, 0, 0)) = false) := ⟨fun a b ha hb' h1 h2 => by
          by_cases hak : a < k
          · exact hall.out a b ha hb' hak h2
          · obtain rfl : a = k := by omega
            rw [clash_symm]; exact hall.out b a hb' ha (by omega) (Ne.symm h2)⟩
        have hz : l.length - (k + 1) = 0 := by omega
        have HL := Lib.hid hlast
        clear hlast
        by_cases hck : cap = k + 1
        · have hck2 : k + 1 ≤ cap := by omega
          have hck3 : ((k : Int) + 1) ≤ (cap : Int) := by omega
          have hck4 : ((k : Int) + 1) ≤ (l.length : Int) := by omega
          have hk0 : (0 : Int) ≤ (k : Int) + 1 := by omega
          go_wp2
          refine wp_loop_rounds 1 ?_
          rw [rounds_succ]
          go_wp2
          go_roundw
          case rel => exact ⟨k + 1, by have := HL.out; omega, by go_num, hnext, by rw [← HW1.out]; exact hd1⟩
          case measure => have := HL.out; simp [intOf]; omega
        · have hck2 : k + 1 ≤ cap := by omega
          have hck3 : ((k : Int) + 1) ≤ (cap : Int) := by omega
          have hck4 : ((k : Int) + 1) ≤ (l.length : Int) := by have := HL.out; omega
          have hk0 : (0 : Int) ≤ (k : Int) + 1 := by omega
          go_wp2
          refine wp_loop_rounds 1 ?_
          rw [rounds_succ]
          go_wp2
          go_roundw
          case rel => exact ⟨k + 1, by have := HL.out; omega, by go_num, hnext, by rw [← HW1.out]; exact hd1⟩
          case measure => have := HL.out; simp [intOf]; omega
      · have hck : ¬ cap = k + 1 := by omega
        have hck2 : k + 1 ≤ cap := by omega
        have hck3 : ((k : Int) + 1) ≤ (cap : Int) := by omega
        have hck4 : ((k : Int) + 1) ≤ (l.length : Int) := by omega
        have hk0 : (0 : Int) ≤ (k : Int) + 1 := by omega
        go_wp2
        rw [← HW1.out]
        go_loopw [6, 24] (fun _ i wx => ∃ j : Nat, j ≤ l.length - (k + 1) ∧ i = .int .i64 j ∧ Kept (∀ b (_ : b < l.length), k < b → b < k + 1 + j → clash (f1, f2, f3) (l.getD b (0, 0, 0)) = false) ∧ Below W1.heap.size W1 wx) (fun _ i _ => l.length - (k + 1) - (intOf i).toNat)
        case atStart => exact ⟨0, by omega, rfl, ⟨fun b _ h1 h2 => by omega⟩, Below.refl _ _⟩
        case round =>
          obtain ⟨j, hj, rfl, hin, hbx⟩ := hrel
          have hBx := hBW1.trans (hbx.mono hBW1.size)
          obtain ⟨p1, p2, p3⟩ := (BE.out.keep hbx).cells
          by_cases hjl : j < l.length - (k + 1)
          · have hjx : k + 1 + j < l.length := by omega
            obtain ⟨d1, d2, d3⟩ := HC.out (k + 1 + j) hjx
            replace d1 := (hBx.cell (p := ⟨b, off + (k + 1 + j) * 3, none⟩) hb).trans d1
            replace d2 := (hBx.cell (p := ⟨b, off + (k + 1 + j) * 3 + 1, none⟩) hb).trans d2
            replace d3 := (hBx.cell (p := ⟨b, off + (k + 1 + j) * 3 + 2, none⟩) hb).trans d3
            rw [show off + (k + 1 + j) * 3 = off + (k + 1) * 3 + j * 3 by omega] at d1 d2 d3
            obtain ⟨g1, hg1⟩ : ∃ z, z = l[k + 1 + j].1 := ⟨_, rfl⟩
            obtain ⟨g2, hg2⟩ : ∃ z, z = l[k + 1 + j].2.1 := ⟨_, rfl⟩
            obtain ⟨g3, hg3⟩ : ∃ z, z = l[k + 1 + j].2.2 := ⟨_, rfl⟩
            have hgk : l[k + 1 + j] = (g1, g2, g3) := by rw [hg1, hg2, hg3]
            rw [← hg1] at d1
            rw [← hg2] at d2
            rw [← hg3] at d3
            have hcl : clash (f1, f2, f3) l[k + 1 + j] = (decide (f2 = g2) && (decide (f1 = g1) || decide (f3 = g3))) := by rw [hgk]; rfl
            have HCL := Lib.hid hcl
            have hyes : clash (f1, f2, f3) l[k + 1 + j] = true → Kept (isFold r n l = false) := fun h => ⟨isFold_clash (noClash_at hlt hjx (by omega) (by have hf := HF.out; rw [getD_at hlt] at hf; rw [hf]; exact h))⟩
            have HYES := Lib.hid hyes
            have hno : clash (f1, f2, f3) l[k + 1 + j] = false → Kept (∀ b (_ : b < l.length), k < b → b < k + 1 + (j + 1) → clash (f1, f2, f3) (l.getD b (0, 0, 0)) = false) := fun h => ⟨fun b hb' h1 h2 => by
              by_cases hbj : b = k + 1 + j
              · subst hbj; rw [getD_at hjx]; exact h
              · exact hin.out b hb' h1 (by omega)⟩
            have HNO := Lib.hid hno
            clear hg1 hg2 hg3 hgk hcl hyes hno
            have hjI : (j : Int) < (l.length : Int) - ((k : Int) + 1) := by omega
            obtain ⟨p4, p5, p6⟩ := (BE.out.keep (hbx.alloc hbx.size (.cells #[.int .i64 g1, .int .i64 g2, .int .i64 g3] 42 (0, 0)))).cells
            by_cases h2 : f2 = g2
            · have t2 : (f2 == g2) = true := by simp [h2]
              by_cases h1 : f1 = g1
              · have t1 : (f1 == g1) = true := by simp [h1]
                have hst := HYES.out (by rw [HCL.out, decide_eq_true h2, decide_eq_true h1]; rfl)
                clear h1 h2
                go_wp2
                go_ret
                rw [hst.out]
                exact ⟨rfl, hBx.alloc hBx.size _⟩
              · have t1 : (f1 == g1) = false := by simp [h1]
                by_cases h3 : f3 = g3
                · have t3 : (f3 == g3) = true := by simp [h3]
                  have hst := HYES.out (by rw [HCL.out, decide_eq_true h2, decide_eq_true h3, Bool.or_true]; rfl)
                  clear h1 h2 h3
                  go_wp2
                  go_ret
                  rw [hst.out]
                  exact ⟨rfl, hBx.alloc hBx.size _⟩
                · have t3 : (f3 == g3) = false := by simp [h3]
                  have hst := HNO.out (by rw [HCL.out, decide_eq_false h1, decide_eq_false h3, Bool.or_false, Bool.and_false])
                  clear h1 h2 h3
                  go_wp2
                  go_roundw
                  case rel => exact ⟨j + 1, by omega, by go_num, hst, hbx.alloc hbx.size _⟩
                  case measure => simp [intOf]; omega
            · have t2 : (f2 == g2) = false := by simp [h2]
              have hst := HNO.out (by rw [HCL.out, decide_eq_false h2, Bool.false_and])
              clear h2
              go_wp2
              go_roundw
              case rel => exact ⟨j + 1, by omega, by go_num, hst, hbx.alloc hbx.size _⟩
              case measure => simp [intOf]; omega
          · obtain rfl : j = l.length - (k + 1) := by omega
            have hnext : Kept (∀ a b (_ : a < l.length) (_ : b < l.length), a < k + 1 → a ≠ b → clash (l.getD a (0, 0, 0)) (l.getD b (0, 0, 0)) = false) := ⟨fun a b ha hb' h1 h2 => by
              by_cases hak : a < k
              · exact hall.out a b ha hb' hak h2
              · obtain rfl : a = k := by omega
                by_cases hbk : b < a
                · rw [clash_symm]; exact hall.out b a hb' ha hbk (Ne.symm h2)
                · rw [HF.out]; exact hin.out b hb' (by omega) (by omega)⟩
            go_wp2
            go_roundw
            case rel => exact ⟨k + 1, by omega, by go_num, hnext, hd1.trans (hbx.mono hd1.size)⟩
            case measure => simp [intOf]; omega
    · obtain rfl : k = l.length := by omega
      have hst : Kept (isFold r n l = true) := ⟨isFold_yes HY.out.symm (noClash_iff.2 fun i j hi hj => hall.out i j hi (by omega) hi (by omega))⟩
      go_wp2
      go_ret
      rw [hst.out]
      exact ⟨rfl, hBw⟩
set_option maxHeartbeats 1600000 in
theorem isFoldedS_any (r n : Int) (v : Value) (l : List Ed) (w : World) (h : Edges w v l) (hn : l.length ≤ 1048576) :
    Calls Try.prog 54 #[graphV r n v] w (RetV w (.bool (isFold r n l))) := by
  have hkeep := h
  obtain ⟨A, cap, rfl, hc, hr, hcell⟩ := h
  have H := Lib.hid hcell
  clear hcell
  obtain ⟨W, hW⟩ : ∃ W, W = (w.alloc (.cells #[.int .i64 r, .int .i64 n, .slice A l.length cap] 29 (0, 0))) := ⟨_, rfl⟩
  have hB : Below w.heap.size w W := by rw [hW]; exact (Below.refl _ _).alloc (Nat.le_refl _) _
  have bx1 : Box W w.heap.size (.cells #[.int .i64 r, .int .i64 n, .slice A l.length cap] 29 (0, 0)) := by rw [hW]; exact Box.new _ _
  obtain ⟨y, hy⟩ : ∃ y, y = isG r n l := ⟨_, rfl⟩
  have hq := fun W' (hb : Below w.heap.size w W') => isGraphS_any r n _ l W' (hkeep.keep hb) hn
  rw [← hy] at hq
  have HW := Lib.hid hW
  have BX := Lib.hid bx1
  have HQ := Lib.hid hq
  have HY := Lib.hid hy
  clear hW bx1 hq hkeep hy
  go_enter Try.func54, Try.ntmps54
  go_wp2
  go_loopw [3, 4, 5, 6] (fun i _ _ _ wr => ∃ k : Nat, k ≤ l.length ∧ i = .int .i64 k ∧ Kept (∀ a b (_ : a < k) (_ : b < a), clash (l.getD a (0, 0, 0)) (l.getD b (0, 0, 0)) = false) ∧ Below W.heap.size W wr) (fun i _ _ _ _ => l.length - (intOf i).toNat)
  case atStart => exact ⟨0, by omega, rfl, ⟨fun a b h => absurd h (Nat.not_lt_zero _)⟩, by rw [HW.out]; exact Below.refl _ _⟩
  case round =>
    obtain ⟨k, hk, rfl, hall, hbel⟩ := hrel
    have hBw := hB.trans (hbel.mono hB.size)
    obtain ⟨q1, q2, q3⟩ := (BX.out.keep hbel).cells
    by_cases hlt : k < l.length
    · have hkl : (k : Int) < (l.length : Int) := by omega
      go_wp2_with fail
      refine (HQ.out _ hBw).mono ?_
      rintro e w1 ⟨rfl, hb1⟩
      have hbel1 := hbel.trans (hb1.mono hbel.size)
      have hBw1 := hBw.trans (hb1.mono hBw.size)
      clear q1 q2 q3
      obtain ⟨q1, q2, q3⟩ := (BX.out.keep hbel1).cells
      cases y with
      | false =>
        have hst : Kept (isFold r n l = false) := ⟨isFold_not HY.out.symm⟩
        go_wp2_with fail
        refine (HQ.out _ hBw1).mono ?_
        rintro e w2 ⟨rfl, hb2⟩
        go_wp2
        go_ret
        rw [hst.out]
        exact ⟨rfl, hBw1.trans (hb2.mono hBw1.size)⟩
      | true =>
        obtain ⟨b, off, rfl, hb, hcell⟩ := H.out (by omega)
        have HC := Lib.hid hcell
        obtain ⟨f1, hf1⟩ : ∃ z, z = l[k].1 := ⟨_, rfl⟩
        obtain ⟨f2, hf2⟩ : ∃ z, z = l[k].2.1 := ⟨_, rfl⟩
        obtain ⟨f3, hf3⟩ : ∃ z, z = l[k].2.2 := ⟨_, rfl⟩
        have hfk : l[k] = (f1, f2, f3) := by rw [hf1, hf2, hf3]
        have hek : w.cell? ⟨b, off + k * 3, none⟩ = some (.int .i64 f1) ∧ w.cell? ⟨b, off + k * 3 + 1, none⟩ = some (.int .i64 f2) ∧ w.cell? ⟨b, off + k * 3 + 2, none⟩ = some (.int .i64 f3) := by rw [hf1, hf2, hf3]; exact hcell k hlt
        have HE := Lib.hid hek
        have HF := Lib.hid hfk
        clear hcell hf1 hf2 hf3 hfk hek
        go_wp2
        go_loopw [4, 5, 6] (fun i _ _ wx => ∃ j : Nat, j ≤ k ∧ i = .int .i64 j ∧ Kept (∀ b (_ : b < j), clash (f1, f2, f3) (l.getD b (0, 0, 0)) = false) ∧ Below w1.heap.size w1 wx) (fun i _ _ _ => k - (intOf i).toNat)
        case atStart => exact ⟨0, by omega, rfl, ⟨fun b h1 => absurd h1 (Nat.not_lt_zero _)⟩, Below.refl _ _⟩
        case round =>
          obtain ⟨j, hj, rfl, hin, hbx⟩ := hrel
          have hBx := hBw1.trans (hbx.mono hBw1.size)
          have hbelx := hbel1.trans (hbx.mono hbel1.size)
          by_cases hjl : j < k
          · have hjx : j < l.length := by omega
            have hjI : (j : Int) < (k : Int) := by omega
            have hjI2 : (j : Int) < (l.length : Int) := by omega
            obtain ⟨d1, d2, d3⟩ := HC.out j hjx
            obtain ⟨g1, hg1⟩ : ∃ z, z = l[j].1 := ⟨_, rfl⟩
            obtain ⟨g2, hg2⟩ : ∃ z, z = l[j].2.1 := ⟨_, rfl⟩
            obtain ⟨g3, hg3⟩ : ∃ z, z = l[j].2.2 := ⟨_, rfl⟩
            have hgk : l[j] = (g1, g2, g3) := by rw [hg1, hg2, hg3]
            rw [← hg1] at d1
            rw [← hg2] at d2
            rw [← hg3] at d3
            have hcl : clash (f1, f2, f3) l[j] = (decide (f2 = g2) && (decide (f1 = g1) || decide (f3 = g3))) := by rw [hgk]; rfl
            have HCL := Lib.hid hcl
            have hyes : clash (f1, f2, f3) l[j] = true → Kept (isFold r n l = false) := fun h => ⟨isFold_clash (noClash_at hlt hjx (by omega) (by rw [HF.out]; exact h))⟩
            have HYES := Lib.hid hyes
            have hno : clash (f1, f2, f3) l[j] = false → Kept (∀ b (_ : b < j + 1), clash (f1, f2, f3) (l.getD b (0, 0, 0)) = false) := fun h => ⟨fun b h1 => by
              by_cases hbj : b = j
              · subst hbj; rw [getD_at hjx]; exact h
              · exact hin.out b (by omega)⟩
            have HNO := Lib.hid hno
            clear hg1 hg2 hg3 hgk hcl hyes hno
            -- the worlds on the way
            obtain ⟨x1, x2, x3⟩ := HE.out
            have a1 := (hBx.cell (p := ⟨b, off + k * 3, none⟩) hb).trans x1
            have a2 := (hBx.cell (p := ⟨b, off + k * 3 + 1, none⟩) hb).trans x2
            have a3 := (hBx.cell (p := ⟨b, off + k * 3 + 2, none⟩) hb).trans x3
            obtain ⟨_, _, r3⟩ := (BX.out.keep hbelx).cells
            have hbelA := hbelx.alloc hbelx.size (.cells #[.int .i64 f1, .int .i64 f2, .int .i64 f3] 42 (0, 0))
            have hBA := hB.trans (hbelA.mono hB.size)
            obtain ⟨_, _, s3⟩ := (BX.out.keep hbelA).cells
            have b1 := (hBA.cell (p := ⟨b, off + j * 3, none⟩) hb).trans d1
            have b2 := (hBA.cell (p := ⟨b, off + j * 3 + 1, none⟩) hb).trans d2
            have b3 := (hBA.cell (p := ⟨b, off + j * 3 + 2, none⟩) hb).trans d3
            have hbelB := hbelA.alloc hbelA.size (.cells #[.int .i64 g1, .int .i64 g2, .int .i64 g3] 42 (0, 0))
            have hBB := hB.trans (hbelB.mono hB.size)
            have hbxB := (hbx.alloc hbx.size (.cells #[.int .i64 f1, .int .i64 f2, .int .i64 f3] 42 (0, 0))).alloc (by have := hbx.size; simp; omega) (.cells #[.int .i64 g1, .int .i64 g2, .int .i64 g3] 42 (0, 0))
            clear x1 x2 x3 d1 d2 d3
            by_cases h2 : f2 = g2
            · have t2 : (f2 == g2) = true := by simp [h2]
              by_cases h1 : f1 = g1
              · have t1 : (f1 == g1) = true := by simp [h1]
                have hst := HYES.out (by rw [HCL.out, decide_eq_true h2, decide_eq_true h1]; rfl)
                clear h1 h2
                go_wp2
                go_ret
                rw [hst.out]
                exact ⟨rfl, hBB⟩
              · have t1 : (f1 == g1) = false := by simp [h1]
                by_cases h3 : f3 = g3
                · have t3 : (f3 == g3) = true := by simp [h3]
                  have hst := HYES.out (by rw [HCL.out, decide_eq_true h2, decide_eq_true h3, Bool.or_true]; rfl)
                  clear h1 h2 h3
                  go_wp2
                  go_ret
                  rw [hst.out]
                  exact ⟨rfl, hBB⟩
                · have t3 : (f3 == g3) = false := by simp [h3]
                  have hst := HNO.out (by rw [HCL.out, decide_eq_false h1, decide_eq_false h3, Bool.or_false, Bool.and_false])
                  clear h1 h2 h3
                  go_wp2
                  go_roundw
                  case rel => exact ⟨j + 1, by omega, by go_num, hst, hbxB⟩
                  case measure => simp [intOf]; omega
            · have t2 : (f2 == g2) = false := by simp [h2]
              have hst := HNO.out (by rw [HCL.out, decide_eq_false h2, Bool.false_and])
              clear h2
              go_wp2
              go_roundw
              case rel => exact ⟨j + 1, by omega, by go_num, hst, hbxB⟩
              case measure => simp [intOf]; omega
          · obtain rfl : j = k := by omega
            have hnext : Kept (∀ a b (_ : a < j + 1) (_ : b < a), clash (l.getD a (0, 0, 0)) (l.getD b (0, 0, 0)) = false) := ⟨fun a b h1 h2 => by
              by_cases hak : a < j
              · exact hall.out a b hak h2
              · obtain rfl : a = j := by omega
                rw [getD_at hlt, HF.out]; exact hin.out b h2⟩
            go_wp2
            go_roundw
            case rel => exact ⟨j + 1, by omega, by go_num, hnext, hbel1.trans (hbx.mono hbel1.size)⟩
            case measure => simp [intOf]; omega
    · obtain rfl : k = l.length := by omega
      have hst : Kept (isFold r n l = y) := ⟨by
        cases y with
        | false => exact isFold_not HY.out.symm
        | true => exact isFold_yes HY.out.symm (noClash_iff.2 fun i j hi hj => hall.out i j hi hj)⟩
      go_wp2_with fail
      refine (HQ.out _ hBw).mono ?_
      rintro e w2 ⟨rfl, hb2⟩
      go_wp2
      go_ret
      rw [hst.out]
      exact ⟨rfl, hBw.trans (hb2.mono hBw.size)⟩
end Go.Proofs.Ytpebiacdkfpnpaa
