/- Contracts of EqualGraphs. Conditions: at most 2^20 edges. -/
import Derived.Test.YtpebiacdkfpnpaaGreatEdges
import Derived.Test.YtpebiacdkfpnpaaGreatBoxes
import Derived.Laws.StructEq
namespace Go.Proofs.YtpebiacdkfpnpaaGreat
open Go.RowKit

def eqE (x y : Ed) : Bool := x.1 == y.1 && (x.2.1 == y.2.1 && x.2.2 == y.2.2)
theorem eqE_iff (x y : Ed) : eqE x y = true ↔ x = y := by
  obtain ⟨a, b, c⟩ := x
  obtain ⟨d, e, f⟩ := y
  simp [eqE]
theorem neq_edge (x y : Ed) (w : World) : (binOp .neq 28 (edV x) (edV y)).run Tryz.prog w = .ok (.bool (!eqE x y)) w := by
  have u3 := Tryz.underlying3
  have a3 := Tryz.isAgg3
  have z3 := Tryz.sizeOf3
  have hS : Tryz.prog.underlying 28 = some (.struct (Tryz.prog.fieldsOf 28)) := by kernel_rfl
  have hp : Tryz.prog.stoodInHeld 28 = false := by kernel_rfl
  rw [run_neq_struct, show (10000 : Nat) = 9999 + 1 from rfl, run_equalIn_agg w 9999 28 _ _ hS hp]
  simp only [Program.fieldsOf, Tryz.underlying28]
  go_simp
  unfold eqE
  by_cases h1 : x.1 = y.1 <;> by_cases h2 : x.2.1 = y.2.1 <;> by_cases h3 : x.2.2 = y.2.2 <;> simp [h1, h2, h3]
theorem eqEs_at {l1 l2 : List Ed} {k : Nat} (h1 : k < l1.length) (h2 : k < l2.length) (h : eqE l1[k] l2[k] = false) : (l1 == l2) = false := by
  rw [beq_eq_false_iff_ne]
  intro e
  subst e
  rw [Bool.eq_false_iff] at h
  exact h ((eqE_iff _ _).2 rfl)
theorem eqEs_take {l1 l2 : List Ed} {k : Nat} (h : l1.take k = l2.take k) (h1 : k < l1.length) (h2 : k < l2.length) (he : eqE l1[k] l2[k] = true) : l1.take (k + 1) = l2.take (k + 1) := by
  rw [take_get h1, take_get h2, h, (eqE_iff _ _).1 he]
theorem eqEs_all {l1 l2 : List Ed} (hl : l1.length = l2.length) (h : l1.take l1.length = l2.take l1.length) : (l1 == l2) = true := by
  rw [List.take_length, hl, List.take_length] at h
  simp [h]
def eqEs (l1 l2 : List Ed) : Bool := l1 == l2
theorem sliceEqual_any (v1 v2 : Value) (l1 l2 : List Ed) (w : World) (h1 : Edges w v1 l1) (h2 : Edges w v2 l2) (hn1 : l1.length ≤ 1048576) :
    Calls Tryz.prog 65 #[v1, v2] w (RetV w (.bool (eqEs l1 l2))) := by
  obtain ⟨A1, cap1, rfl, hc1, hr, hcell1⟩ := h1
  obtain ⟨A2, cap2, rfl, hc2, _, hcell2⟩ := h2
  have H1 := Lib.hid hcell1
  have H2 := Lib.hid hcell2
  clear hcell1 hcell2
  by_cases hl : l1.length = l2.length
  case neg =>
    have hn : ((l1.length : Int) != (l2.length : Int)) = true := by simp only [bne_iff_ne]; omega
    have he : Kept (eqEs l1 l2 = false) := ⟨by simp only [eqEs, beq_eq_false_iff_ne]; intro e; exact hl (by rw [e])⟩
    clear hl
    go_enter Tryz.func65, Tryz.ntmps65
    go_wp2
    go_ret
    rw [he.out]
    exact ⟨rfl, Below.refl _ _⟩
  have hn : ((l1.length : Int) != (l2.length : Int)) = false := by simp only [bne_eq_false_iff_eq]; omega
  have HN := Lib.hid hl
  clear hl
  go_enter Tryz.func65, Tryz.ntmps65
  go_wp2
  go_loopw [5, 13] (fun _ i wr => ∃ k n : Nat, k ≤ l1.length ∧ i = .int .i64 k ∧ Kept (l1.take k = l2.take k) ∧ wr = w.drewN n) (fun _ i _ => l1.length - (intOf i).toNat)
  case atStart => exact ⟨0, 0, by omega, rfl, ⟨rfl⟩, rfl⟩
  case round =>
    obtain ⟨k, n, hk, rfl, htk, rfl⟩ := hrel
    by_cases hlt : k < l1.length
    · have hlt2 : k < l2.length := by rw [← HN.out]; exact hlt
      obtain ⟨b1, off1, rfl, hb1, hcell1⟩ := H1.out (by omega)
      obtain ⟨b2, off2, rfl, hb2, hcell2⟩ := H2.out (by omega)
      obtain ⟨e1, e2, e3⟩ := hcell1 k hlt
      obtain ⟨d1, d2, d3⟩ := hcell2 k hlt2
      have hkl : (k : Int) < (l1.length : Int) := by omega
      have hkl2 : (k : Int) < (l2.length : Int) := by omega
      have hne := fun w => neq_edge l1[k] l2[k] w
      obtain ⟨y, hy⟩ : ∃ y, y = eqE l1[k] l2[k] := ⟨_, rfl⟩
      rw [← hy] at hne
      clear hcell1 hcell2
      cases y with
      | true =>
        have hst : Kept (l1.take (k + 1) = l2.take (k + 1)) := ⟨eqEs_take htk.out hlt hlt2 hy.symm⟩
        clear hy
        go_wp2
        go_quiet (fail)
        go_wp2
        go_roundw
        case rel => exact ⟨k + 1, n + nq, by omega, by go_num, hst, rfl⟩
        case measure => simp [intOf]; omega
      | false =>
        have hst : Kept (eqEs l1 l2 = false) := ⟨eqEs_at hlt hlt2 hy.symm⟩
        clear hy
        go_wp2
        go_quiet (fail)
        go_wp2
        go_ret
        rw [hst.out]
        exact ⟨rfl, below_drewN _ (below_drewN _ (Below.refl _ _))⟩
    · obtain rfl : k = l1.length := by omega
      have hst : Kept (eqEs l1 l2 = true) := ⟨eqEs_all HN.out htk.out⟩
      go_wp2
      go_ret
      rw [hst.out]
      exact ⟨rfl, below_drewN _ (Below.refl _ _)⟩
/-- Whether two graphs are the same. -/
def eqG (r1 n1 : Int) (l1 : List Ed) (r2 n2 : Int) (l2 : List Ed) : Bool := decide (r1 = r2) && (decide (n1 = n2) && eqEs l1 l2)
theorem eqG_r {r1 n1 r2 n2 : Int} {l1 l2 : List Ed} (h : r1 ≠ r2) : eqG r1 n1 l1 r2 n2 l2 = false := by simp [eqG, h]
theorem eqG_n {r1 n1 r2 n2 : Int} {l1 l2 : List Ed} (h : n1 ≠ n2) : eqG r1 n1 l1 r2 n2 l2 = false := by simp [eqG, h]
theorem eqG_l {r n : Int} {l1 l2 : List Ed} : eqG r n l1 r n l2 = eqEs l1 l2 := by simp [eqG]
theorem equalGraphs_any (r1 n1 r2 n2 : Int) (v1 v2 : Value) (l1 l2 : List Ed) (w : World) (h1 : Edges w v1 l1) (h2 : Edges w v2 l2) (hn1 : l1.length ≤ 1048576) :
    Calls Tryz.prog 34 #[graphV r1 n1 v1, graphV r2 n2 v2] w (RetV w (.bool (eqG r1 n1 l1 r2 n2 l2))) := by
  have hB : Below w.heap.size w ((w.alloc (.cells #[.int .i64 r1, .int .i64 n1, v1] 26 (0, 0))).alloc (.cells #[.int .i64 r2, .int .i64 n2, v2] 26 (0, 0))) := ((Below.refl _ _).alloc (Nat.le_refl _) _).alloc (by simp) _
  have i1 := h1.keep hB
  have i2 := h2.keep hB
  obtain ⟨A1, cap1, rfl, _⟩ := h1
  obtain ⟨A2, cap2, rfl, _⟩ := h2
  by_cases hr : r1 = r2
  case neg =>
    have t1 : (r1 == r2) = false := by simp [hr]
    rw [eqG_r hr]
    clear hr
    go_enter Tryz.func34, Tryz.ntmps34
    go_wp2
    go_ret
    exact ⟨rfl, hB⟩
  subst hr
  by_cases hn : n1 = n2
  case neg =>
    have t1 : (n1 == n2) = false := by simp [hn]
    rw [eqG_n hn]
    clear hn
    go_enter Tryz.func34, Tryz.ntmps34
    go_wp2
    go_ret
    exact ⟨rfl, hB⟩
  subst hn
  rw [eqG_l]
  obtain ⟨y, hy⟩ : ∃ y, y = eqEs l1 l2 := ⟨_, rfl⟩
  have hq := sliceEqual_any _ _ l1 l2 _ i1 i2 hn1
  rw [← hy] at hq ⊢
  have HQ := Lib.hid hq
  clear hq hy
  go_enter Tryz.func34, Tryz.ntmps34
  go_wp2_with fail
  refine (HQ.out).mono ?_
  rintro e w' ⟨rfl, hb⟩
  go_wp2
  go_ret
  exact ⟨rfl, hB.trans (hb.mono hB.size)⟩
set_option maxHeartbeats 1600000 in
theorem equalGraphsS_any (r1 n1 r2 n2 : Int) (v1 v2 : Value) (l1 l2 : List Ed) (w : World) (h1 : Edges w v1 l1) (h2 : Edges w v2 l2) (hn1 : l1.length ≤ 1048576) :
    Calls Tryz.prog 8 #[graphV r1 n1 v1, graphV r2 n2 v2] w (RetV w (.bool (eqG r1 n1 l1 r2 n2 l2))) := by
  have hB : Below w.heap.size w ((w.alloc (.cells #[.int .i64 r1, .int .i64 n1, v1] 26 (0, 0))).alloc (.cells #[.int .i64 r2, .int .i64 n2, v2] 26 (0, 0))) := ((Below.refl _ _).alloc (Nat.le_refl _) _).alloc (by simp) _
  obtain ⟨A1, cap1, rfl, hc1, hr, hcell1⟩ := h1
  obtain ⟨A2, cap2, rfl, hc2, _, hcell2⟩ := h2
  have H1 := Lib.hid hcell1
  have H2 := Lib.hid hcell2
  clear hcell1 hcell2
  by_cases hr : r1 = r2
  case neg =>
    have t1 : (r1 != r2) = true := by simp [hr]
    rw [eqG_r hr]
    clear hr
    go_enter Tryz.func8, Tryz.ntmps8
    go_wp2
    go_ret
    exact ⟨rfl, hB⟩
  subst hr
  by_cases hn : n1 = n2
  case neg =>
    have t1 : (n1 != n2) = true := by simp [hn]
    rw [eqG_n hn]
    clear hn
    go_enter Tryz.func8, Tryz.ntmps8
    go_wp2
    go_ret
    exact ⟨rfl, hB⟩
  subst hn
  rw [eqG_l]
  by_cases hl : l1.length = l2.length
  case neg =>
    have hn : ((l1.length : Int) != (l2.length : Int)) = true := by simp only [bne_iff_ne]; omega
    have he : Kept (eqEs l1 l2 = false) := ⟨by simp only [eqEs, beq_eq_false_iff_ne]; intro e; exact hl (by rw [e])⟩
    clear hl
    go_enter Tryz.func8, Tryz.ntmps8
    go_wp2
    go_ret
    rw [he.out]
    exact ⟨rfl, hB⟩
  have hn : ((l1.length : Int) != (l2.length : Int)) = false := by simp only [bne_eq_false_iff_eq]; omega
  have HN := Lib.hid hl
  clear hl
  go_enter Tryz.func8, Tryz.ntmps8
  go_wp2
  obtain ⟨W, hW⟩ : ∃ W, W = ((w.alloc (.cells #[.int .i64 r1, .int .i64 n1, .slice A1 l1.length cap1] 26 (0, 0))).alloc (.cells #[.int .i64 r1, .int .i64 n1, .slice A2 l2.length cap2] 26 (0, 0))) := ⟨_, rfl⟩
  have bx1 : Box W w.heap.size (.cells #[.int .i64 r1, .int .i64 n1, .slice A1 l1.length cap1] 26 (0, 0)) := by rw [hW]; exact Box.first _ _ _
  have bx2 : Box W (w.heap.size + 1) (.cells #[.int .i64 r1, .int .i64 n1, .slice A2 l2.length cap2] 26 (0, 0)) := by rw [hW]; exact Box.two _ _ _
  rw [← hW] at hB
  have BX1 := Lib.hid bx1
  have BX2 := Lib.hid bx2
  clear bx1 bx2
  go_loopw [5] (fun i wr => ∃ k : Nat, k ≤ l1.length ∧ i = .int .i64 k ∧ Kept (l1.take k = l2.take k) ∧ Below W.heap.size W wr) (fun i _ => l1.length - (intOf i).toNat)
  case atStart => exact ⟨0, by omega, rfl, ⟨rfl⟩, by rw [hW]; exact Below.refl _ _⟩
  case round =>
    obtain ⟨k, hk, rfl, htk, hbel⟩ := hrel
    obtain ⟨_, _, q1⟩ := (BX1.out.keep hbel).cells
    obtain ⟨_, _, q2⟩ := (BX2.out.keep hbel).cells
    have hBw := hB.trans (hbel.mono hB.size)
    by_cases hlt : k < l1.length
    · have hlt2 : k < l2.length := by rw [← HN.out]; exact hlt
      obtain ⟨b1, off1, rfl, hb1, hcell1⟩ := H1.out (by omega)
      obtain ⟨b2, off2, rfl, hb2, hcell2⟩ := H2.out (by omega)
      obtain ⟨e1, e2, e3⟩ := hcell1 k hlt
      obtain ⟨d1, d2, d3⟩ := hcell2 k hlt2
      replace e1 := (hBw.cell (p := ⟨b1, off1 + k * 3, none⟩) hb1).trans e1
      replace e2 := (hBw.cell (p := ⟨b1, off1 + k * 3 + 1, none⟩) hb1).trans e2
      replace e3 := (hBw.cell (p := ⟨b1, off1 + k * 3 + 2, none⟩) hb1).trans e3
      replace d1 := (hBw.cell (p := ⟨b2, off2 + k * 3, none⟩) hb2).trans d1
      replace d2 := (hBw.cell (p := ⟨b2, off2 + k * 3 + 1, none⟩) hb2).trans d2
      replace d3 := (hBw.cell (p := ⟨b2, off2 + k * 3 + 2, none⟩) hb2).trans d3
      have hkl : (k : Int) < (l1.length : Int) := by omega
      have hkl2 : (k : Int) < (l2.length : Int) := by omega
      have hne := fun w => neq_edge l1[k] l2[k] w
      obtain ⟨y, hy⟩ : ∃ y, y = eqE l1[k] l2[k] := ⟨_, rfl⟩
      rw [← hy] at hne
      clear hcell1 hcell2
      cases y with
      | true =>
        have hst : Kept (l1.take (k + 1) = l2.take (k + 1)) := ⟨eqEs_take htk.out hlt hlt2 hy.symm⟩
        clear hy hW
        go_wp2
        go_quiet (fail)
        go_wp2
        go_roundw
        case rel => exact ⟨k + 1, by omega, by go_num, hst, below_drewN _ hbel⟩
        case measure => simp [intOf]; omega
      | false =>
        have hst : Kept (eqEs l1 l2 = false) := ⟨eqEs_at hlt hlt2 hy.symm⟩
        clear hy hW
        go_wp2
        go_quiet (fail)
        go_wp2
        go_ret
        rw [hst.out]
        exact ⟨rfl, below_drewN _ hBw⟩
    · obtain rfl : k = l1.length := by omega
      have hst : Kept (eqEs l1 l2 = true) := ⟨eqEs_all HN.out htk.out⟩
      clear hW
      go_wp2
      go_ret
      rw [hst.out]
      exact ⟨rfl, hBw⟩
end Go.Proofs.YtpebiacdkfpnpaaGreat
