/- The walks of the laws on WalkWord and ReadLength. Conditions: none. -/
import Derived.Test.YtpebiacdkfpnpaaReadI
import Derived.Test.YtpebiacdkfpnpaaOpenE
namespace Go.Proofs.Ytpebiacdkfpnpaa
open Go.RowKit

set_option maxHeartbeats 3200000 in
theorem walkFnExactWalkWord (w : World) (r0 n0 : Int) (a0 : Option Addr) (len0 cap0 : Nat) (L0 : List Ed) (wr0 : (Lit.int .i64 r0).wf = true) (wn0 : (Lit.int .i64 n0).wf = true) (A0 : ArgE w a0 len0 cap0 L0) (a1 : Int) (w1 : (Lit.int .i64 a1).wf = true) (a2 : Option Addr) (len2 cap2 : Nat) (z2 : List Int) (w2 : IsRow .i64 w a2 len2 cap2 z2) :
    Calls Try.prog 7 #[graphV r0 n0 (.slice a0 len0 cap0), .int .i64 a1, .slice a2 len2 cap2] w fun e w' => e = .returned (.bool true) ∧ Below w.heap.size w w' := by
  have ir0 := i64_of_wf wr0
  have in0 := i64_of_wf wn0
  clear wr0 wn0
  have i1 := i64_of_wf w1
  clear w1
  by_cases c2 : len2 ≤ 1048576
  case neg =>
    have c2' : 1048576 < len2 := by omega
    clear A0
    clear w2
    go_enter Try.func7, Try.ntmps7
    go_wp2
    go_ret
    exact ⟨rfl, (Below.refl _ _).alloc (Nat.le_refl _) _⟩
  have mx0 : len0 ≤ 9223372036854775807 := A0.2.2
  by_cases c0 : (len0 : Int) ≤ 1048576
  case neg =>
    have c0' : 1048576 < (len0 : Int) := by omega
    go_enter Try.func7, Try.ntmps7
    have hB := Below.refl w.heap.size w
    have hal := (Below.refl w.heap.size w).alloc (Nat.le_refl _) (Obj.cells #[.int .i64 r0, .int .i64 n0, .slice a0 len0 cap0] 24)
    replace hB := hB.trans (hal.mono hB.size)
    clear hal
    have bx_p0 := Box.new w (Obj.cells #[.int .i64 r0, .int .i64 n0, .slice a0 len0 cap0] 24)
    obtain ⟨q_p0a, q_p0b, q_p0c⟩ := bx_p0.cells
    go_wp2_with fail
    refine (szGraph_over r0 n0 _ a0 len0 cap0 _ c0' (by omega) mx0).mono ?_
    rintro e w1' ⟨rfl, hb⟩
    clear q_p0a q_p0b q_p0c
    replace bx_p0 := bx_p0.keep hb
    replace hB := hB.trans (hb.mono hB.size)
    clear hb
    obtain ⟨q_p0a, q_p0b, q_p0c⟩ := bx_p0.cells
    go_wp2
    go_ret
    exact ⟨rfl, hB⟩
  have nE0 : L0.length ≤ 1048576 := by rw [A0.len]; omega
  obtain ⟨L2, A2⟩ : ∃ L, ArgI w a2 len2 cap2 L := ⟨_, z2, w2, rfl⟩
  have n2 : L2.length ≤ 1048576 := by rw [A2.len]; exact c2
  have i2 := A2.i64
  clear w2
  obtain ⟨V0, hV0⟩ : ∃ R, R = walkV r0 n0 a1 L0 L2 := ⟨_, rfl⟩
  obtain ⟨V1, hV1⟩ : ∃ R, R = walkOk r0 n0 a1 L0 L2 := ⟨_, rfl⟩
  have cS : ∀ (W : World) (u0 : Value) (u2 : Value) (h0 : Edges W u0 L0) (h2 : Ints W u2 L2), Calls Try.prog 28 #[graphV r0 n0 u0, .int .i64 a1, u2] W (RetV W (.tuple #[(.int .i64 V0), (.bool V1)])) := fun W u0 u2 h0 h2 => by rw [hV0, hV1]; exact walkWordS_any _ _ _ _ _ _ _ _ h0 h2 (by omega) (by omega)
  have cI : ∀ (W : World) (u0 : Value) (u2 : Value) (h0 : Edges W u0 L0) (h2 : Ints W u2 L2), Calls Try.prog 29 #[graphV r0 n0 u0, .int .i64 a1, u2] W (RetV W (.tuple #[(.int .i64 V0), (.bool V1)])) := fun W u0 u2 h0 h2 => by rw [hV0, hV1]; exact walkWord_any _ _ _ _ _ _ _ _ h0 h2 (by omega) (by omega)
  have CS := Lib.hid cS
  have CI := Lib.hid cI
  clear cS cI hV0 hV1
  go_enter Try.func7, Try.ntmps7
  have hB := Below.refl w.heap.size w
  have hal := (Below.refl w.heap.size w).alloc (Nat.le_refl _) (Obj.cells #[.int .i64 r0, .int .i64 n0, .slice a0 len0 cap0] 24)
  replace hB := hB.trans (hal.mono hB.size)
  clear hal
  have bx_p0 := Box.new w (Obj.cells #[.int .i64 r0, .int .i64 n0, .slice a0 len0 cap0] 24)
  obtain ⟨q_p0a, q_p0b, q_p0c⟩ := bx_p0.cells
  go_wp2_with fail
  refine (szGraph_fits r0 n0 _ a0 len0 cap0 _ c0 (by omega)).mono ?_
  rintro e w1' ⟨rfl, hb⟩
  clear q_p0a q_p0b q_p0c
  replace bx_p0 := bx_p0.keep hb
  replace hB := hB.trans (hb.mono hB.size)
  clear hb
  obtain ⟨q_p0a, q_p0b, q_p0c⟩ := bx_p0.cells
  go_wp2_with fail
  refine (toGraph_arg r0 n0 A0 hB (by omega)).mono ?_
  rintro e w2' ⟨v_t1, rfl, oe_t1, hb⟩
  clear q_p0a q_p0b q_p0c
  have o_t1 : OwnN _ _ _ _ := .inr oe_t1
  clear oe_t1
  replace o_t1 := o_t1.base hB.size
  replace bx_p0 := bx_p0.keep hb
  replace hB := hB.trans (hb.mono hB.size)
  clear hb
  obtain ⟨q_p0a, q_p0b, q_p0c⟩ := bx_p0.cells
  go_wp2_with fail
  refine (toIntS_arg A2 hB c2).mono ?_
  rintro e w3' ⟨v_t2, rfl, o_t2, hb⟩
  clear q_p0a q_p0b q_p0c
  replace o_t2 := o_t2.base hB.size
  replace o_t1 := o_t1.keep hb
  replace bx_p0 := bx_p0.keep hb
  replace hB := hB.trans (hb.mono hB.size)
  clear hb
  obtain ⟨q_p0a, q_p0b, q_p0c⟩ := bx_p0.cells
  go_wp2_with fail
  refine (CS.out _ _ _ o_t1.edges o_t2.ints).mono ?_
  rintro e w4' ⟨rfl, hb⟩
  clear q_p0a q_p0b q_p0c
  replace o_t1 := o_t1.keep hb
  replace o_t2 := o_t2.keep hb
  replace bx_p0 := bx_p0.keep hb
  replace hB := hB.trans (hb.mono hB.size)
  clear hb
  clear o_t1 
  clear o_t2 
  obtain ⟨q_p0a, q_p0b, q_p0c⟩ := bx_p0.cells
  go_wp2_with fail
  refine (toGraph_arg r0 n0 A0 hB (by omega)).mono ?_
  rintro e w5' ⟨v_x0, rfl, oe_x0, hb⟩
  clear q_p0a q_p0b q_p0c
  have o_x0 : OwnN _ _ _ _ := .inr oe_x0
  clear oe_x0
  replace o_x0 := o_x0.base hB.size
  replace bx_p0 := bx_p0.keep hb
  replace hB := hB.trans (hb.mono hB.size)
  clear hb
  obtain ⟨A_x0, c_x0, rfl⟩ := o_x0.edges.form
  have hal := (Below.refl w5'.heap.size w5').alloc (Nat.le_refl _) (Obj.cells #[.int .i64 r0, .int .i64 n0, .slice A_x0 L0.length c_x0] 29)
  replace o_x0 := o_x0.keep hal
  replace bx_p0 := bx_p0.keep hal
  replace hB := hB.trans (hal.mono hB.size)
  clear hal
  have bx_x0 := Box.new w5' (Obj.cells #[.int .i64 r0, .int .i64 n0, .slice A_x0 L0.length c_x0] 29)
  obtain ⟨q_p0a, q_p0b, q_p0c⟩ := bx_p0.cells
  obtain ⟨q_x0a, q_x0b, q_x0c⟩ := bx_x0.cells
  go_wp2_with fail
  refine (toIntS_arg A2 hB c2).mono ?_
  rintro e w6' ⟨v_x2, rfl, o_x2, hb⟩
  clear q_p0a q_p0b q_p0c q_x0a q_x0b q_x0c
  replace o_x2 := o_x2.base hB.size
  replace o_x0 := o_x0.keep hb
  replace bx_p0 := bx_p0.keep hb
  replace bx_x0 := bx_x0.keep hb
  replace hB := hB.trans (hb.mono hB.size)
  clear hb
  obtain ⟨q_p0a, q_p0b, q_p0c⟩ := bx_p0.cells
  obtain ⟨q_x0a, q_x0b, q_x0c⟩ := bx_x0.cells
  go_wp2_with fail
  refine (CI.out _ _ _ o_x0.edges o_x2.ints).mono ?_
  rintro e w7' ⟨rfl, hb⟩
  clear q_p0a q_p0b q_p0c q_x0a q_x0b q_x0c
  replace o_x0 := o_x0.keep hb
  replace o_x2 := o_x2.keep hb
  replace bx_p0 := bx_p0.keep hb
  replace bx_x0 := bx_x0.keep hb
  replace hB := hB.trans (hb.mono hB.size)
  clear hb
  obtain ⟨q_p0a, q_p0b, q_p0c⟩ := bx_p0.cells
  obtain ⟨q_x0a, q_x0b, q_x0c⟩ := bx_x0.cells
  have hd := (Below.refl w7'.heap.size w7').drew
  go_wp2
  go_region_law (first
    | (go_simp; go_at_call 12; refine (toGraph_arg r0 n0 A0 (hB.trans (hd.mono hB.size)) (by omega)).mono ?_; rintro e w8' ⟨v_tt, rfl, o_tt, hb⟩; replace hb := hd.trans (hb.mono hd.size); replace o_x0 := o_x0.keep hb; replace o_x2 := o_x2.keep hb; replace bx_p0 := bx_p0.keep hb; replace bx_x0 := bx_x0.keep hb; obtain ⟨s_p0a, s_p0b, s_p0c⟩ := bx_p0.cells; obtain ⟨s_x0a, s_x0b, s_x0c⟩ := bx_x0.cells; replace hB := hB.trans (hb.mono hB.size); clear hb)
    | (go_simp; go_at_call 14; refine (eqGraph_any r0 n0 _ _ L0 _ o_x0.edges o_tt.edges (by omega)).mono ?_; rintro e w9' ⟨rfl, hb⟩))
  all_goals
    clear q_p0a q_p0b q_p0c s_p0a s_p0b s_p0c q_x0a q_x0b q_x0c s_x0a s_x0b s_x0c o_tt hd
    replace o_x0 := o_x0.keep hb
    replace o_x2 := o_x2.keep hb
    replace bx_p0 := bx_p0.keep hb
    replace bx_x0 := bx_x0.keep hb
    replace hB := hB.trans (hb.mono hB.size)
    clear hb
    obtain ⟨q_p0a, q_p0b, q_p0c⟩ := bx_p0.cells
    obtain ⟨q_x0a, q_x0b, q_x0c⟩ := bx_x0.cells
    go_wp2_with fail
    refine (toIntS_arg A2 hB c2).mono ?_
    rintro e w10' ⟨v_t3, rfl, o_t3, hb⟩
    clear q_p0a q_p0b q_p0c q_x0a q_x0b q_x0c
    replace o_t3 := o_t3.base hB.size
    replace o_x0 := o_x0.keep hb
    replace o_x2 := o_x2.keep hb
    replace bx_p0 := bx_p0.keep hb
    replace bx_x0 := bx_x0.keep hb
    replace hB := hB.trans (hb.mono hB.size)
    clear hb
    obtain ⟨q_p0a, q_p0b, q_p0c⟩ := bx_p0.cells
    obtain ⟨q_x0a, q_x0b, q_x0c⟩ := bx_x0.cells
    go_wp2_with fail
    refine (eqIntS_any _ _ L2 _ o_x2.ints o_t3.ints (by omega)).mono ?_
    rintro e w11' ⟨rfl, hb⟩
    clear q_p0a q_p0b q_p0c q_x0a q_x0b q_x0c
    replace o_x0 := o_x0.keep hb
    replace o_x2 := o_x2.keep hb
    replace o_t3 := o_t3.keep hb
    replace bx_p0 := bx_p0.keep hb
    replace bx_x0 := bx_x0.keep hb
    replace hB := hB.trans (hb.mono hB.size)
    clear hb
    clear o_t3 
    obtain ⟨q_p0a, q_p0b, q_p0c⟩ := bx_p0.cells
    obtain ⟨q_x0a, q_x0b, q_x0c⟩ := bx_x0.cells
    go_wp2
    go_ret
    exact ⟨rfl, hB⟩
set_option maxHeartbeats 3200000 in
theorem walkFnExactReadLength (w : World) (r0 n0 : Int) (a0 : Option Addr) (len0 cap0 : Nat) (L0 : List Ed) (wr0 : (Lit.int .i64 r0).wf = true) (wn0 : (Lit.int .i64 n0).wf = true) (A0 : ArgE w a0 len0 cap0 L0) (a1 : Int) (w1 : (Lit.int .i64 a1).wf = true) (a2 : Option Addr) (len2 cap2 : Nat) (z2 : List Int) (w2 : IsRow .i64 w a2 len2 cap2 z2) :
    Calls Try.prog 6 #[graphV r0 n0 (.slice a0 len0 cap0), .int .i64 a1, .slice a2 len2 cap2] w fun e w' => e = .returned (.bool true) ∧ Below w.heap.size w w' := by
  have ir0 := i64_of_wf wr0
  have in0 := i64_of_wf wn0
  clear wr0 wn0
  have i1 := i64_of_wf w1
  clear w1
  by_cases c2 : len2 ≤ 1048576
  case neg =>
    have c2' : 1048576 < len2 := by omega
    clear A0
    clear w2
    go_enter Try.func6, Try.ntmps6
    go_wp2
    go_ret
    exact ⟨rfl, (Below.refl _ _).alloc (Nat.le_refl _) _⟩
  have mx0 : len0 ≤ 9223372036854775807 := A0.2.2
  by_cases c0 : (len0 : Int) ≤ 1048576
  case neg =>
    have c0' : 1048576 < (len0 : Int) := by omega
    go_enter Try.func6, Try.ntmps6
    have hB := Below.refl w.heap.size w
    have hal := (Below.refl w.heap.size w).alloc (Nat.le_refl _) (Obj.cells #[.int .i64 r0, .int .i64 n0, .slice a0 len0 cap0] 24)
    replace hB := hB.trans (hal.mono hB.size)
    clear hal
    have bx_p0 := Box.new w (Obj.cells #[.int .i64 r0, .int .i64 n0, .slice a0 len0 cap0] 24)
    obtain ⟨q_p0a, q_p0b, q_p0c⟩ := bx_p0.cells
    go_wp2_with fail
    refine (szGraph_over r0 n0 _ a0 len0 cap0 _ c0' (by omega) mx0).mono ?_
    rintro e w1' ⟨rfl, hb⟩
    clear q_p0a q_p0b q_p0c
    replace bx_p0 := bx_p0.keep hb
    replace hB := hB.trans (hb.mono hB.size)
    clear hb
    obtain ⟨q_p0a, q_p0b, q_p0c⟩ := bx_p0.cells
    go_wp2
    go_ret
    exact ⟨rfl, hB⟩
  have nE0 : L0.length ≤ 1048576 := by rw [A0.len]; omega
  obtain ⟨L2, A2⟩ : ∃ L, ArgI w a2 len2 cap2 L := ⟨_, z2, w2, rfl⟩
  have n2 : L2.length ≤ 1048576 := by rw [A2.len]; exact c2
  have i2 := A2.i64
  clear w2
  obtain ⟨V0, hV0⟩ : ∃ R, R = readLen r0 n0 a1 L0 L2 := ⟨_, rfl⟩
  have cS : ∀ (W : World) (u0 : Value) (u2 : Value) (h0 : Edges W u0 L0) (h2 : Ints W u2 L2), Calls Try.prog 25 #[graphV r0 n0 u0, .int .i64 a1, u2] W (RetV W (.int .i64 V0)) := fun W u0 u2 h0 h2 => by rw [hV0]; exact readLengthS_any _ _ _ _ _ _ _ _ h0 h2 (by omega) (by omega)
  have cI : ∀ (W : World) (u0 : Value) (u2 : Value) (h0 : Edges W u0 L0) (h2 : Ints W u2 L2), Calls Try.prog 27 #[graphV r0 n0 u0, .int .i64 a1, u2] W (RetV W (.int .i64 V0)) := fun W u0 u2 h0 h2 => by rw [hV0]; exact readLength_any _ _ _ _ _ _ _ _ h0 h2 (by omega) (by omega)
  have CS := Lib.hid cS
  have CI := Lib.hid cI
  clear cS cI hV0
  go_enter Try.func6, Try.ntmps6
  have hB := Below.refl w.heap.size w
  have hal := (Below.refl w.heap.size w).alloc (Nat.le_refl _) (Obj.cells #[.int .i64 r0, .int .i64 n0, .slice a0 len0 cap0] 24)
  replace hB := hB.trans (hal.mono hB.size)
  clear hal
  have bx_p0 := Box.new w (Obj.cells #[.int .i64 r0, .int .i64 n0, .slice a0 len0 cap0] 24)
  obtain ⟨q_p0a, q_p0b, q_p0c⟩ := bx_p0.cells
  go_wp2_with fail
  refine (szGraph_fits r0 n0 _ a0 len0 cap0 _ c0 (by omega)).mono ?_
  rintro e w1' ⟨rfl, hb⟩
  clear q_p0a q_p0b q_p0c
  replace bx_p0 := bx_p0.keep hb
  replace hB := hB.trans (hb.mono hB.size)
  clear hb
  obtain ⟨q_p0a, q_p0b, q_p0c⟩ := bx_p0.cells
  go_wp2_with fail
  refine (toGraph_arg r0 n0 A0 hB (by omega)).mono ?_
  rintro e w2' ⟨v_t1, rfl, oe_t1, hb⟩
  clear q_p0a q_p0b q_p0c
  have o_t1 : OwnN _ _ _ _ := .inr oe_t1
  clear oe_t1
  replace o_t1 := o_t1.base hB.size
  replace bx_p0 := bx_p0.keep hb
  replace hB := hB.trans (hb.mono hB.size)
  clear hb
  obtain ⟨q_p0a, q_p0b, q_p0c⟩ := bx_p0.cells
  go_wp2_with fail
  refine (toIntS_arg A2 hB c2).mono ?_
  rintro e w3' ⟨v_t2, rfl, o_t2, hb⟩
  clear q_p0a q_p0b q_p0c
  replace o_t2 := o_t2.base hB.size
  replace o_t1 := o_t1.keep hb
  replace bx_p0 := bx_p0.keep hb
  replace hB := hB.trans (hb.mono hB.size)
  clear hb
  obtain ⟨q_p0a, q_p0b, q_p0c⟩ := bx_p0.cells
  go_wp2_with fail
  refine (CS.out _ _ _ o_t1.edges o_t2.ints).mono ?_
  rintro e w4' ⟨rfl, hb⟩
  clear q_p0a q_p0b q_p0c
  replace o_t1 := o_t1.keep hb
  replace o_t2 := o_t2.keep hb
  replace bx_p0 := bx_p0.keep hb
  replace hB := hB.trans (hb.mono hB.size)
  clear hb
  clear o_t1 
  clear o_t2 
  obtain ⟨q_p0a, q_p0b, q_p0c⟩ := bx_p0.cells
  go_wp2_with fail
  refine (toGraph_arg r0 n0 A0 hB (by omega)).mono ?_
  rintro e w5' ⟨v_x0, rfl, oe_x0, hb⟩
  clear q_p0a q_p0b q_p0c
  have o_x0 : OwnN _ _ _ _ := .inr oe_x0
  clear oe_x0
  replace o_x0 := o_x0.base hB.size
  replace bx_p0 := bx_p0.keep hb
  replace hB := hB.trans (hb.mono hB.size)
  clear hb
  obtain ⟨A_x0, c_x0, rfl⟩ := o_x0.edges.form
  have hal := (Below.refl w5'.heap.size w5').alloc (Nat.le_refl _) (Obj.cells #[.int .i64 r0, .int .i64 n0, .slice A_x0 L0.length c_x0] 29)
  replace o_x0 := o_x0.keep hal
  replace bx_p0 := bx_p0.keep hal
  replace hB := hB.trans (hal.mono hB.size)
  clear hal
  have bx_x0 := Box.new w5' (Obj.cells #[.int .i64 r0, .int .i64 n0, .slice A_x0 L0.length c_x0] 29)
  obtain ⟨q_p0a, q_p0b, q_p0c⟩ := bx_p0.cells
  obtain ⟨q_x0a, q_x0b, q_x0c⟩ := bx_x0.cells
  go_wp2_with fail
  refine (toIntS_arg A2 hB c2).mono ?_
  rintro e w6' ⟨v_x2, rfl, o_x2, hb⟩
  clear q_p0a q_p0b q_p0c q_x0a q_x0b q_x0c
  replace o_x2 := o_x2.base hB.size
  replace o_x0 := o_x0.keep hb
  replace bx_p0 := bx_p0.keep hb
  replace bx_x0 := bx_x0.keep hb
  replace hB := hB.trans (hb.mono hB.size)
  clear hb
  obtain ⟨q_p0a, q_p0b, q_p0c⟩ := bx_p0.cells
  obtain ⟨q_x0a, q_x0b, q_x0c⟩ := bx_x0.cells
  go_wp2_with fail
  refine (CI.out _ _ _ o_x0.edges o_x2.ints).mono ?_
  rintro e w7' ⟨rfl, hb⟩
  clear q_p0a q_p0b q_p0c q_x0a q_x0b q_x0c
  replace o_x0 := o_x0.keep hb
  replace o_x2 := o_x2.keep hb
  replace bx_p0 := bx_p0.keep hb
  replace bx_x0 := bx_x0.keep hb
  replace hB := hB.trans (hb.mono hB.size)
  clear hb
  obtain ⟨q_p0a, q_p0b, q_p0c⟩ := bx_p0.cells
  obtain ⟨q_x0a, q_x0b, q_x0c⟩ := bx_x0.cells
  have hd := (Below.refl w7'.heap.size w7').drew
  go_wp2
  go_region_law (first
    | (go_simp; go_at_call 12; refine (toGraph_arg r0 n0 A0 (hB.trans (hd.mono hB.size)) (by omega)).mono ?_; rintro e w8' ⟨v_tt, rfl, o_tt, hb⟩; replace hb := hd.trans (hb.mono hd.size); replace o_x0 := o_x0.keep hb; replace o_x2 := o_x2.keep hb; replace bx_p0 := bx_p0.keep hb; replace bx_x0 := bx_x0.keep hb; obtain ⟨s_p0a, s_p0b, s_p0c⟩ := bx_p0.cells; obtain ⟨s_x0a, s_x0b, s_x0c⟩ := bx_x0.cells; replace hB := hB.trans (hb.mono hB.size); clear hb)
    | (go_simp; go_at_call 14; refine (eqGraph_any r0 n0 _ _ L0 _ o_x0.edges o_tt.edges (by omega)).mono ?_; rintro e w9' ⟨rfl, hb⟩))
  all_goals
    clear q_p0a q_p0b q_p0c s_p0a s_p0b s_p0c q_x0a q_x0b q_x0c s_x0a s_x0b s_x0c o_tt hd
    replace o_x0 := o_x0.keep hb
    replace o_x2 := o_x2.keep hb
    replace bx_p0 := bx_p0.keep hb
    replace bx_x0 := bx_x0.keep hb
    replace hB := hB.trans (hb.mono hB.size)
    clear hb
    obtain ⟨q_p0a, q_p0b, q_p0c⟩ := bx_p0.cells
    obtain ⟨q_x0a, q_x0b, q_x0c⟩ := bx_x0.cells
    go_wp2_with fail
    refine (toIntS_arg A2 hB c2).mono ?_
    rintro e w10' ⟨v_t3, rfl, o_t3, hb⟩
    clear q_p0a q_p0b q_p0c q_x0a q_x0b q_x0c
    replace o_t3 := o_t3.base hB.size
    replace o_x0 := o_x0.keep hb
    replace o_x2 := o_x2.keep hb
    replace bx_p0 := bx_p0.keep hb
    replace bx_x0 := bx_x0.keep hb
    replace hB := hB.trans (hb.mono hB.size)
    clear hb
    obtain ⟨q_p0a, q_p0b, q_p0c⟩ := bx_p0.cells
    obtain ⟨q_x0a, q_x0b, q_x0c⟩ := bx_x0.cells
    go_wp2_with fail
    refine (eqIntS_any _ _ L2 _ o_x2.ints o_t3.ints (by omega)).mono ?_
    rintro e w11' ⟨rfl, hb⟩
    clear q_p0a q_p0b q_p0c q_x0a q_x0b q_x0c
    replace o_x0 := o_x0.keep hb
    replace o_x2 := o_x2.keep hb
    replace o_t3 := o_t3.keep hb
    replace bx_p0 := bx_p0.keep hb
    replace bx_x0 := bx_x0.keep hb
    replace hB := hB.trans (hb.mono hB.size)
    clear hb
    clear o_t3 
    obtain ⟨q_p0a, q_p0b, q_p0c⟩ := bx_p0.cells
    obtain ⟨q_x0a, q_x0b, q_x0c⟩ := bx_x0.cells
    go_wp2
    go_ret
    exact ⟨rfl, hB⟩
end Go.Proofs.Ytpebiacdkfpnpaa
