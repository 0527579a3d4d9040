/- The walk of the law on EqualGraphs. Conditions: none. -/
import Derived.Test.YtfckgmajjonckaaGraphB
import Derived.Test.YtfckgmajjonckaaBoxes
namespace Go.Proofs.Ytfckgmajjonckaa
open Go.RowKit

set_option maxHeartbeats 3200000 in
theorem walkFnExactEqualGraphs (w : World) (r0 n0 : Int) (a0 : Option Addr) (len0 cap0 : Nat) (L0 : List Ed) (wr0 : (Lit.int .i64 r0).wf = true) (wn0 : (Lit.int .i64 n0).wf = true) (A0 : ArgE w a0 len0 cap0 L0) (r1 n1 : Int) (a1 : Option Addr) (len1 cap1 : Nat) (L1 : List Ed) (wr1 : (Lit.int .i64 r1).wf = true) (wn1 : (Lit.int .i64 n1).wf = true) (A1 : ArgE w a1 len1 cap1 L1) :
    Calls Try.prog 4 #[graphV r0 n0 (.slice a0 len0 cap0), graphV r1 n1 (.slice a1 len1 cap1)] w fun e w' => e = .returned (.bool true) ∧ Below w.heap.size w w' := by
  have ir0 := i64_of_wf wr0
  have in0 := i64_of_wf wn0
  clear wr0 wn0
  have ir1 := i64_of_wf wr1
  have in1 := i64_of_wf wn1
  clear wr1 wn1
  have mx0 : len0 ≤ 9223372036854775807 := A0.2.2
  by_cases c0 : (len0 : Int) ≤ 1048576
  case neg =>
    have c0' : 1048576 < (len0 : Int) := by omega
    go_enter Try.func4, Try.ntmps4
    have hB := Below.refl w.heap.size w
    have hal := (Below.refl w.heap.size w).alloc (Nat.le_refl _) (Obj.cells #[.int .i64 r0, .int .i64 n0, .slice a0 len0 cap0] 24)
    replace hB := hB.trans (hal.mono hB.size)
    clear hal
    have bx_p0 := Box.new w (Obj.cells #[.int .i64 r0, .int .i64 n0, .slice a0 len0 cap0] 24)
    have hal := (Below.refl (w.alloc (Obj.cells #[.int .i64 r0, .int .i64 n0, .slice a0 len0 cap0] 24)).heap.size (w.alloc (Obj.cells #[.int .i64 r0, .int .i64 n0, .slice a0 len0 cap0] 24))).alloc (Nat.le_refl _) (Obj.cells #[.int .i64 r1, .int .i64 n1, .slice a1 len1 cap1] 24)
    replace bx_p0 := bx_p0.keep hal
    replace hB := hB.trans (hal.mono hB.size)
    clear hal
    have bx_p1 : Box ((w.alloc (Obj.cells #[.int .i64 r0, .int .i64 n0, .slice a0 len0 cap0] 24)).alloc (Obj.cells #[.int .i64 r1, .int .i64 n1, .slice a1 len1 cap1] 24)) (w.heap.size + 1) (Obj.cells #[.int .i64 r1, .int .i64 n1, .slice a1 len1 cap1] 24) := by simpa using Box.new (w.alloc (Obj.cells #[.int .i64 r0, .int .i64 n0, .slice a0 len0 cap0] 24)) (Obj.cells #[.int .i64 r1, .int .i64 n1, .slice a1 len1 cap1] 24)
    obtain ⟨q_p0a, q_p0b, q_p0c⟩ := bx_p0.cells
    obtain ⟨q_p1a, q_p1b, q_p1c⟩ := bx_p1.cells
    go_wp2_with fail
    refine (szGraph_over r0 n0 _ a0 len0 cap0 _ c0' (by omega) mx0).mono ?_
    rintro e w1' ⟨rfl, hb⟩
    clear q_p0a q_p0b q_p0c q_p1a q_p1b q_p1c
    replace bx_p0 := bx_p0.keep hb
    replace bx_p1 := bx_p1.keep hb
    replace hB := hB.trans (hb.mono hB.size)
    clear hb
    obtain ⟨q_p0a, q_p0b, q_p0c⟩ := bx_p0.cells
    obtain ⟨q_p1a, q_p1b, q_p1c⟩ := bx_p1.cells
    go_wp2
    go_ret
    exact ⟨rfl, hB⟩
  have mx1 : len1 ≤ 9223372036854775807 := A1.2.2
  by_cases c1 : (len1 : Int) ≤ 1048576 - (len0 : Int)
  case neg =>
    have c1' : 1048576 - (len0 : Int) < (len1 : Int) := by omega
    go_enter Try.func4, Try.ntmps4
    have hB := Below.refl w.heap.size w
    have hal := (Below.refl w.heap.size w).alloc (Nat.le_refl _) (Obj.cells #[.int .i64 r0, .int .i64 n0, .slice a0 len0 cap0] 24)
    replace hB := hB.trans (hal.mono hB.size)
    clear hal
    have bx_p0 := Box.new w (Obj.cells #[.int .i64 r0, .int .i64 n0, .slice a0 len0 cap0] 24)
    have hal := (Below.refl (w.alloc (Obj.cells #[.int .i64 r0, .int .i64 n0, .slice a0 len0 cap0] 24)).heap.size (w.alloc (Obj.cells #[.int .i64 r0, .int .i64 n0, .slice a0 len0 cap0] 24))).alloc (Nat.le_refl _) (Obj.cells #[.int .i64 r1, .int .i64 n1, .slice a1 len1 cap1] 24)
    replace bx_p0 := bx_p0.keep hal
    replace hB := hB.trans (hal.mono hB.size)
    clear hal
    have bx_p1 : Box ((w.alloc (Obj.cells #[.int .i64 r0, .int .i64 n0, .slice a0 len0 cap0] 24)).alloc (Obj.cells #[.int .i64 r1, .int .i64 n1, .slice a1 len1 cap1] 24)) (w.heap.size + 1) (Obj.cells #[.int .i64 r1, .int .i64 n1, .slice a1 len1 cap1] 24) := by simpa using Box.new (w.alloc (Obj.cells #[.int .i64 r0, .int .i64 n0, .slice a0 len0 cap0] 24)) (Obj.cells #[.int .i64 r1, .int .i64 n1, .slice a1 len1 cap1] 24)
    obtain ⟨q_p0a, q_p0b, q_p0c⟩ := bx_p0.cells
    obtain ⟨q_p1a, q_p1b, q_p1c⟩ := bx_p1.cells
    go_wp2_with fail
    refine (szGraph_fits r0 n0 _ a0 len0 cap0 _ c0 (by omega)).mono ?_
    rintro e w1' ⟨rfl, hb⟩
    clear q_p0a q_p0b q_p0c q_p1a q_p1b q_p1c
    replace bx_p0 := bx_p0.keep hb
    replace bx_p1 := bx_p1.keep hb
    replace hB := hB.trans (hb.mono hB.size)
    clear hb
    obtain ⟨q_p0a, q_p0b, q_p0c⟩ := bx_p0.cells
    obtain ⟨q_p1a, q_p1b, q_p1c⟩ := bx_p1.cells
    go_wp2_with fail
    refine (szGraph_over r1 n1 _ a1 len1 cap1 _ c1' (by omega) mx1).mono ?_
    rintro e w2' ⟨rfl, hb⟩
    clear q_p0a q_p0b q_p0c q_p1a q_p1b q_p1c
    replace bx_p0 := bx_p0.keep hb
    replace bx_p1 := bx_p1.keep hb
    replace hB := hB.trans (hb.mono hB.size)
    clear hb
    obtain ⟨q_p0a, q_p0b, q_p0c⟩ := bx_p0.cells
    obtain ⟨q_p1a, q_p1b, q_p1c⟩ := bx_p1.cells
    go_wp2
    go_ret
    exact ⟨rfl, hB⟩
  have nE0 : L0.length ≤ 1048576 := by rw [A0.len]; omega
  have nE1 : L1.length ≤ 1048576 := by rw [A1.len]; omega
  obtain ⟨V0, hV0⟩ : ∃ R, R = eqG r0 n0 L0 r1 n1 L1 := ⟨_, rfl⟩
  have cS : ∀ (W : World) (u0 : Value) (u1 : Value) (h0 : Edges W u0 L0) (h1 : Edges W u1 L1), Calls Try.prog 17 #[graphV r0 n0 u0, graphV r1 n1 u1] W (RetV W (.bool V0)) := fun W u0 u1 h0 h1 => by rw [hV0]; exact equalGraphsS_any _ _ _ _ _ _ _ _ _ h0 h1 (by omega)
  have cI : ∀ (W : World) (u0 : Value) (u1 : Value) (h0 : Edges W u0 L0) (h1 : Edges W u1 L1), Calls Try.prog 18 #[graphV r0 n0 u0, graphV r1 n1 u1] W (RetV W (.bool V0)) := fun W u0 u1 h0 h1 => by rw [hV0]; exact equalGraphs_any _ _ _ _ _ _ _ _ _ h0 h1 (by omega)
  have CS := Lib.hid cS
  have CI := Lib.hid cI
  clear cS cI hV0
  go_enter Try.func4, Try.ntmps4
  have hB := Below.refl w.heap.size w
  have hal := (Below.refl w.heap.size w).alloc (Nat.le_refl _) (Obj.cells #[.int .i64 r0, .int .i64 n0, .slice a0 len0 cap0] 24)
  replace hB := hB.trans (hal.mono hB.size)
  clear hal
  have bx_p0 := Box.new w (Obj.cells #[.int .i64 r0, .int .i64 n0, .slice a0 len0 cap0] 24)
  have hal := (Below.refl (w.alloc (Obj.cells #[.int .i64 r0, .int .i64 n0, .slice a0 len0 cap0] 24)).heap.size (w.alloc (Obj.cells #[.int .i64 r0, .int .i64 n0, .slice a0 len0 cap0] 24))).alloc (Nat.le_refl _) (Obj.cells #[.int .i64 r1, .int .i64 n1, .slice a1 len1 cap1] 24)
  replace bx_p0 := bx_p0.keep hal
  replace hB := hB.trans (hal.mono hB.size)
  clear hal
  have bx_p1 : Box ((w.alloc (Obj.cells #[.int .i64 r0, .int .i64 n0, .slice a0 len0 cap0] 24)).alloc (Obj.cells #[.int .i64 r1, .int .i64 n1, .slice a1 len1 cap1] 24)) (w.heap.size + 1) (Obj.cells #[.int .i64 r1, .int .i64 n1, .slice a1 len1 cap1] 24) := by simpa using Box.new (w.alloc (Obj.cells #[.int .i64 r0, .int .i64 n0, .slice a0 len0 cap0] 24)) (Obj.cells #[.int .i64 r1, .int .i64 n1, .slice a1 len1 cap1] 24)
  obtain ⟨q_p0a, q_p0b, q_p0c⟩ := bx_p0.cells
  obtain ⟨q_p1a, q_p1b, q_p1c⟩ := bx_p1.cells
  go_wp2_with fail
  refine (szGraph_fits r0 n0 _ a0 len0 cap0 _ c0 (by omega)).mono ?_
  rintro e w1' ⟨rfl, hb⟩
  clear q_p0a q_p0b q_p0c q_p1a q_p1b q_p1c
  replace bx_p0 := bx_p0.keep hb
  replace bx_p1 := bx_p1.keep hb
  replace hB := hB.trans (hb.mono hB.size)
  clear hb
  obtain ⟨q_p0a, q_p0b, q_p0c⟩ := bx_p0.cells
  obtain ⟨q_p1a, q_p1b, q_p1c⟩ := bx_p1.cells
  go_wp2_with fail
  refine (szGraph_fits r1 n1 _ a1 len1 cap1 _ c1 (by omega)).mono ?_
  rintro e w2' ⟨rfl, hb⟩
  clear q_p0a q_p0b q_p0c q_p1a q_p1b q_p1c
  replace bx_p0 := bx_p0.keep hb
  replace bx_p1 := bx_p1.keep hb
  replace hB := hB.trans (hb.mono hB.size)
  clear hb
  obtain ⟨q_p0a, q_p0b, q_p0c⟩ := bx_p0.cells
  obtain ⟨q_p1a, q_p1b, q_p1c⟩ := bx_p1.cells
  have hd := (Below.refl w2'.heap.size w2').drew
  go_wp2
  go_region_law (first
    | (have _ := o_z1; go_simp; go_at_call 17; refine (CS.out _ _ _ o_z0.edges o_z1.edges).mono ?_; rintro e w5' ⟨rfl, hb⟩)
    | (have _ := o_z0; go_simp; go_at_call 14; refine (toGraph_arg r1 n1 A1 hB (by omega)).mono ?_; rintro e w4' ⟨v_z1, rfl, o_z1, hb⟩; replace o_z0 := o_z0.keep hb; replace bx_p0 := bx_p0.keep hb; replace bx_p1 := bx_p1.keep hb; obtain ⟨s1_p0a, s1_p0b, s1_p0c⟩ := bx_p0.cells; obtain ⟨s1_p1a, s1_p1b, s1_p1c⟩ := bx_p1.cells; replace hB := hB.trans (hb.mono hB.size); clear hb)
    | (go_simp; go_at_call 14; refine (toGraph_arg r0 n0 A0 (hB.trans (hd.mono hB.size)) (by omega)).mono ?_; rintro e w3' ⟨v_z0, rfl, o_z0, hb⟩; replace hb := hd.trans (hb.mono hd.size); replace bx_p0 := bx_p0.keep hb; replace bx_p1 := bx_p1.keep hb; obtain ⟨s0_p0a, s0_p0b, s0_p0c⟩ := bx_p0.cells; obtain ⟨s0_p1a, s0_p1b, s0_p1c⟩ := bx_p1.cells; replace hB := hB.trans (hb.mono hB.size); clear hb))
  all_goals
    clear q_p0a q_p0b q_p0c q_p1a q_p1b q_p1c s0_p0a s0_p0b s0_p0c s0_p1a s0_p1b s0_p1c s1_p0a s1_p0b s1_p0c s1_p1a s1_p1b s1_p1c o_z0 o_z1 hd
    replace bx_p0 := bx_p0.keep hb
    replace bx_p1 := bx_p1.keep hb
    replace hB := hB.trans (hb.mono hB.size)
    clear hb
    obtain ⟨q_p0a, q_p0b, q_p0c⟩ := bx_p0.cells
    obtain ⟨q_p1a, q_p1b, q_p1c⟩ := bx_p1.cells
    go_wp2_with fail
    refine (toGraph_arg r0 n0 A0 hB (by omega)).mono ?_
    rintro e w6' ⟨v_x0, rfl, oe_x0, hb⟩
    clear q_p0a q_p0b q_p0c q_p1a q_p1b q_p1c
    have o_x0 : OwnN _ _ _ _ := .inr oe_x0
    clear oe_x0
    replace o_x0 := o_x0.base hB.size
    replace bx_p0 := bx_p0.keep hb
    replace bx_p1 := bx_p1.keep hb
    replace hB := hB.trans (hb.mono hB.size)
    clear hb
    obtain ⟨A_x0, c_x0, rfl⟩ := o_x0.edges.form
    have hal := (Below.refl w6'.heap.size w6').alloc (Nat.le_refl _) (Obj.cells #[.int .i64 r0, .int .i64 n0, .slice A_x0 L0.length c_x0] 29)
    replace o_x0 := o_x0.keep hal
    replace bx_p0 := bx_p0.keep hal
    replace bx_p1 := bx_p1.keep hal
    replace hB := hB.trans (hal.mono hB.size)
    clear hal
    have bx_x0 := Box.new w6' (Obj.cells #[.int .i64 r0, .int .i64 n0, .slice A_x0 L0.length c_x0] 29)
    obtain ⟨q_p0a, q_p0b, q_p0c⟩ := bx_p0.cells
    obtain ⟨q_p1a, q_p1b, q_p1c⟩ := bx_p1.cells
    obtain ⟨q_x0a, q_x0b, q_x0c⟩ := bx_x0.cells
    go_wp2_with fail
    refine (toGraph_arg r1 n1 A1 hB (by omega)).mono ?_
    rintro e w7' ⟨v_x1, rfl, oe_x1, hb⟩
    clear q_p0a q_p0b q_p0c q_p1a q_p1b q_p1c q_x0a q_x0b q_x0c
    have o_x1 : OwnN _ _ _ _ := .inr oe_x1
    clear oe_x1
    replace o_x1 := o_x1.base hB.size
    replace o_x0 := o_x0.keep hb
    replace bx_p0 := bx_p0.keep hb
    replace bx_p1 := bx_p1.keep hb
    replace bx_x0 := bx_x0.keep hb
    replace hB := hB.trans (hb.mono hB.size)
    clear hb
    obtain ⟨A_x1, c_x1, rfl⟩ := o_x1.edges.form
    have hal := (Below.refl w7'.heap.size w7').alloc (Nat.le_refl _) (Obj.cells #[.int .i64 r1, .int .i64 n1, .slice A_x1 L1.length c_x1] 29)
    replace o_x0 := o_x0.keep hal
    replace o_x1 := o_x1.keep hal
    replace bx_p0 := bx_p0.keep hal
    replace bx_p1 := bx_p1.keep hal
    replace bx_x0 := bx_x0.keep hal
    replace hB := hB.trans (hal.mono hB.size)
    clear hal
    have bx_x1 := Box.new w7' (Obj.cells #[.int .i64 r1, .int .i64 n1, .slice A_x1 L1.length c_x1] 29)
    obtain ⟨q_p0a, q_p0b, q_p0c⟩ := bx_p0.cells
    obtain ⟨q_p1a, q_p1b, q_p1c⟩ := bx_p1.cells
    obtain ⟨q_x0a, q_x0b, q_x0c⟩ := bx_x0.cells
    obtain ⟨q_x1a, q_x1b, q_x1c⟩ := bx_x1.cells
    go_wp2_with fail
    refine (CI.out _ _ _ o_x0.edges o_x1.edges).mono ?_
    rintro e w8' ⟨rfl, hb⟩
    clear q_p0a q_p0b q_p0c q_p1a q_p1b q_p1c q_x0a q_x0b q_x0c q_x1a q_x1b q_x1c
    replace o_x0 := o_x0.keep hb
    replace o_x1 := o_x1.keep hb
    replace bx_p0 := bx_p0.keep hb
    replace bx_p1 := bx_p1.keep hb
    replace bx_x0 := bx_x0.keep hb
    replace bx_x1 := bx_x1.keep hb
    replace hB := hB.trans (hb.mono hB.size)
    clear hb
    obtain ⟨q_p0a, q_p0b, q_p0c⟩ := bx_p0.cells
    obtain ⟨q_p1a, q_p1b, q_p1c⟩ := bx_p1.cells
    obtain ⟨q_x0a, q_x0b, q_x0c⟩ := bx_x0.cells
    obtain ⟨q_x1a, q_x1b, q_x1c⟩ := bx_x1.cells
    have hd := (Below.refl w8'.heap.size w8').drew
    go_wp2
    go_region_law (first
      | (go_simp; go_at_call 14; refine (toGraph_arg r0 n0 A0 (hB.trans (hd.mono hB.size)) (by omega)).mono ?_; rintro e w9' ⟨v_tt, rfl, o_tt, hb⟩; replace hb := hd.trans (hb.mono hd.size); replace o_x0 := o_x0.keep hb; replace o_x1 := o_x1.keep hb; replace bx_p0 := bx_p0.keep hb; replace bx_p1 := bx_p1.keep hb; replace bx_x0 := bx_x0.keep hb; replace bx_x1 := bx_x1.keep hb; obtain ⟨s_p0a, s_p0b, s_p0c⟩ := bx_p0.cells; obtain ⟨s_p1a, s_p1b, s_p1c⟩ := bx_p1.cells; obtain ⟨s_x0a, s_x0b, s_x0c⟩ := bx_x0.cells; obtain ⟨s_x1a, s_x1b, s_x1c⟩ := bx_x1.cells; replace hB := hB.trans (hb.mono hB.size); clear hb)
      | (go_simp; go_at_call 16; refine (eqGraph_any r0 n0 _ _ L0 _ o_x0.edges o_tt.edges (by omega)).mono ?_; rintro e w10' ⟨rfl, hb⟩))
    all_goals
      clear q_p0a q_p0b q_p0c s_p0a s_p0b s_p0c q_p1a q_p1b q_p1c s_p1a s_p1b s_p1c q_x0a q_x0b q_x0c s_x0a s_x0b s_x0c q_x1a q_x1b q_x1c s_x1a s_x1b s_x1c o_tt hd
      replace o_x0 := o_x0.keep hb
      replace o_x1 := o_x1.keep hb
      replace bx_p0 := bx_p0.keep hb
      replace bx_p1 := bx_p1.keep hb
      replace bx_x0 := bx_x0.keep hb
      replace bx_x1 := bx_x1.keep hb
      replace hB := hB.trans (hb.mono hB.size)
      clear hb
      obtain ⟨q_p0a, q_p0b, q_p0c⟩ := bx_p0.cells
      obtain ⟨q_p1a, q_p1b, q_p1c⟩ := bx_p1.cells
      obtain ⟨q_x0a, q_x0b, q_x0c⟩ := bx_x0.cells
      obtain ⟨q_x1a, q_x1b, q_x1c⟩ := bx_x1.cells
      have hd := (Below.refl w10'.heap.size w10').drew
      go_wp2
      go_region_law (first
        | (go_simp; go_at_call 14; refine (toGraph_arg r1 n1 A1 (hB.trans (hd.mono hB.size)) (by omega)).mono ?_; rintro e w11' ⟨v_tt, rfl, o_tt, hb⟩; replace hb := hd.trans (hb.mono hd.size); replace o_x0 := o_x0.keep hb; replace o_x1 := o_x1.keep hb; replace bx_p0 := bx_p0.keep hb; replace bx_p1 := bx_p1.keep hb; replace bx_x0 := bx_x0.keep hb; replace bx_x1 := bx_x1.keep hb; obtain ⟨s_p0a, s_p0b, s_p0c⟩ := bx_p0.cells; obtain ⟨s_p1a, s_p1b, s_p1c⟩ := bx_p1.cells; obtain ⟨s_x0a, s_x0b, s_x0c⟩ := bx_x0.cells; obtain ⟨s_x1a, s_x1b, s_x1c⟩ := bx_x1.cells; replace hB := hB.trans (hb.mono hB.size); clear hb)
        | (go_simp; go_at_call 16; refine (eqGraph_any r1 n1 _ _ L1 _ o_x1.edges o_tt.edges (by omega)).mono ?_; rintro e w12' ⟨rfl, hb⟩))
      all_goals
        clear q_p0a q_p0b q_p0c s_p0a s_p0b s_p0c q_p1a q_p1b q_p1c s_p1a s_p1b s_p1c q_x0a q_x0b q_x0c s_x0a s_x0b s_x0c q_x1a q_x1b q_x1c s_x1a s_x1b s_x1c o_tt hd
        replace o_x0 := o_x0.keep hb
        replace o_x1 := o_x1.keep hb
        replace bx_p0 := bx_p0.keep hb
        replace bx_p1 := bx_p1.keep hb
        replace bx_x0 := bx_x0.keep hb
        replace bx_x1 := bx_x1.keep hb
        replace hB := hB.trans (hb.mono hB.size)
        clear hb
        obtain ⟨q_p0a, q_p0b, q_p0c⟩ := bx_p0.cells
        obtain ⟨q_p1a, q_p1b, q_p1c⟩ := bx_p1.cells
        obtain ⟨q_x0a, q_x0b, q_x0c⟩ := bx_x0.cells
        obtain ⟨q_x1a, q_x1b, q_x1c⟩ := bx_x1.cells
        go_wp2
        go_ret
        exact ⟨rfl, hB⟩
end Go.Proofs.Ytfckgmajjonckaa
