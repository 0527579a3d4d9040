/- The walk of the law on PathWord. Conditions: none. -/
import Derived.Test.YtpebiacdkfpnpaaPathS
import Derived.Test.YtpebiacdkfpnpaaOpenE
namespace Go.Proofs.Ytpebiacdkfpnpaa
open Go.RowKit

set_option maxHeartbeats 3200000 in
theorem walkFnExactPathWord (w : World) (r0 n0 : Int) (a0 : Option Addr) (len0 cap0 : Nat) (L0 : List Ed) (wr0 : (Lit.int .i64 r0).wf = true) (wn0 : (Lit.int .i64 n0).wf = true) (A0 : ArgE w a0 len0 cap0 L0) (a1 : Int) (w1 : (Lit.int .i64 a1).wf = true) (a2 : Int) (w2 : (Lit.int .i64 a2).wf = true) :
    Calls Try.prog 8 #[graphV r0 n0 (.slice a0 len0 cap0), .int .i64 a1, .int .i64 a2] w fun e w' => e = .returned (.bool true) ∧ Below w.heap.size w w' := by
  have ir0 := i64_of_wf wr0
  have in0 := i64_of_wf wn0
  clear wr0 wn0
  have i1 := i64_of_wf w1
  clear w1
  have i2 := i64_of_wf w2
  clear w2
  have mx0 : len0 ≤ 9223372036854775807 := A0.2.2
  by_cases c0 : (len0 : Int) ≤ 1048576
  case neg =>
    have c0' : 1048576 < (len0 : Int) := by omega
    go_enter Try.func8, Try.ntmps8
    have hB := Below.refl w.heap.size w
    have hal := (Below.refl w.heap.size w).alloc (Nat.le_refl _) (Obj.cells #[.int .i64 r0, .int .i64 n0, .slice a0 len0 cap0] 24)
    replace hB := hB.trans (hal.mono hB.size)
    clear hal
    have bx_p0 := Box.new w (Obj.cells #[.int .i64 r0, .int .i64 n0, .slice a0 len0 cap0] 24)
    obtain ⟨q_p0a, q_p0b, q_p0c⟩ := bx_p0.cells
    go_wp2_with fail
    refine (szGraph_over r0 n0 _ a0 len0 cap0 _ c0' (by omega) mx0).mono ?_
    rintro e w1' ⟨rfl, hb⟩
    clear q_p0a q_p0b q_p0c
    replace bx_p0 := bx_p0.keep hb
    replace hB := hB.trans (hb.mono hB.size)
    clear hb
    obtain ⟨q_p0a, q_p0b, q_p0c⟩ := bx_p0.cells
    go_wp2
    go_ret
    exact ⟨rfl, hB⟩
  have nE0 : L0.length ≤ 1048576 := by rw [A0.len]; omega
  obtain ⟨R0, hR0⟩ : ∃ R, R = pathW r0 n0 a1 a2 L0 := ⟨_, rfl⟩
  have bR0 : R0.length ≤ 134217728 := by rw [hR0]; have := pathW_short r0 n0 a1 a2 L0; omega
  obtain ⟨V1, hV1⟩ : ∃ R, R = pathOk r0 n0 a1 a2 L0 := ⟨_, rfl⟩
  have cS : ∀ (W : World) (u0 : Value) (h0 : Edges W u0 L0), Calls Try.prog 30 #[graphV r0 n0 u0, .int .i64 a1, .int .i64 a2] W (RetI2 W R0 (.bool V1)) := fun W u0 h0 => by rw [hR0, hV1]; exact pathWordS_any _ _ _ _ _ _ _ h0 (by omega)
  have cI : ∀ (W : World) (u0 : Value) (h0 : Edges W u0 L0), Calls Try.prog 31 #[graphV r0 n0 u0, .int .i64 a1, .int .i64 a2] W (RetI2 W R0 (.bool V1)) := fun W u0 h0 => by rw [hR0, hV1]; exact pathWord_any _ _ _ _ _ _ _ h0 (by omega)
  have CS := Lib.hid cS
  have CI := Lib.hid cI
  clear cS cI hR0 hV1
  go_enter Try.func8, Try.ntmps8
  have hB := Below.refl w.heap.size w
  have hal := (Below.refl w.heap.size w).alloc (Nat.le_refl _) (Obj.cells #[.int .i64 r0, .int .i64 n0, .slice a0 len0 cap0] 24)
  replace hB := hB.trans (hal.mono hB.size)
  clear hal
  have bx_p0 := Box.new w (Obj.cells #[.int .i64 r0, .int .i64 n0, .slice a0 len0 cap0] 24)
  obtain ⟨q_p0a, q_p0b, q_p0c⟩ := bx_p0.cells
  go_wp2_with fail
  refine (szGraph_fits r0 n0 _ a0 len0 cap0 _ c0 (by omega)).mono ?_
  rintro e w1' ⟨rfl, hb⟩
  clear q_p0a q_p0b q_p0c
  replace bx_p0 := bx_p0.keep hb
  replace hB := hB.trans (hb.mono hB.size)
  clear hb
  obtain ⟨q_p0a, q_p0b, q_p0c⟩ := bx_p0.cells
  go_wp2_with fail
  refine (toGraph_arg r0 n0 A0 hB (by omega)).mono ?_
  rintro e w2' ⟨v_t1, rfl, oe_t1, hb⟩
  clear q_p0a q_p0b q_p0c
  have o_t1 : OwnN _ _ _ _ := .inr oe_t1
  clear oe_t1
  have bn_p0_t1 := bx_p0.far o_t1.lo (Nat.le_refl _)
  replace o_t1 := o_t1.base hB.size
  replace bx_p0 := bx_p0.keep hb
  replace hB := hB.trans (hb.mono hB.size)
  clear hb
  obtain ⟨q_p0a, q_p0b, q_p0c⟩ := bx_p0.cells
  go_wp2_with fail
  refine (CS.out _ _ o_t1.edges).mono ?_
  rintro e w3' ⟨v_w0, rfl, o_w0, hb⟩
  clear q_p0a q_p0b q_p0c
  have ap_w0_t1 := apart_of o_t1.hi o_w0.lo (Nat.le_refl _)
  have bn_p0_w0 := bx_p0.far o_w0.lo (Nat.le_refl _)
  replace o_w0 := o_w0.base hB.size
  replace o_t1 := o_t1.keep hb
  replace bx_p0 := bx_p0.keep hb
  replace hB := hB.trans (hb.mono hB.size)
  clear hb
  clear o_t1 ap_w0_t1 bn_p0_t1
  obtain ⟨q_p0a, q_p0b, q_p0c⟩ := bx_p0.cells
  go_wp2_with fail
  refine (toGraph_arg r0 n0 A0 hB (by omega)).mono ?_
  rintro e w4' ⟨v_x0, rfl, oe_x0, hb⟩
  clear q_p0a q_p0b q_p0c
  have o_x0 : OwnN _ _ _ _ := .inr oe_x0
  clear oe_x0
  have ap_x0_w0 := apart_of o_w0.hi o_x0.lo (Nat.le_refl _)
  have bn_p0_x0 := bx_p0.far o_x0.lo (Nat.le_refl _)
  replace o_x0 := o_x0.base hB.size
  replace o_w0 := o_w0.keep hb
  replace bx_p0 := bx_p0.keep hb
  replace hB := hB.trans (hb.mono hB.size)
  clear hb
  obtain ⟨A_x0, c_x0, rfl⟩ := o_x0.edges.form
  have hal := (Below.refl w4'.heap.size w4').alloc (Nat.le_refl _) (Obj.cells #[.int .i64 r0, .int .i64 n0, .slice A_x0 L0.length c_x0] 29)
  have bn_x0_w0 := far_new (w := w4') o_w0.hi
  have bn_x0_x0 := far_new (w := w4') o_x0.hi
  replace o_w0 := o_w0.keep hal
  replace o_x0 := o_x0.keep hal
  replace bx_p0 := bx_p0.keep hal
  replace hB := hB.trans (hal.mono hB.size)
  clear hal
  have bx_x0 := Box.new w4' (Obj.cells #[.int .i64 r0, .int .i64 n0, .slice A_x0 L0.length c_x0] 29)
  obtain ⟨q_p0a, q_p0b, q_p0c⟩ := bx_p0.cells
  obtain ⟨q_x0a, q_x0b, q_x0c⟩ := bx_x0.cells
  go_wp2_with fail
  refine (CI.out _ _ o_x0.edges).mono ?_
  rintro e w5' ⟨v_g0, rfl, o_g0, hb⟩
  clear q_p0a q_p0b q_p0c q_x0a q_x0b q_x0c
  have ap_g0_w0 := apart_of o_w0.hi o_g0.lo (Nat.le_refl _)
  have ap_g0_x0 := apart_of o_x0.hi o_g0.lo (Nat.le_refl _)
  have bn_p0_g0 := bx_p0.far o_g0.lo (Nat.le_refl _)
  have bn_x0_g0 := bx_x0.far o_g0.lo (Nat.le_refl _)
  replace o_g0 := o_g0.base hB.size
  replace o_w0 := o_w0.keep hb
  replace o_x0 := o_x0.keep hb
  replace bx_p0 := bx_p0.keep hb
  replace bx_x0 := bx_x0.keep hb
  replace hB := hB.trans (hb.mono hB.size)
  clear hb
  obtain ⟨q_p0a, q_p0b, q_p0c⟩ := bx_p0.cells
  obtain ⟨q_x0a, q_x0b, q_x0c⟩ := bx_x0.cells
  go_wp2_with fail
  refine (eqIntS_any _ _ R0 _ o_g0.ints o_w0.ints (by omega)).mono ?_
  rintro e w6' ⟨rfl, hb⟩
  clear q_p0a q_p0b q_p0c q_x0a q_x0b q_x0c
  replace o_w0 := o_w0.keep hb
  replace o_x0 := o_x0.keep hb
  replace o_g0 := o_g0.keep hb
  replace bx_p0 := bx_p0.keep hb
  replace bx_x0 := bx_x0.keep hb
  replace hB := hB.trans (hb.mono hB.size)
  clear hb
  obtain ⟨q_p0a, q_p0b, q_p0c⟩ := bx_p0.cells
  obtain ⟨q_x0a, q_x0b, q_x0c⟩ := bx_x0.cells
  have hd := (Below.refl w6'.heap.size w6').drew
  go_wp2
  go_region_law (first
    | (go_simp; go_at_call 12; refine (toGraph_arg r0 n0 A0 (hB.trans (hd.mono hB.size)) (by omega)).mono ?_; rintro e w7' ⟨v_tt, rfl, o_tt, hb⟩; replace hb := hd.trans (hb.mono hd.size); replace o_w0 := o_w0.keep hb; replace o_x0 := o_x0.keep hb; replace o_g0 := o_g0.keep hb; replace bx_p0 := bx_p0.keep hb; replace bx_x0 := bx_x0.keep hb; obtain ⟨s_p0a, s_p0b, s_p0c⟩ := bx_p0.cells; obtain ⟨s_x0a, s_x0b, s_x0c⟩ := bx_x0.cells; replace hB := hB.trans (hb.mono hB.size); clear hb)
    | (go_simp; go_at_call 14; refine (eqGraph_any r0 n0 _ _ L0 _ o_x0.edges o_tt.edges (by omega)).mono ?_; rintro e w8' ⟨rfl, hb⟩))
  all_goals
    clear q_p0a q_p0b q_p0c s_p0a s_p0b s_p0c q_x0a q_x0b q_x0c s_x0a s_x0b s_x0c o_tt hd
    replace o_w0 := o_w0.keep hb
    replace o_x0 := o_x0.keep hb
    replace o_g0 := o_g0.keep hb
    replace bx_p0 := bx_p0.keep hb
    replace bx_x0 := bx_x0.keep hb
    replace hB := hB.trans (hb.mono hB.size)
    clear hb
    obtain ⟨q_p0a, q_p0b, q_p0c⟩ := bx_p0.cells
    obtain ⟨q_x0a, q_x0b, q_x0c⟩ := bx_x0.cells
    go_wp2_with fail
    refine (markGraph_any r0 n0 _ _ _ (1) _ o_x0 (by omega) (by omega)).mono ?_
    rintro e w9' ⟨rfl, om, hg⟩
    clear q_p0a q_p0b q_p0c q_x0a q_x0b q_x0c
    replace o_w0 := o_w0.apart hg ap_x0_w0.symm
    replace o_g0 := o_g0.apart hg ap_g0_x0
    replace bx_p0 := bx_p0.grown hg bn_p0_x0
    replace bx_x0 := bx_x0.grown hg bn_x0_x0
    replace hB := hB.grown hg hB.size o_x0.lo
    replace o_x0 := om
    clear hg
    obtain ⟨q_p0a, q_p0b, q_p0c⟩ := bx_p0.cells
    obtain ⟨q_x0a, q_x0b, q_x0c⟩ := bx_x0.cells
    go_wp2_with fail
    refine (eqIntS_any _ _ R0 _ o_g0.ints o_w0.ints (by omega)).mono ?_
    rintro e w10' ⟨rfl, hb⟩
    clear q_p0a q_p0b q_p0c q_x0a q_x0b q_x0c
    replace o_w0 := o_w0.keep hb
    replace o_x0 := o_x0.keep hb
    replace o_g0 := o_g0.keep hb
    replace bx_p0 := bx_p0.keep hb
    replace bx_x0 := bx_x0.keep hb
    replace hB := hB.trans (hb.mono hB.size)
    clear hb
    obtain ⟨q_p0a, q_p0b, q_p0c⟩ := bx_p0.cells
    obtain ⟨q_x0a, q_x0b, q_x0c⟩ := bx_x0.cells
    go_wp2_with fail
    refine (markIntS_any _ _ _ (1) _ o_g0 (by omega) (by omega)).mono ?_
    rintro e w11' ⟨rfl, om, hg⟩
    clear q_p0a q_p0b q_p0c q_x0a q_x0b q_x0c
    replace o_w0 := o_w0.apart hg ap_g0_w0.symm
    replace o_x0 := o_x0.apart hg ap_g0_x0.symm
    replace bx_p0 := bx_p0.grown hg bn_p0_g0
    replace bx_x0 := bx_x0.grown hg bn_x0_g0
    replace hB := hB.grown hg hB.size o_g0.lo
    replace o_g0 := om
    clear hg
    obtain ⟨q_p0a, q_p0b, q_p0c⟩ := bx_p0.cells
    obtain ⟨q_x0a, q_x0b, q_x0c⟩ := bx_x0.cells
    go_wp2_with fail
    refine (heldIntS_any _ R0.length (1) _ o_g0.ints (by omega) (by omega)).mono ?_
    rintro e w12' ⟨rfl, rfl⟩
    clear q_p0a q_p0b q_p0c q_x0a q_x0b q_x0c
    obtain ⟨q_p0a, q_p0b, q_p0c⟩ := bx_p0.cells
    obtain ⟨q_x0a, q_x0b, q_x0c⟩ := bx_x0.cells
    go_wp2_with fail
    refine (toGraph_arg r0 n0 A0 hB (by omega)).mono ?_
    rintro e w13' ⟨v_t2, rfl, oe_t2, hb⟩
    clear q_p0a q_p0b q_p0c q_x0a q_x0b q_x0c
    have o_t2 : OwnN _ _ _ _ := .inr oe_t2
    clear oe_t2
    have ap_t2_w0 := apart_of o_w0.hi o_t2.lo (Nat.le_refl _)
    have ap_t2_x0 := apart_of o_x0.hi o_t2.lo (Nat.le_refl _)
    have ap_t2_g0 := apart_of o_g0.hi o_t2.lo (Nat.le_refl _)
    have bn_p0_t2 := bx_p0.far o_t2.lo (Nat.le_refl _)
    have bn_x0_t2 := bx_x0.far o_t2.lo (Nat.le_refl _)
    replace o_t2 := o_t2.base hB.size
    replace o_w0 := o_w0.keep hb
    replace o_x0 := o_x0.keep hb
    replace o_g0 := o_g0.keep hb
    replace bx_p0 := bx_p0.keep hb
    replace bx_x0 := bx_x0.keep hb
    replace hB := hB.trans (hb.mono hB.size)
    clear hb
    obtain ⟨q_p0a, q_p0b, q_p0c⟩ := bx_p0.cells
    obtain ⟨q_x0a, q_x0b, q_x0c⟩ := bx_x0.cells
    go_wp2_with fail
    refine (CI.out _ _ o_t2.edges).mono ?_
    rintro e w14' ⟨v_h0, rfl, o_h0, hb⟩
    clear q_p0a q_p0b q_p0c q_x0a q_x0b q_x0c
    have ap_h0_w0 := apart_of o_w0.hi o_h0.lo (Nat.le_refl _)
    have ap_h0_x0 := apart_of o_x0.hi o_h0.lo (Nat.le_refl _)
    have ap_h0_g0 := apart_of o_g0.hi o_h0.lo (Nat.le_refl _)
    have ap_h0_t2 := apart_of o_t2.hi o_h0.lo (Nat.le_refl _)
    have bn_p0_h0 := bx_p0.far o_h0.lo (Nat.le_refl _)
    have bn_x0_h0 := bx_x0.far o_h0.lo (Nat.le_refl _)
    replace o_h0 := o_h0.base hB.size
    replace o_w0 := o_w0.keep hb
    replace o_x0 := o_x0.keep hb
    replace o_g0 := o_g0.keep hb
    replace o_t2 := o_t2.keep hb
    replace bx_p0 := bx_p0.keep hb
    replace bx_x0 := bx_x0.keep hb
    replace hB := hB.trans (hb.mono hB.size)
    clear hb
    clear o_t2 ap_h0_t2 ap_t2_g0 ap_t2_w0 ap_t2_x0 bn_p0_t2 bn_x0_t2
    obtain ⟨q_p0a, q_p0b, q_p0c⟩ := bx_p0.cells
    obtain ⟨q_x0a, q_x0b, q_x0c⟩ := bx_x0.cells
    go_wp2_with fail
    refine (eqIntS_any _ _ R0 _ o_h0.ints o_w0.ints (by omega)).mono ?_
    rintro e w15' ⟨rfl, hb⟩
    clear q_p0a q_p0b q_p0c q_x0a q_x0b q_x0c
    replace o_w0 := o_w0.keep hb
    replace o_x0 := o_x0.keep hb
    replace o_g0 := o_g0.keep hb
    replace o_h0 := o_h0.keep hb
    replace bx_p0 := bx_p0.keep hb
    replace bx_x0 := bx_x0.keep hb
    replace hB := hB.trans (hb.mono hB.size)
    clear hb
    obtain ⟨q_p0a, q_p0b, q_p0c⟩ := bx_p0.cells
    obtain ⟨q_x0a, q_x0b, q_x0c⟩ := bx_x0.cells
    go_wp2_with fail
    refine (heldIntS_any _ R0.length (1) _ o_g0.ints (by omega) (by omega)).mono ?_
    rintro e w16' ⟨rfl, rfl⟩
    clear q_p0a q_p0b q_p0c q_x0a q_x0b q_x0c
    obtain ⟨q_p0a, q_p0b, q_p0c⟩ := bx_p0.cells
    obtain ⟨q_x0a, q_x0b, q_x0c⟩ := bx_x0.cells
    go_wp2
    go_ret
    exact ⟨rfl, hB⟩
end Go.Proofs.Ytpebiacdkfpnpaa
