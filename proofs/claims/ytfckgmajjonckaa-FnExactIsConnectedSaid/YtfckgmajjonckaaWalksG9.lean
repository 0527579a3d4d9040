/- The walk of the law on IsConnected. Conditions: none. -/
import Derived.Test.YtfckgmajjonckaaGraphT
import Derived.Test.YtfckgmajjonckaaOpenE
namespace Go.Proofs.Ytfckgmajjonckaa
open Go.RowKit

set_option maxHeartbeats 3200000 in
theorem walkFnExactIsConnected (w : World) (r0 n0 : Int) (a0 : Option Addr) (len0 cap0 : Nat) (L0 : List Ed) (wr0 : (Lit.int .i64 r0).wf = true) (wn0 : (Lit.int .i64 n0).wf = true) (A0 : ArgE w a0 len0 cap0 L0) :
    Calls Try.prog 8 #[graphV r0 n0 (.slice a0 len0 cap0)] w fun e w' => e = .returned (.bool true) ∧ Below w.heap.size w w' := by
  have ir0 := i64_of_wf wr0
  have in0 := i64_of_wf wn0
  clear wr0 wn0
  have mx0 : len0 ≤ 9223372036854775807 := A0.2.2
  by_cases c0 : (len0 : Int) ≤ 1048576
  case neg =>
    have c0' : 1048576 < (len0 : Int) := by omega
    go_enter Try.func8, Try.ntmps8
    have hB := Below.refl w.heap.size w
    have hal := (Below.refl w.heap.size w).alloc (Nat.le_refl _) (Obj.cells #[.int .i64 r0, .int .i64 n0, .slice a0 len0 cap0] 24)
    replace hB := hB.trans (hal.mono hB.size)
    clear hal
    have bx_p0 := Box.new w (Obj.cells #[.int .i64 r0, .int .i64 n0, .slice a0 len0 cap0] 24)
    obtain ⟨q_p0a, q_p0b, q_p0c⟩ := bx_p0.cells
    go_wp2_with fail
    refine (szGraph_over r0 n0 _ a0 len0 cap0 _ c0' (by omega) mx0).mono ?_
    rintro e w1' ⟨rfl, hb⟩
    clear q_p0a q_p0b q_p0c
    replace bx_p0 := bx_p0.keep hb
    replace hB := hB.trans (hb.mono hB.size)
    clear hb
    obtain ⟨q_p0a, q_p0b, q_p0c⟩ := bx_p0.cells
    go_wp2
    go_ret
    exact ⟨rfl, hB⟩
  have nE0 : L0.length ≤ 1048576 := by rw [A0.len]; omega
  obtain ⟨RR, hRR⟩ := reach_exists r0 n0 0 L0
  have HRR := Lib.hid hRR
  clear hRR
  obtain ⟨V0, hV0⟩ : ∃ R, R = (isG r0 n0 L0 && decide ((RR.length : Int) = n0)) := ⟨_, rfl⟩
  have cS : ∀ (W : World) (u0 : Value) (h0 : Edges W u0 L0), Calls Try.prog 27 #[graphV r0 n0 u0] W (RetV W (.bool V0)) := fun W u0 h0 => by rw [hV0]; exact isConnectedS_any _ _ _ _ _ _ h0 (by omega) HRR.out
  have cI : ∀ (W : World) (u0 : Value) (h0 : Edges W u0 L0), Calls Try.prog 28 #[graphV r0 n0 u0] W (RetV W (.bool V0)) := fun W u0 h0 => by rw [hV0]; exact isConnected_any _ _ _ _ _ _ h0 (by omega) HRR.out
  have CS := Lib.hid cS
  have CI := Lib.hid cI
  clear cS cI hV0
  go_enter Try.func8, Try.ntmps8
  have hB := Below.refl w.heap.size w
  have hal := (Below.refl w.heap.size w).alloc (Nat.le_refl _) (Obj.cells #[.int .i64 r0, .int .i64 n0, .slice a0 len0 cap0] 24)
  replace hB := hB.trans (hal.mono hB.size)
  clear hal
  have bx_p0 := Box.new w (Obj.cells #[.int .i64 r0, .int .i64 n0, .slice a0 len0 cap0] 24)
  obtain ⟨q_p0a, q_p0b, q_p0c⟩ := bx_p0.cells
  go_wp2_with fail
  refine (szGraph_fits r0 n0 _ a0 len0 cap0 _ c0 (by omega)).mono ?_
  rintro e w1' ⟨rfl, hb⟩
  clear q_p0a q_p0b q_p0c
  replace bx_p0 := bx_p0.keep hb
  replace hB := hB.trans (hb.mono hB.size)
  clear hb
  obtain ⟨q_p0a, q_p0b, q_p0c⟩ := bx_p0.cells
  go_wp2_with fail
  refine (toGraph_arg r0 n0 A0 hB (by omega)).mono ?_
  rintro e w2' ⟨v_t1, rfl, oe_t1, hb⟩
  clear q_p0a q_p0b q_p0c
  have o_t1 : OwnN _ _ _ _ := .inr oe_t1
  clear oe_t1
  replace o_t1 := o_t1.base hB.size
  replace bx_p0 := bx_p0.keep hb
  replace hB := hB.trans (hb.mono hB.size)
  clear hb
  obtain ⟨q_p0a, q_p0b, q_p0c⟩ := bx_p0.cells
  go_wp2_with fail
  refine (CS.out _ _ o_t1.edges).mono ?_
  rintro e w3' ⟨rfl, hb⟩
  clear q_p0a q_p0b q_p0c
  replace o_t1 := o_t1.keep hb
  replace bx_p0 := bx_p0.keep hb
  replace hB := hB.trans (hb.mono hB.size)
  clear hb
  clear o_t1 
  obtain ⟨q_p0a, q_p0b, q_p0c⟩ := bx_p0.cells
  go_wp2_with fail
  refine (toGraph_arg r0 n0 A0 hB (by omega)).mono ?_
  rintro e w4' ⟨v_x0, rfl, oe_x0, hb⟩
  clear q_p0a q_p0b q_p0c
  have o_x0 : OwnN _ _ _ _ := .inr oe_x0
  clear oe_x0
  replace o_x0 := o_x0.base hB.size
  replace bx_p0 := bx_p0.keep hb
  replace hB := hB.trans (hb.mono hB.size)
  clear hb
  obtain ⟨A_x0, c_x0, rfl⟩ := o_x0.edges.form
  have hal := (Below.refl w4'.heap.size w4').alloc (Nat.le_refl _) (Obj.cells #[.int .i64 r0, .int .i64 n0, .slice A_x0 L0.length c_x0] 29)
  replace o_x0 := o_x0.keep hal
  replace bx_p0 := bx_p0.keep hal
  replace hB := hB.trans (hal.mono hB.size)
  clear hal
  have bx_x0 := Box.new w4' (Obj.cells #[.int .i64 r0, .int .i64 n0, .slice A_x0 L0.length c_x0] 29)
  obtain ⟨q_p0a, q_p0b, q_p0c⟩ := bx_p0.cells
  obtain ⟨q_x0a, q_x0b, q_x0c⟩ := bx_x0.cells
  go_wp2_with fail
  refine (CI.out _ _ o_x0.edges).mono ?_
  rintro e w5' ⟨rfl, hb⟩
  clear q_p0a q_p0b q_p0c q_x0a q_x0b q_x0c
  replace o_x0 := o_x0.keep hb
  replace bx_p0 := bx_p0.keep hb
  replace bx_x0 := bx_x0.keep hb
  replace hB := hB.trans (hb.mono hB.size)
  clear hb
  obtain ⟨q_p0a, q_p0b, q_p0c⟩ := bx_p0.cells
  obtain ⟨q_x0a, q_x0b, q_x0c⟩ := bx_x0.cells
  have hd := (Below.refl w5'.heap.size w5').drew
  go_wp2
  go_region_law (first
    | (go_simp; go_at_call 14; refine (toGraph_arg r0 n0 A0 (hB.trans (hd.mono hB.size)) (by omega)).mono ?_; rintro e w6' ⟨v_tt, rfl, o_tt, hb⟩; replace hb := hd.trans (hb.mono hd.size); replace o_x0 := o_x0.keep hb; replace bx_p0 := bx_p0.keep hb; replace bx_x0 := bx_x0.keep hb; obtain ⟨s_p0a, s_p0b, s_p0c⟩ := bx_p0.cells; obtain ⟨s_x0a, s_x0b, s_x0c⟩ := bx_x0.cells; replace hB := hB.trans (hb.mono hB.size); clear hb)
    | (go_simp; go_at_call 16; refine (eqGraph_any r0 n0 _ _ L0 _ o_x0.edges o_tt.edges (by omega)).mono ?_; rintro e w7' ⟨rfl, hb⟩))
  all_goals
    clear q_p0a q_p0b q_p0c s_p0a s_p0b s_p0c q_x0a q_x0b q_x0c s_x0a s_x0b s_x0c o_tt hd
    replace o_x0 := o_x0.keep hb
    replace bx_p0 := bx_p0.keep hb
    replace bx_x0 := bx_x0.keep hb
    replace hB := hB.trans (hb.mono hB.size)
    clear hb
    obtain ⟨q_p0a, q_p0b, q_p0c⟩ := bx_p0.cells
    obtain ⟨q_x0a, q_x0b, q_x0c⟩ := bx_x0.cells
    go_wp2
    go_ret
    exact ⟨rfl, hB⟩
end Go.Proofs.Ytfckgmajjonckaa
