/- The walk of the law on CyclicForm. Conditions: none. -/
import Derived.Test.YtbghnllflfcfhaaCycG
namespace Go.Proofs.Ytbghnllflfcfhaa
open Go.RowKit

set_option maxHeartbeats 3200000 in
theorem walkFnExactCyclicForm (w : World) (a0 : Option Addr) (len0 cap0 : Nat) (z0 : List Int) (w0 : IsRow .i64 w a0 len0 cap0 z0) :
    Calls Try.prog 3 #[.slice a0 len0 cap0] w fun e w' => e = .returned (.bool true) ∧ Below w.heap.size w w' := by
  by_cases c0 : len0 ≤ 1048576
  case neg =>
    have c0' : 1048576 < len0 := by omega
    clear w0
    go_enter Try.func3, Try.ntmps3
    go_wp2
    go_ret
    exact ⟨rfl, Below.refl _ _⟩
  obtain ⟨L0, A0⟩ : ∃ L, ArgI w a0 len0 cap0 L := ⟨_, z0, w0, rfl⟩
  have n0 : L0.length ≤ 1048576 := by rw [A0.len]; exact c0
  have i0 := A0.i64
  clear w0
  obtain ⟨R, hR⟩ : ∃ R, R = cycF L0 := ⟨_, rfl⟩
  have nR : R.length ≤ 134217728 := by rw [hR]; have := coreX_short L0; rw [cycF_length]; omega
  have cS : ∀ (W : World) (u0 : Value) (h0 : Ints W u0 L0), Calls Try.prog 8 #[u0] W (RetI W R) := fun W u0 h0 => by rw [hR]; exact cyclicFormS_any _ _ _ h0 (by omega)
  have cI : ∀ (W : World) (u0 : Value) (h0 : Ints W u0 L0), Calls Try.prog 10 #[u0] W (RetI W R) := fun W u0 h0 => by rw [hR]; exact cyclicForm_any _ _ _ h0 (by omega)
  have CS := Lib.hid cS
  have CI := Lib.hid cI
  clear cS cI hR
  go_enter Try.func3, Try.ntmps3
  have hB := Below.refl w.heap.size w
  go_wp2_with fail
  refine (toIntS_arg A0 hB c0).mono ?_
  rintro e w1' ⟨v_t1, rfl, o_t1, hb⟩
  replace o_t1 := o_t1.base hB.size
  replace hB := hB.trans (hb.mono hB.size)
  clear hb
  go_wp2_with fail
  refine (CS.out _ _ o_t1.ints).mono ?_
  rintro e w2' ⟨v_w0, rfl, o_w0, hb⟩
  have ne_w0_t1 : Kept (v_w0.ownBlock ≠ v_t1.ownBlock) := ⟨own_ne o_t1 o_w0⟩
  replace o_w0 := o_w0.base hB.size
  replace o_t1 := o_t1.keep hb
  replace hB := hB.trans (hb.mono hB.size)
  clear hb
  clear o_t1
  go_wp2_with fail
  refine (toIntS_arg A0 hB c0).mono ?_
  rintro e w3' ⟨v_x0, rfl, o_x0, hb⟩
  have ne_x0_w0 : Kept (v_x0.ownBlock ≠ v_w0.ownBlock) := ⟨own_ne o_w0 o_x0⟩
  replace o_x0 := o_x0.base hB.size
  replace o_w0 := o_w0.keep hb
  replace hB := hB.trans (hb.mono hB.size)
  clear hb
  go_wp2_with fail
  refine (CI.out _ _ o_x0.ints).mono ?_
  rintro e w4' ⟨v_g0, rfl, o_g0, hb⟩
  have ne_g0_w0 : Kept (v_g0.ownBlock ≠ v_w0.ownBlock) := ⟨own_ne o_w0 o_g0⟩
  have ne_g0_x0 : Kept (v_g0.ownBlock ≠ v_x0.ownBlock) := ⟨own_ne o_x0 o_g0⟩
  replace o_g0 := o_g0.base hB.size
  replace o_w0 := o_w0.keep hb
  replace o_x0 := o_x0.keep hb
  replace hB := hB.trans (hb.mono hB.size)
  clear hb
  go_wp2_with fail
  refine (eqIntS_any _ _ R _ o_g0.ints o_w0.ints (by omega)).mono ?_
  rintro e w5' ⟨rfl, hb⟩
  replace o_w0 := o_w0.keep hb
  replace o_x0 := o_x0.keep hb
  replace o_g0 := o_g0.keep hb
  replace hB := hB.trans (hb.mono hB.size)
  clear hb
  go_wp2_with fail
  refine (toIntS_arg A0 hB c0).mono ?_
  rintro e w6' ⟨v_t2, rfl, o_t2, hb⟩
  have ne_t2_w0 : Kept (v_t2.ownBlock ≠ v_w0.ownBlock) := ⟨own_ne o_w0 o_t2⟩
  have ne_t2_x0 : Kept (v_t2.ownBlock ≠ v_x0.ownBlock) := ⟨own_ne o_x0 o_t2⟩
  have ne_t2_g0 : Kept (v_t2.ownBlock ≠ v_g0.ownBlock) := ⟨own_ne o_g0 o_t2⟩
  replace o_t2 := o_t2.base hB.size
  replace o_w0 := o_w0.keep hb
  replace o_x0 := o_x0.keep hb
  replace o_g0 := o_g0.keep hb
  replace hB := hB.trans (hb.mono hB.size)
  clear hb
  go_wp2_with fail
  refine (eqIntS_any _ _ L0 _ o_x0.ints o_t2.ints (by omega)).mono ?_
  rintro e w7' ⟨rfl, hb⟩
  replace o_w0 := o_w0.keep hb
  replace o_x0 := o_x0.keep hb
  replace o_g0 := o_g0.keep hb
  replace o_t2 := o_t2.keep hb
  replace hB := hB.trans (hb.mono hB.size)
  clear hb
  clear o_t2
  go_wp2_with fail
  refine (markIntS_any _ _ _ (1) _ o_x0 (by omega) (by omega)).mono ?_
  rintro e w8' ⟨rfl, om, hg⟩
  replace o_w0 := o_w0.grown hg (fun h => ne_x0_w0.out h.symm)
  replace o_g0 := o_g0.grown hg ne_g0_x0.out
  replace hB := hB.grown hg hB.size (own_base o_x0)
  replace o_x0 := om
  clear hg
  go_wp2_with fail
  refine (eqIntS_any _ _ R _ o_g0.ints o_w0.ints (by omega)).mono ?_
  rintro e w9' ⟨rfl, hb⟩
  replace o_w0 := o_w0.keep hb
  replace o_x0 := o_x0.keep hb
  replace o_g0 := o_g0.keep hb
  replace hB := hB.trans (hb.mono hB.size)
  clear hb
  go_wp2_with fail
  refine (markIntS_any _ _ _ (1) _ o_g0 (by omega) (by omega)).mono ?_
  rintro e w10' ⟨rfl, om, hg⟩
  replace o_w0 := o_w0.grown hg (fun h => ne_g0_w0.out h.symm)
  replace o_x0 := o_x0.grown hg (fun h => ne_g0_x0.out h.symm)
  replace hB := hB.grown hg hB.size (own_base o_g0)
  replace o_g0 := om
  clear hg
  go_wp2_with fail
  refine (heldIntS_any _ R.length (1) _ o_g0.ints (by omega) (by omega)).mono ?_
  rintro e w11' ⟨rfl, rfl⟩
  go_wp2_with fail
  refine (toIntS_arg A0 hB c0).mono ?_
  rintro e w12' ⟨v_t3, rfl, o_t3, hb⟩
  have ne_t3_w0 : Kept (v_t3.ownBlock ≠ v_w0.ownBlock) := ⟨own_ne o_w0 o_t3⟩
  have ne_t3_x0 : Kept (v_t3.ownBlock ≠ v_x0.ownBlock) := ⟨own_ne o_x0 o_t3⟩
  have ne_t3_g0 : Kept (v_t3.ownBlock ≠ v_g0.ownBlock) := ⟨own_ne o_g0 o_t3⟩
  replace o_t3 := o_t3.base hB.size
  replace o_w0 := o_w0.keep hb
  replace o_x0 := o_x0.keep hb
  replace o_g0 := o_g0.keep hb
  replace hB := hB.trans (hb.mono hB.size)
  clear hb
  go_wp2_with fail
  refine (CI.out _ _ o_t3.ints).mono ?_
  rintro e w13' ⟨v_h0, rfl, o_h0, hb⟩
  have ne_h0_w0 : Kept (v_h0.ownBlock ≠ v_w0.ownBlock) := ⟨own_ne o_w0 o_h0⟩
  have ne_h0_x0 : Kept (v_h0.ownBlock ≠ v_x0.ownBlock) := ⟨own_ne o_x0 o_h0⟩
  have ne_h0_g0 : Kept (v_h0.ownBlock ≠ v_g0.ownBlock) := ⟨own_ne o_g0 o_h0⟩
  have ne_h0_t3 : Kept (v_h0.ownBlock ≠ v_t3.ownBlock) := ⟨own_ne o_t3 o_h0⟩
  replace o_h0 := o_h0.base hB.size
  replace o_w0 := o_w0.keep hb
  replace o_x0 := o_x0.keep hb
  replace o_g0 := o_g0.keep hb
  replace o_t3 := o_t3.keep hb
  replace hB := hB.trans (hb.mono hB.size)
  clear hb
  clear o_t3
  go_wp2_with fail
  refine (eqIntS_any _ _ R _ o_h0.ints o_w0.ints (by omega)).mono ?_
  rintro e w14' ⟨rfl, hb⟩
  replace o_w0 := o_w0.keep hb
  replace o_x0 := o_x0.keep hb
  replace o_g0 := o_g0.keep hb
  replace o_h0 := o_h0.keep hb
  replace hB := hB.trans (hb.mono hB.size)
  clear hb
  go_wp2_with fail
  refine (heldIntS_any _ R.length (1) _ o_g0.ints (by omega) (by omega)).mono ?_
  rintro e w15' ⟨rfl, rfl⟩
  go_wp2
  go_ret
  exact ⟨rfl, hB⟩
end Go.Proofs.Ytbghnllflfcfhaa
