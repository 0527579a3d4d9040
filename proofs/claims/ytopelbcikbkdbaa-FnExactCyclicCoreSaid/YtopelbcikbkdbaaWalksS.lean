/- The walk of the law on CyclicCore. Conditions: none. -/
import Derived.Test.YtopelbcikbkdbaaCycC
import Derived.Test.YtopelbcikbkdbaaCycD
namespace Go.Proofs.Ytopelbcikbkdbaa
open Go.RowKit

set_option maxHeartbeats 3200000 in
theorem walkFnExactCyclicCore (w : World) (a0 : Option Addr) (len0 cap0 : Nat) (z0 : List Int) (w0 : IsRow .i64 w a0 len0 cap0 z0) :
    Calls Try.prog 10 #[.slice a0 len0 cap0] w fun e w' => e = .returned (.bool true) ∧ Below w.heap.size w w' := by
  by_cases c0 : len0 ≤ 1048576
  case neg =>
    have c0' : 1048576 < len0 := by omega
    clear w0
    go_enter Try.func10, Try.ntmps10
    go_wp2
    go_ret
    exact ⟨rfl, Below.refl _ _⟩
  obtain ⟨L0, A0⟩ : ∃ L, ArgI w a0 len0 cap0 L := ⟨_, z0, w0, rfl⟩
  have n0 : L0.length ≤ 1048576 := by rw [A0.len]; exact c0
  have i0 := A0.i64
  clear w0
  obtain ⟨R, hR⟩ : ∃ R, R = coreX (red L0) := ⟨_, rfl⟩
  have nR : R.length ≤ 134217728 := by rw [hR]; have := red_length L0; rw [coreX_length]; omega
  obtain ⟨R2, hR2⟩ : ∃ R, R = coreP (red L0) := ⟨_, rfl⟩
  have nR2 : R2.length ≤ 134217728 := by rw [hR2]; have := red_length L0; have := coreN_le (red L0); rw [coreP_length]; omega
  have cS : ∀ (W : World) (u0 : Value) (h0 : Ints W u0 L0), Calls Try.prog 38 #[u0] W (RetII W R R2) := fun W u0 h0 => by rw [hR, hR2]; exact cyclicCoreS_any _ _ _ h0 (by omega)
  have cI : ∀ (W : World) (u0 : Value) (h0 : Ints W u0 L0), Calls Try.prog 39 #[u0] W (RetII W R R2) := fun W u0 h0 => by rw [hR, hR2]; exact cyclicCore_any _ _ _ h0 (by omega)
  have CS := Lib.hid cS
  have CI := Lib.hid cI
  clear cS cI hR hR2
  go_enter Try.func10, Try.ntmps10
  have hB := Below.refl w.heap.size w
  go_wp2_with fail
  refine (toIntS_arg A0 hB c0).mono ?_
  rintro e w1' ⟨v_t1, rfl, o_t1, hb⟩
  replace o_t1 := o_t1.base hB.size
  replace hB := hB.trans (hb.mono hB.size)
  clear hb
  go_wp2_with fail
  refine (CS.out _ _ o_t1.ints).mono ?_
  rintro e w2' ⟨v_w0, v_w1, rfl, o_w0, o_w1, ne_w0_w1, hb⟩
  have ne_w0_t1 : Kept (v_w0.ownBlock ≠ v_t1.ownBlock) := ⟨own_ne o_t1 o_w0⟩
  have ne_w1_t1 : Kept (v_w1.ownBlock ≠ v_t1.ownBlock) := ⟨own_ne o_t1 o_w1⟩
  replace o_w0 := o_w0.base hB.size
  replace o_w1 := o_w1.base hB.size
  replace o_t1 := o_t1.keep hb
  replace hB := hB.trans (hb.mono hB.size)
  clear hb
  clear o_t1
  go_wp2_with fail
  refine (toIntS_arg A0 hB c0).mono ?_
  rintro e w3' ⟨v_x0, rfl, o_x0, hb⟩
  have ne_x0_w0 : Kept (v_x0.ownBlock ≠ v_w0.ownBlock) := ⟨own_ne o_w0 o_x0⟩
  have ne_x0_w1 : Kept (v_x0.ownBlock ≠ v_w1.ownBlock) := ⟨own_ne o_w1 o_x0⟩
  replace o_x0 := o_x0.base hB.size
  replace o_w0 := o_w0.keep hb
  replace o_w1 := o_w1.keep hb
  replace hB := hB.trans (hb.mono hB.size)
  clear hb
  go_wp2_with fail
  refine (CI.out _ _ o_x0.ints).mono ?_
  rintro e w4' ⟨v_g0, v_g1, rfl, o_g0, o_g1, ne_g0_g1, hb⟩
  have ne_g0_w0 : Kept (v_g0.ownBlock ≠ v_w0.ownBlock) := ⟨own_ne o_w0 o_g0⟩
  have ne_g0_w1 : Kept (v_g0.ownBlock ≠ v_w1.ownBlock) := ⟨own_ne o_w1 o_g0⟩
  have ne_g0_x0 : Kept (v_g0.ownBlock ≠ v_x0.ownBlock) := ⟨own_ne o_x0 o_g0⟩
  have ne_g1_w0 : Kept (v_g1.ownBlock ≠ v_w0.ownBlock) := ⟨own_ne o_w0 o_g1⟩
  have ne_g1_w1 : Kept (v_g1.ownBlock ≠ v_w1.ownBlock) := ⟨own_ne o_w1 o_g1⟩
  have ne_g1_x0 : Kept (v_g1.ownBlock ≠ v_x0.ownBlock) := ⟨own_ne o_x0 o_g1⟩
  replace o_g0 := o_g0.base hB.size
  replace o_g1 := o_g1.base hB.size
  replace o_w0 := o_w0.keep hb
  replace o_w1 := o_w1.keep hb
  replace o_x0 := o_x0.keep hb
  replace hB := hB.trans (hb.mono hB.size)
  clear hb
  go_wp2_with fail
  refine (eqIntS_any _ _ R _ o_g0.ints o_w0.ints (by omega)).mono ?_
  rintro e w5' ⟨rfl, hb⟩
  replace o_w0 := o_w0.keep hb
  replace o_w1 := o_w1.keep hb
  replace o_x0 := o_x0.keep hb
  replace o_g0 := o_g0.keep hb
  replace o_g1 := o_g1.keep hb
  replace hB := hB.trans (hb.mono hB.size)
  clear hb
  go_wp2_with fail
  refine (eqIntS_any _ _ R2 _ o_g1.ints o_w1.ints (by omega)).mono ?_
  rintro e w6' ⟨rfl, hb⟩
  replace o_w0 := o_w0.keep hb
  replace o_w1 := o_w1.keep hb
  replace o_x0 := o_x0.keep hb
  replace o_g0 := o_g0.keep hb
  replace o_g1 := o_g1.keep hb
  replace hB := hB.trans (hb.mono hB.size)
  clear hb
  go_wp2_with fail
  refine (toIntS_arg A0 hB c0).mono ?_
  rintro e w7' ⟨v_t2, rfl, o_t2, hb⟩
  have ne_t2_w0 : Kept (v_t2.ownBlock ≠ v_w0.ownBlock) := ⟨own_ne o_w0 o_t2⟩
  have ne_t2_w1 : Kept (v_t2.ownBlock ≠ v_w1.ownBlock) := ⟨own_ne o_w1 o_t2⟩
  have ne_t2_x0 : Kept (v_t2.ownBlock ≠ v_x0.ownBlock) := ⟨own_ne o_x0 o_t2⟩
  have ne_t2_g0 : Kept (v_t2.ownBlock ≠ v_g0.ownBlock) := ⟨own_ne o_g0 o_t2⟩
  have ne_t2_g1 : Kept (v_t2.ownBlock ≠ v_g1.ownBlock) := ⟨own_ne o_g1 o_t2⟩
  replace o_t2 := o_t2.base hB.size
  replace o_w0 := o_w0.keep hb
  replace o_w1 := o_w1.keep hb
  replace o_x0 := o_x0.keep hb
  replace o_g0 := o_g0.keep hb
  replace o_g1 := o_g1.keep hb
  replace hB := hB.trans (hb.mono hB.size)
  clear hb
  go_wp2_with fail
  refine (eqIntS_any _ _ L0 _ o_x0.ints o_t2.ints (by omega)).mono ?_
  rintro e w8' ⟨rfl, hb⟩
  replace o_w0 := o_w0.keep hb
  replace o_w1 := o_w1.keep hb
  replace o_x0 := o_x0.keep hb
  replace o_g0 := o_g0.keep hb
  replace o_g1 := o_g1.keep hb
  replace o_t2 := o_t2.keep hb
  replace hB := hB.trans (hb.mono hB.size)
  clear hb
  clear o_t2
  go_wp2_with fail
  refine (markIntS_any _ _ _ (1) _ o_x0 (by omega) (by omega)).mono ?_
  rintro e w9' ⟨rfl, om, hg⟩
  replace o_w0 := o_w0.grown hg (fun h => ne_x0_w0.out h.symm)
  replace o_w1 := o_w1.grown hg (fun h => ne_x0_w1.out h.symm)
  replace o_g0 := o_g0.grown hg ne_g0_x0.out
  replace o_g1 := o_g1.grown hg ne_g1_x0.out
  replace hB := hB.grown hg hB.size (own_base o_x0)
  replace o_x0 := om
  clear hg
  go_wp2_with fail
  refine (eqIntS_any _ _ R _ o_g0.ints o_w0.ints (by omega)).mono ?_
  rintro e w10' ⟨rfl, hb⟩
  replace o_w0 := o_w0.keep hb
  replace o_w1 := o_w1.keep hb
  replace o_x0 := o_x0.keep hb
  replace o_g0 := o_g0.keep hb
  replace o_g1 := o_g1.keep hb
  replace hB := hB.trans (hb.mono hB.size)
  clear hb
  go_wp2_with fail
  refine (eqIntS_any _ _ R2 _ o_g1.ints o_w1.ints (by omega)).mono ?_
  rintro e w11' ⟨rfl, hb⟩
  replace o_w0 := o_w0.keep hb
  replace o_w1 := o_w1.keep hb
  replace o_x0 := o_x0.keep hb
  replace o_g0 := o_g0.keep hb
  replace o_g1 := o_g1.keep hb
  replace hB := hB.trans (hb.mono hB.size)
  clear hb
  go_wp2_with fail
  refine (markIntS_any _ _ _ (1) _ o_g0 (by omega) (by omega)).mono ?_
  rintro e w12' ⟨rfl, om, hg⟩
  replace o_w0 := o_w0.grown hg (fun h => ne_g0_w0.out h.symm)
  replace o_w1 := o_w1.grown hg (fun h => ne_g0_w1.out h.symm)
  replace o_x0 := o_x0.grown hg (fun h => ne_g0_x0.out h.symm)
  replace o_g1 := o_g1.grown hg (fun h => ne_g0_g1.out h.symm)
  replace hB := hB.grown hg hB.size (own_base o_g0)
  replace o_g0 := om
  clear hg
  go_wp2_with fail
  refine (markIntS_any _ _ _ (1 + (R.length : Int)) _ o_g1 (by omega) (by omega)).mono ?_
  rintro e w13' ⟨rfl, om, hg⟩
  replace o_w0 := o_w0.grown hg (fun h => ne_g1_w0.out h.symm)
  replace o_w1 := o_w1.grown hg (fun h => ne_g1_w1.out h.symm)
  replace o_x0 := o_x0.grown hg (fun h => ne_g1_x0.out h.symm)
  replace o_g0 := o_g0.grown hg ne_g0_g1.out
  replace hB := hB.grown hg hB.size (own_base o_g1)
  replace o_g1 := om
  clear hg
  go_wp2_with fail
  refine (heldIntS_any _ R.length (1) _ o_g0.ints (by omega) (by omega)).mono ?_
  rintro e w14' ⟨rfl, rfl⟩
  go_wp2_with fail
  refine (heldIntS_any _ R2.length (1 + (R.length : Int)) _ o_g1.ints (by omega) (by omega)).mono ?_
  rintro e w15' ⟨rfl, rfl⟩
  go_wp2_with fail
  refine (toIntS_arg A0 hB c0).mono ?_
  rintro e w16' ⟨v_t3, rfl, o_t3, hb⟩
  have ne_t3_w0 : Kept (v_t3.ownBlock ≠ v_w0.ownBlock) := ⟨own_ne o_w0 o_t3⟩
  have ne_t3_w1 : Kept (v_t3.ownBlock ≠ v_w1.ownBlock) := ⟨own_ne o_w1 o_t3⟩
  have ne_t3_x0 : Kept (v_t3.ownBlock ≠ v_x0.ownBlock) := ⟨own_ne o_x0 o_t3⟩
  have ne_t3_g0 : Kept (v_t3.ownBlock ≠ v_g0.ownBlock) := ⟨own_ne o_g0 o_t3⟩
  have ne_t3_g1 : Kept (v_t3.ownBlock ≠ v_g1.ownBlock) := ⟨own_ne o_g1 o_t3⟩
  replace o_t3 := o_t3.base hB.size
  replace o_w0 := o_w0.keep hb
  replace o_w1 := o_w1.keep hb
  replace o_x0 := o_x0.keep hb
  replace o_g0 := o_g0.keep hb
  replace o_g1 := o_g1.keep hb
  replace hB := hB.trans (hb.mono hB.size)
  clear hb
  go_wp2_with fail
  refine (CI.out _ _ o_t3.ints).mono ?_
  rintro e w17' ⟨v_h0, v_h1, rfl, o_h0, o_h1, ne_h0_h1, hb⟩
  have ne_h0_w0 : Kept (v_h0.ownBlock ≠ v_w0.ownBlock) := ⟨own_ne o_w0 o_h0⟩
  have ne_h0_w1 : Kept (v_h0.ownBlock ≠ v_w1.ownBlock) := ⟨own_ne o_w1 o_h0⟩
  have ne_h0_x0 : Kept (v_h0.ownBlock ≠ v_x0.ownBlock) := ⟨own_ne o_x0 o_h0⟩
  have ne_h0_g0 : Kept (v_h0.ownBlock ≠ v_g0.ownBlock) := ⟨own_ne o_g0 o_h0⟩
  have ne_h0_g1 : Kept (v_h0.ownBlock ≠ v_g1.ownBlock) := ⟨own_ne o_g1 o_h0⟩
  have ne_h0_t3 : Kept (v_h0.ownBlock ≠ v_t3.ownBlock) := ⟨own_ne o_t3 o_h0⟩
  have ne_h1_w0 : Kept (v_h1.ownBlock ≠ v_w0.ownBlock) := ⟨own_ne o_w0 o_h1⟩
  have ne_h1_w1 : Kept (v_h1.ownBlock ≠ v_w1.ownBlock) := ⟨own_ne o_w1 o_h1⟩
  have ne_h1_x0 : Kept (v_h1.ownBlock ≠ v_x0.ownBlock) := ⟨own_ne o_x0 o_h1⟩
  have ne_h1_g0 : Kept (v_h1.ownBlock ≠ v_g0.ownBlock) := ⟨own_ne o_g0 o_h1⟩
  have ne_h1_g1 : Kept (v_h1.ownBlock ≠ v_g1.ownBlock) := ⟨own_ne o_g1 o_h1⟩
  have ne_h1_t3 : Kept (v_h1.ownBlock ≠ v_t3.ownBlock) := ⟨own_ne o_t3 o_h1⟩
  replace o_h0 := o_h0.base hB.size
  replace o_h1 := o_h1.base hB.size
  replace o_w0 := o_w0.keep hb
  replace o_w1 := o_w1.keep hb
  replace o_x0 := o_x0.keep hb
  replace o_g0 := o_g0.keep hb
  replace o_g1 := o_g1.keep hb
  replace o_t3 := o_t3.keep hb
  replace hB := hB.trans (hb.mono hB.size)
  clear hb
  clear o_t3
  go_wp2_with fail
  refine (eqIntS_any _ _ R _ o_h0.ints o_w0.ints (by omega)).mono ?_
  rintro e w18' ⟨rfl, hb⟩
  replace o_w0 := o_w0.keep hb
  replace o_w1 := o_w1.keep hb
  replace o_x0 := o_x0.keep hb
  replace o_g0 := o_g0.keep hb
  replace o_g1 := o_g1.keep hb
  replace o_h0 := o_h0.keep hb
  replace o_h1 := o_h1.keep hb
  replace hB := hB.trans (hb.mono hB.size)
  clear hb
  go_wp2_with fail
  refine (eqIntS_any _ _ R2 _ o_h1.ints o_w1.ints (by omega)).mono ?_
  rintro e w19' ⟨rfl, hb⟩
  replace o_w0 := o_w0.keep hb
  replace o_w1 := o_w1.keep hb
  replace o_x0 := o_x0.keep hb
  replace o_g0 := o_g0.keep hb
  replace o_g1 := o_g1.keep hb
  replace o_h0 := o_h0.keep hb
  replace o_h1 := o_h1.keep hb
  replace hB := hB.trans (hb.mono hB.size)
  clear hb
  go_wp2_with fail
  refine (heldIntS_any _ R.length (1) _ o_g0.ints (by omega) (by omega)).mono ?_
  rintro e w20' ⟨rfl, rfl⟩
  go_wp2_with fail
  refine (heldIntS_any _ R2.length (1 + (R.length : Int)) _ o_g1.ints (by omega) (by omega)).mono ?_
  rintro e w21' ⟨rfl, rfl⟩
  go_wp2
  go_ret
  exact ⟨rfl, hB⟩
end Go.Proofs.Ytopelbcikbkdbaa
