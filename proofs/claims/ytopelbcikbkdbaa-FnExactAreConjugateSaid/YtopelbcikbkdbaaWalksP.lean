/- The walks of the laws on CyclicLength, RootOf, IsProperPower, AreConjugate. Conditions: none. -/
import Derived.Test.YtopelbcikbkdbaaCycE
import Derived.Test.YtopelbcikbkdbaaCycF
namespace Go.Proofs.Ytopelbcikbkdbaa
open Go.RowKit

set_option maxHeartbeats 3200000 in
theorem walkFnExactCyclicLength (w : World) (a0 : Option Addr) (len0 cap0 : Nat) (z0 : List Int) (w0 : IsRow .i64 w a0 len0 cap0 z0) :
    Calls Try.prog 9 #[.slice a0 len0 cap0] w fun e w' => e = .returned (.bool true) ∧ Below w.heap.size w w' := by
  by_cases c0 : len0 ≤ 1048576
  case neg =>
    have c0' : 1048576 < len0 := by omega
    clear w0
    go_enter Try.func9, Try.ntmps9
    go_wp2
    go_ret
    exact ⟨rfl, Below.refl _ _⟩
  obtain ⟨L0, A0⟩ : ∃ L, ArgI w a0 len0 cap0 L := ⟨_, z0, w0, rfl⟩
  have n0 : L0.length ≤ 1048576 := by rw [A0.len]; exact c0
  have i0 := A0.i64
  clear w0
  obtain ⟨R, hR⟩ : ∃ R, R = ((coreX (red L0)).length : Int) := ⟨_, rfl⟩
  have cS : ∀ (W : World) (u0 : Value) (h0 : Ints W u0 L0), Calls Try.prog 36 #[u0] W (RetV W (.int .i64 R)) := fun W u0 h0 => by rw [hR]; exact cyclicLengthS_any _ _ _ h0 (by omega)
  have cI : ∀ (W : World) (u0 : Value) (h0 : Ints W u0 L0), Calls Try.prog 37 #[u0] W (RetV W (.int .i64 R)) := fun W u0 h0 => by rw [hR]; exact cyclicLength_any _ _ _ h0 (by omega)
  have CS := Lib.hid cS
  have CI := Lib.hid cI
  clear cS cI hR
  go_enter Try.func9, Try.ntmps9
  have hB := Below.refl w.heap.size w
  go_wp2_with fail
  refine (toIntS_arg A0 hB c0).mono ?_
  rintro e w1' ⟨v_t1, rfl, o_t1, hb⟩
  replace o_t1 := o_t1.base hB.size
  replace hB := hB.trans (hb.mono hB.size)
  clear hb
  go_wp2_with fail
  refine (CS.out _ _ o_t1.ints).mono ?_
  rintro e w2' ⟨rfl, hb⟩
  replace o_t1 := o_t1.keep hb
  replace hB := hB.trans (hb.mono hB.size)
  clear hb
  clear o_t1
  go_wp2_with fail
  refine (toIntS_arg A0 hB c0).mono ?_
  rintro e w3' ⟨v_x0, rfl, o_x0, hb⟩
  replace o_x0 := o_x0.base hB.size
  replace hB := hB.trans (hb.mono hB.size)
  clear hb
  go_wp2_with fail
  refine (CI.out _ _ o_x0.ints).mono ?_
  rintro e w4' ⟨rfl, hb⟩
  replace o_x0 := o_x0.keep hb
  replace hB := hB.trans (hb.mono hB.size)
  clear hb
  go_wp2_with fail
  refine (toIntS_arg A0 hB c0).mono ?_
  rintro e w5' ⟨v_t2, rfl, o_t2, hb⟩
  have ne_t2_x0 : Kept (v_t2.ownBlock ≠ v_x0.ownBlock) := ⟨own_ne o_x0 o_t2⟩
  replace o_t2 := o_t2.base hB.size
  replace o_x0 := o_x0.keep hb
  replace hB := hB.trans (hb.mono hB.size)
  clear hb
  go_wp2_with fail
  refine (eqIntS_any _ _ L0 _ o_x0.ints o_t2.ints (by omega)).mono ?_
  rintro e w6' ⟨rfl, hb⟩
  replace o_x0 := o_x0.keep hb
  replace o_t2 := o_t2.keep hb
  replace hB := hB.trans (hb.mono hB.size)
  clear hb
  clear o_t2
  go_wp2
  go_ret
  exact ⟨rfl, hB⟩
set_option maxHeartbeats 3200000 in
theorem walkFnExactRootOf (w : World) (a0 : Option Addr) (len0 cap0 : Nat) (z0 : List Int) (w0 : IsRow .i64 w a0 len0 cap0 z0) :
    Calls Try.prog 13 #[.slice a0 len0 cap0] w fun e w' => e = .returned (.bool true) ∧ Below w.heap.size w w' := by
  by_cases c0 : len0 ≤ 1048576
  case neg =>
    have c0' : 1048576 < len0 := by omega
    clear w0
    go_enter Try.func13, Try.ntmps13
    go_wp2
    go_ret
    exact ⟨rfl, Below.refl _ _⟩
  obtain ⟨L0, A0⟩ : ∃ L, ArgI w a0 len0 cap0 L := ⟨_, z0, w0, rfl⟩
  have n0 : L0.length ≤ 1048576 := by rw [A0.len]; exact c0
  have i0 := A0.i64
  clear w0
  obtain ⟨R, hR⟩ : ∃ R, R = rootW L0 := ⟨_, rfl⟩
  have nR : R.length ≤ 134217728 := by rw [hR]; have := rootW_length L0; omega
  obtain ⟨R2, hR2⟩ : ∃ R, R = ((rootN L0 : Nat) : Int) := ⟨_, rfl⟩
  have cS : ∀ (W : World) (u0 : Value) (h0 : Ints W u0 L0), Calls Try.prog 44 #[u0] W (RetI2 W R (.int .i64 R2)) := fun W u0 h0 => by rw [hR, hR2]; exact rootOfS_any _ _ _ h0 (by omega)
  have cI : ∀ (W : World) (u0 : Value) (h0 : Ints W u0 L0), Calls Try.prog 45 #[u0] W (RetI2 W R (.int .i64 R2)) := fun W u0 h0 => by rw [hR, hR2]; exact rootOf_any _ _ _ h0 (by omega)
  have CS := Lib.hid cS
  have CI := Lib.hid cI
  clear cS cI hR hR2
  go_enter Try.func13, Try.ntmps13
  have hB := Below.refl w.heap.size w
  go_wp2_with fail
  refine (toIntS_arg A0 hB c0).mono ?_
  rintro e w1' ⟨v_t1, rfl, o_t1, hb⟩
  replace o_t1 := o_t1.base hB.size
  replace hB := hB.trans (hb.mono hB.size)
  clear hb
  go_wp2_with fail
  refine (CS.out _ _ o_t1.ints).mono ?_
  rintro e w2' ⟨v_w0, rfl, o_w0, hb⟩
  have ne_w0_t1 : Kept (v_w0.ownBlock ≠ v_t1.ownBlock) := ⟨own_ne o_t1 o_w0⟩
  replace o_w0 := o_w0.base hB.size
  replace o_t1 := o_t1.keep hb
  replace hB := hB.trans (hb.mono hB.size)
  clear hb
  clear o_t1
  go_wp2_with fail
  refine (toIntS_arg A0 hB c0).mono ?_
  rintro e w3' ⟨v_x0, rfl, o_x0, hb⟩
  have ne_x0_w0 : Kept (v_x0.ownBlock ≠ v_w0.ownBlock) := ⟨own_ne o_w0 o_x0⟩
  replace o_x0 := o_x0.base hB.size
  replace o_w0 := o_w0.keep hb
  replace hB := hB.trans (hb.mono hB.size)
  clear hb
  go_wp2_with fail
  refine (CI.out _ _ o_x0.ints).mono ?_
  rintro e w4' ⟨v_g0, rfl, o_g0, hb⟩
  have ne_g0_w0 : Kept (v_g0.ownBlock ≠ v_w0.ownBlock) := ⟨own_ne o_w0 o_g0⟩
  have ne_g0_x0 : Kept (v_g0.ownBlock ≠ v_x0.ownBlock) := ⟨own_ne o_x0 o_g0⟩
  replace o_g0 := o_g0.base hB.size
  replace o_w0 := o_w0.keep hb
  replace o_x0 := o_x0.keep hb
  replace hB := hB.trans (hb.mono hB.size)
  clear hb
  go_wp2_with fail
  refine (eqIntS_any _ _ R _ o_g0.ints o_w0.ints (by omega)).mono ?_
  rintro e w5' ⟨rfl, hb⟩
  replace o_w0 := o_w0.keep hb
  replace o_x0 := o_x0.keep hb
  replace o_g0 := o_g0.keep hb
  replace hB := hB.trans (hb.mono hB.size)
  clear hb
  go_wp2_with fail
  refine (toIntS_arg A0 hB c0).mono ?_
  rintro e w6' ⟨v_t2, rfl, o_t2, hb⟩
  have ne_t2_w0 : Kept (v_t2.ownBlock ≠ v_w0.ownBlock) := ⟨own_ne o_w0 o_t2⟩
  have ne_t2_x0 : Kept (v_t2.ownBlock ≠ v_x0.ownBlock) := ⟨own_ne o_x0 o_t2⟩
  have ne_t2_g0 : Kept (v_t2.ownBlock ≠ v_g0.ownBlock) := ⟨own_ne o_g0 o_t2⟩
  replace o_t2 := o_t2.base hB.size
  replace o_w0 := o_w0.keep hb
  replace o_x0 := o_x0.keep hb
  replace o_g0 := o_g0.keep hb
  replace hB := hB.trans (hb.mono hB.size)
  clear hb
  go_wp2_with fail
  refine (eqIntS_any _ _ L0 _ o_x0.ints o_t2.ints (by omega)).mono ?_
  rintro e w7' ⟨rfl, hb⟩
  replace o_w0 := o_w0.keep hb
  replace o_x0 := o_x0.keep hb
  replace o_g0 := o_g0.keep hb
  replace o_t2 := o_t2.keep hb
  replace hB := hB.trans (hb.mono hB.size)
  clear hb
  clear o_t2
  go_wp2_with fail
  refine (markIntS_any _ _ _ (1) _ o_x0 (by omega) (by omega)).mono ?_
  rintro e w8' ⟨rfl, om, hg⟩
  replace o_w0 := o_w0.grown hg (fun h => ne_x0_w0.out h.symm)
  replace o_g0 := o_g0.grown hg ne_g0_x0.out
  replace hB := hB.grown hg hB.size (own_base o_x0)
  replace o_x0 := om
  clear hg
  go_wp2_with fail
  refine (eqIntS_any _ _ R _ o_g0.ints o_w0.ints (by omega)).mono ?_
  rintro e w9' ⟨rfl, hb⟩
  replace o_w0 := o_w0.keep hb
  replace o_x0 := o_x0.keep hb
  replace o_g0 := o_g0.keep hb
  replace hB := hB.trans (hb.mono hB.size)
  clear hb
  go_wp2_with fail
  refine (markIntS_any _ _ _ (1) _ o_g0 (by omega) (by omega)).mono ?_
  rintro e w10' ⟨rfl, om, hg⟩
  replace o_w0 := o_w0.grown hg (fun h => ne_g0_w0.out h.symm)
  replace o_x0 := o_x0.grown hg (fun h => ne_g0_x0.out h.symm)
  replace hB := hB.grown hg hB.size (own_base o_g0)
  replace o_g0 := om
  clear hg
  go_wp2_with fail
  refine (heldIntS_any _ R.length (1) _ o_g0.ints (by omega) (by omega)).mono ?_
  rintro e w11' ⟨rfl, rfl⟩
  go_wp2_with fail
  refine (toIntS_arg A0 hB c0).mono ?_
  rintro e w12' ⟨v_t3, rfl, o_t3, hb⟩
  have ne_t3_w0 : Kept (v_t3.ownBlock ≠ v_w0.ownBlock) := ⟨own_ne o_w0 o_t3⟩
  have ne_t3_x0 : Kept (v_t3.ownBlock ≠ v_x0.ownBlock) := ⟨own_ne o_x0 o_t3⟩
  have ne_t3_g0 : Kept (v_t3.ownBlock ≠ v_g0.ownBlock) := ⟨own_ne o_g0 o_t3⟩
  replace o_t3 := o_t3.base hB.size
  replace o_w0 := o_w0.keep hb
  replace o_x0 := o_x0.keep hb
  replace o_g0 := o_g0.keep hb
  replace hB := hB.trans (hb.mono hB.size)
  clear hb
  go_wp2_with fail
  refine (CI.out _ _ o_t3.ints).mono ?_
  rintro e w13' ⟨v_h0, rfl, o_h0, hb⟩
  have ne_h0_w0 : Kept (v_h0.ownBlock ≠ v_w0.ownBlock) := ⟨own_ne o_w0 o_h0⟩
  have ne_h0_x0 : Kept (v_h0.ownBlock ≠ v_x0.ownBlock) := ⟨own_ne o_x0 o_h0⟩
  have ne_h0_g0 : Kept (v_h0.ownBlock ≠ v_g0.ownBlock) := ⟨own_ne o_g0 o_h0⟩
  have ne_h0_t3 : Kept (v_h0.ownBlock ≠ v_t3.ownBlock) := ⟨own_ne o_t3 o_h0⟩
  replace o_h0 := o_h0.base hB.size
  replace o_w0 := o_w0.keep hb
  replace o_x0 := o_x0.keep hb
  replace o_g0 := o_g0.keep hb
  replace o_t3 := o_t3.keep hb
  replace hB := hB.trans (hb.mono hB.size)
  clear hb
  clear o_t3
  go_wp2_with fail
  refine (eqIntS_any _ _ R _ o_h0.ints o_w0.ints (by omega)).mono ?_
  rintro e w14' ⟨rfl, hb⟩
  replace o_w0 := o_w0.keep hb
  replace o_x0 := o_x0.keep hb
  replace o_g0 := o_g0.keep hb
  replace o_h0 := o_h0.keep hb
  replace hB := hB.trans (hb.mono hB.size)
  clear hb
  go_wp2_with fail
  refine (heldIntS_any _ R.length (1) _ o_g0.ints (by omega) (by omega)).mono ?_
  rintro e w15' ⟨rfl, rfl⟩
  go_wp2
  go_ret
  exact ⟨rfl, hB⟩
set_option maxHeartbeats 3200000 in
theorem walkFnExactIsProperPower (w : World) (a0 : Option Addr) (len0 cap0 : Nat) (z0 : List Int) (w0 : IsRow .i64 w a0 len0 cap0 z0) :
    Calls Try.prog 12 #[.slice a0 len0 cap0] w fun e w' => e = .returned (.bool true) ∧ Below w.heap.size w w' := by
  by_cases c0 : len0 ≤ 1048576
  case neg =>
    have c0' : 1048576 < len0 := by omega
    clear w0
    go_enter Try.func12, Try.ntmps12
    go_wp2
    go_ret
    exact ⟨rfl, Below.refl _ _⟩
  obtain ⟨L0, A0⟩ : ∃ L, ArgI w a0 len0 cap0 L := ⟨_, z0, w0, rfl⟩
  have n0 : L0.length ≤ 1048576 := by rw [A0.len]; exact c0
  have i0 := A0.i64
  clear w0
  obtain ⟨R, hR⟩ : ∃ R, R = decide ((1 : Int) < (rootN L0 : Nat)) := ⟨_, rfl⟩
  have cS : ∀ (W : World) (u0 : Value) (h0 : Ints W u0 L0), Calls Try.prog 42 #[u0] W (RetV W (.bool R)) := fun W u0 h0 => by rw [hR]; exact isProperPowerS_any _ _ _ h0 (by omega)
  have cI : ∀ (W : World) (u0 : Value) (h0 : Ints W u0 L0), Calls Try.prog 43 #[u0] W (RetV W (.bool R)) := fun W u0 h0 => by rw [hR]; exact isProperPower_any _ _ _ h0 (by omega)
  have CS := Lib.hid cS
  have CI := Lib.hid cI
  clear cS cI hR
  go_enter Try.func12, Try.ntmps12
  have hB := Below.refl w.heap.size w
  go_wp2_with fail
  refine (toIntS_arg A0 hB c0).mono ?_
  rintro e w1' ⟨v_t1, rfl, o_t1, hb⟩
  replace o_t1 := o_t1.base hB.size
  replace hB := hB.trans (hb.mono hB.size)
  clear hb
  go_wp2_with fail
  refine (CS.out _ _ o_t1.ints).mono ?_
  rintro e w2' ⟨rfl, hb⟩
  replace o_t1 := o_t1.keep hb
  replace hB := hB.trans (hb.mono hB.size)
  clear hb
  clear o_t1
  go_wp2_with fail
  refine (toIntS_arg A0 hB c0).mono ?_
  rintro e w3' ⟨v_x0, rfl, o_x0, hb⟩
  replace o_x0 := o_x0.base hB.size
  replace hB := hB.trans (hb.mono hB.size)
  clear hb
  go_wp2_with fail
  refine (CI.out _ _ o_x0.ints).mono ?_
  rintro e w4' ⟨rfl, hb⟩
  replace o_x0 := o_x0.keep hb
  replace hB := hB.trans (hb.mono hB.size)
  clear hb
  go_wp2_with fail
  refine (toIntS_arg A0 hB c0).mono ?_
  rintro e w5' ⟨v_t2, rfl, o_t2, hb⟩
  have ne_t2_x0 : Kept (v_t2.ownBlock ≠ v_x0.ownBlock) := ⟨own_ne o_x0 o_t2⟩
  replace o_t2 := o_t2.base hB.size
  replace o_x0 := o_x0.keep hb
  replace hB := hB.trans (hb.mono hB.size)
  clear hb
  go_wp2_with fail
  refine (eqIntS_any _ _ L0 _ o_x0.ints o_t2.ints (by omega)).mono ?_
  rintro e w6' ⟨rfl, hb⟩
  replace o_x0 := o_x0.keep hb
  replace o_t2 := o_t2.keep hb
  replace hB := hB.trans (hb.mono hB.size)
  clear hb
  clear o_t2
  go_wp2
  go_ret
  exact ⟨rfl, hB⟩
set_option maxHeartbeats 3200000 in
theorem walkFnExactAreConjugate (w : World) (a0 : Option Addr) (len0 cap0 : Nat) (z0 : List Int) (w0 : IsRow .i64 w a0 len0 cap0 z0) (a1 : Option Addr) (len1 cap1 : Nat) (z1 : List Int) (w1 : IsRow .i64 w a1 len1 cap1 z1) :
    Calls Try.prog 14 #[.slice a0 len0 cap0, .slice a1 len1 cap1] w fun e w' => e = .returned (.bool true) ∧ Below w.heap.size w w' := by
  by_cases c0 : len0 ≤ 1048576
  case neg =>
    have c0' : 1048576 < len0 := by omega
    clear w0
    clear w1
    go_enter Try.func14, Try.ntmps14
    go_wp2
    go_ret
    exact ⟨rfl, Below.refl _ _⟩
  by_cases c1 : len1 ≤ 1048576
  case neg =>
    have c1' : 1048576 < len1 := by omega
    clear w0
    clear w1
    go_enter Try.func14, Try.ntmps14
    go_wp2
    go_ret
    exact ⟨rfl, Below.refl _ _⟩
  obtain ⟨L0, A0⟩ : ∃ L, ArgI w a0 len0 cap0 L := ⟨_, z0, w0, rfl⟩
  have n0 : L0.length ≤ 1048576 := by rw [A0.len]; exact c0
  have i0 := A0.i64
  clear w0
  obtain ⟨L1, A1⟩ : ∃ L, ArgI w a1 len1 cap1 L := ⟨_, z1, w1, rfl⟩
  have n1 : L1.length ≤ 1048576 := by rw [A1.len]; exact c1
  have i1 := A1.i64
  clear w1
  obtain ⟨R, hR⟩ : ∃ R, R = conjW L0 L1 := ⟨_, rfl⟩
  have nR : R.length ≤ 134217728 := by rw [hR]; have := conjW_length L0 L1; omega
  obtain ⟨R2, hR2⟩ : ∃ R, R = conjOk L0 L1 := ⟨_, rfl⟩
  have cS : ∀ (W : World) (u0 : Value) (u1 : Value) (h0 : Ints W u0 L0) (h1 : Ints W u1 L1), Calls Try.prog 46 #[u0, u1] W (RetI2 W R (.bool R2)) := fun W u0 u1 h0 h1 => by rw [hR, hR2]; exact areConjugateS_any _ _ _ _ _ h0 h1 (by omega) (by omega)
  have cI : ∀ (W : World) (u0 : Value) (u1 : Value) (h0 : Ints W u0 L0) (h1 : Ints W u1 L1), Calls Try.prog 47 #[u0, u1] W (RetI2 W R (.bool R2)) := fun W u0 u1 h0 h1 => by rw [hR, hR2]; exact areConjugate_any _ _ _ _ _ h0 h1 (by omega) (by omega)
  have CS := Lib.hid cS
  have CI := Lib.hid cI
  clear cS cI hR hR2
  go_enter Try.func14, Try.ntmps14
  have hB := Below.refl w.heap.size w
  go_wp2_with fail
  refine (toIntS_arg A0 hB c0).mono ?_
  rintro e w1' ⟨v_t1, rfl, o_t1, hb⟩
  replace o_t1 := o_t1.base hB.size
  replace hB := hB.trans (hb.mono hB.size)
  clear hb
  go_wp2_with fail
  refine (toIntS_arg A1 hB c1).mono ?_
  rintro e w2' ⟨v_t2, rfl, o_t2, hb⟩
  have ne_t2_t1 : Kept (v_t2.ownBlock ≠ v_t1.ownBlock) := ⟨own_ne o_t1 o_t2⟩
  replace o_t2 := o_t2.base hB.size
  replace o_t1 := o_t1.keep hb
  replace hB := hB.trans (hb.mono hB.size)
  clear hb
  go_wp2_with fail
  refine (CS.out _ _ _ o_t1.ints o_t2.ints).mono ?_
  rintro e w3' ⟨v_w0, rfl, o_w0, hb⟩
  have ne_w0_t1 : Kept (v_w0.ownBlock ≠ v_t1.ownBlock) := ⟨own_ne o_t1 o_w0⟩
  have ne_w0_t2 : Kept (v_w0.ownBlock ≠ v_t2.ownBlock) := ⟨own_ne o_t2 o_w0⟩
  replace o_w0 := o_w0.base hB.size
  replace o_t1 := o_t1.keep hb
  replace o_t2 := o_t2.keep hb
  replace hB := hB.trans (hb.mono hB.size)
  clear hb
  clear o_t1
  clear o_t2
  go_wp2_with fail
  refine (toIntS_arg A0 hB c0).mono ?_
  rintro e w4' ⟨v_x0, rfl, o_x0, hb⟩
  have ne_x0_w0 : Kept (v_x0.ownBlock ≠ v_w0.ownBlock) := ⟨own_ne o_w0 o_x0⟩
  replace o_x0 := o_x0.base hB.size
  replace o_w0 := o_w0.keep hb
  replace hB := hB.trans (hb.mono hB.size)
  clear hb
  go_wp2_with fail
  refine (toIntS_arg A1 hB c1).mono ?_
  rintro e w5' ⟨v_x1, rfl, o_x1, hb⟩
  have ne_x1_w0 : Kept (v_x1.ownBlock ≠ v_w0.ownBlock) := ⟨own_ne o_w0 o_x1⟩
  have ne_x1_x0 : Kept (v_x1.ownBlock ≠ v_x0.ownBlock) := ⟨own_ne o_x0 o_x1⟩
  replace o_x1 := o_x1.base hB.size
  replace o_w0 := o_w0.keep hb
  replace o_x0 := o_x0.keep hb
  replace hB := hB.trans (hb.mono hB.size)
  clear hb
  go_wp2_with fail
  refine (CI.out _ _ _ o_x0.ints o_x1.ints).mono ?_
  rintro e w6' ⟨v_g0, rfl, o_g0, hb⟩
  have ne_g0_w0 : Kept (v_g0.ownBlock ≠ v_w0.ownBlock) := ⟨own_ne o_w0 o_g0⟩
  have ne_g0_x0 : Kept (v_g0.ownBlock ≠ v_x0.ownBlock) := ⟨own_ne o_x0 o_g0⟩
  have ne_g0_x1 : Kept (v_g0.ownBlock ≠ v_x1.ownBlock) := ⟨own_ne o_x1 o_g0⟩
  replace o_g0 := o_g0.base hB.size
  replace o_w0 := o_w0.keep hb
  replace o_x0 := o_x0.keep hb
  replace o_x1 := o_x1.keep hb
  replace hB := hB.trans (hb.mono hB.size)
  clear hb
  go_wp2_with fail
  refine (eqIntS_any _ _ R _ o_g0.ints o_w0.ints (by omega)).mono ?_
  rintro e w7' ⟨rfl, hb⟩
  replace o_w0 := o_w0.keep hb
  replace o_x0 := o_x0.keep hb
  replace o_x1 := o_x1.keep hb
  replace o_g0 := o_g0.keep hb
  replace hB := hB.trans (hb.mono hB.size)
  clear hb
  go_wp2_with fail
  refine (toIntS_arg A0 hB c0).mono ?_
  rintro e w8' ⟨v_t3, rfl, o_t3, hb⟩
  have ne_t3_w0 : Kept (v_t3.ownBlock ≠ v_w0.ownBlock) := ⟨own_ne o_w0 o_t3⟩
  have ne_t3_x0 : Kept (v_t3.ownBlock ≠ v_x0.ownBlock) := ⟨own_ne o_x0 o_t3⟩
  have ne_t3_x1 : Kept (v_t3.ownBlock ≠ v_x1.ownBlock) := ⟨own_ne o_x1 o_t3⟩
  have ne_t3_g0 : Kept (v_t3.ownBlock ≠ v_g0.ownBlock) := ⟨own_ne o_g0 o_t3⟩
  replace o_t3 := o_t3.base hB.size
  replace o_w0 := o_w0.keep hb
  replace o_x0 := o_x0.keep hb
  replace o_x1 := o_x1.keep hb
  replace o_g0 := o_g0.keep hb
  replace hB := hB.trans (hb.mono hB.size)
  clear hb
  go_wp2_with fail
  refine (eqIntS_any _ _ L0 _ o_x0.ints o_t3.ints (by omega)).mono ?_
  rintro e w9' ⟨rfl, hb⟩
  replace o_w0 := o_w0.keep hb
  replace o_x0 := o_x0.keep hb
  replace o_x1 := o_x1.keep hb
  replace o_g0 := o_g0.keep hb
  replace o_t3 := o_t3.keep hb
  replace hB := hB.trans (hb.mono hB.size)
  clear hb
  clear o_t3
  go_wp2_with fail
  refine (toIntS_arg A1 hB c1).mono ?_
  rintro e w10' ⟨v_t4, rfl, o_t4, hb⟩
  have ne_t4_w0 : Kept (v_t4.ownBlock ≠ v_w0.ownBlock) := ⟨own_ne o_w0 o_t4⟩
  have ne_t4_x0 : Kept (v_t4.ownBlock ≠ v_x0.ownBlock) := ⟨own_ne o_x0 o_t4⟩
  have ne_t4_x1 : Kept (v_t4.ownBlock ≠ v_x1.ownBlock) := ⟨own_ne o_x1 o_t4⟩
  have ne_t4_g0 : Kept (v_t4.ownBlock ≠ v_g0.ownBlock) := ⟨own_ne o_g0 o_t4⟩
  replace o_t4 := o_t4.base hB.size
  replace o_w0 := o_w0.keep hb
  replace o_x0 := o_x0.keep hb
  replace o_x1 := o_x1.keep hb
  replace o_g0 := o_g0.keep hb
  replace hB := hB.trans (hb.mono hB.size)
  clear hb
  go_wp2_with fail
  refine (eqIntS_any _ _ L1 _ o_x1.ints o_t4.ints (by omega)).mono ?_
  rintro e w11' ⟨rfl, hb⟩
  replace o_w0 := o_w0.keep hb
  replace o_x0 := o_x0.keep hb
  replace o_x1 := o_x1.keep hb
  replace o_g0 := o_g0.keep hb
  replace o_t4 := o_t4.keep hb
  replace hB := hB.trans (hb.mono hB.size)
  clear hb
  clear o_t4
  go_wp2_with fail
  refine (markIntS_any _ _ _ (1) _ o_x0 (by omega) (by omega)).mono ?_
  rintro e w12' ⟨rfl, om, hg⟩
  replace o_w0 := o_w0.grown hg (fun h => ne_x0_w0.out h.symm)
  replace o_x1 := o_x1.grown hg ne_x1_x0.out
  replace o_g0 := o_g0.grown hg ne_g0_x0.out
  replace hB := hB.grown hg hB.size (own_base o_x0)
  replace o_x0 := om
  clear hg
  go_wp2_with fail
  refine (markIntS_any _ _ _ (1 + (L0.length : Int)) _ o_x1 (by omega) (by omega)).mono ?_
  rintro e w13' ⟨rfl, om, hg⟩
  replace o_w0 := o_w0.grown hg (fun h => ne_x1_w0.out h.symm)
  replace o_x0 := o_x0.grown hg (fun h => ne_x1_x0.out h.symm)
  replace o_g0 := o_g0.grown hg ne_g0_x1.out
  replace hB := hB.grown hg hB.size (own_base o_x1)
  replace o_x1 := om
  clear hg
  go_wp2_with fail
  refine (eqIntS_any _ _ R _ o_g0.ints o_w0.ints (by omega)).mono ?_
  rintro e w14' ⟨rfl, hb⟩
  replace o_w0 := o_w0.keep hb
  replace o_x0 := o_x0.keep hb
  replace o_x1 := o_x1.keep hb
  replace o_g0 := o_g0.keep hb
  replace hB := hB.trans (hb.mono hB.size)
  clear hb
  go_wp2_with fail
  refine (markIntS_any _ _ _ (1) _ o_g0 (by omega) (by omega)).mono ?_
  rintro e w15' ⟨rfl, om, hg⟩
  replace o_w0 := o_w0.grown hg (fun h => ne_g0_w0.out h.symm)
  replace o_x0 := o_x0.grown hg (fun h => ne_g0_x0.out h.symm)
  replace o_x1 := o_x1.grown hg (fun h => ne_g0_x1.out h.symm)
  replace hB := hB.grown hg hB.size (own_base o_g0)
  replace o_g0 := om
  clear hg
  go_wp2_with fail
  refine (heldIntS_any _ R.length (1) _ o_g0.ints (by omega) (by omega)).mono ?_
  rintro e w16' ⟨rfl, rfl⟩
  go_wp2_with fail
  refine (toIntS_arg A0 hB c0).mono ?_
  rintro e w17' ⟨v_t5, rfl, o_t5, hb⟩
  have ne_t5_w0 : Kept (v_t5.ownBlock ≠ v_w0.ownBlock) := ⟨own_ne o_w0 o_t5⟩
  have ne_t5_x0 : Kept (v_t5.ownBlock ≠ v_x0.ownBlock) := ⟨own_ne o_x0 o_t5⟩
  have ne_t5_x1 : Kept (v_t5.ownBlock ≠ v_x1.ownBlock) := ⟨own_ne o_x1 o_t5⟩
  have ne_t5_g0 : Kept (v_t5.ownBlock ≠ v_g0.ownBlock) := ⟨own_ne o_g0 o_t5⟩
  replace o_t5 := o_t5.base hB.size
  replace o_w0 := o_w0.keep hb
  replace o_x0 := o_x0.keep hb
  replace o_x1 := o_x1.keep hb
  replace o_g0 := o_g0.keep hb
  replace hB := hB.trans (hb.mono hB.size)
  clear hb
  go_wp2_with fail
  refine (toIntS_arg A1 hB c1).mono ?_
  rintro e w18' ⟨v_t6, rfl, o_t6, hb⟩
  have ne_t6_w0 : Kept (v_t6.ownBlock ≠ v_w0.ownBlock) := ⟨own_ne o_w0 o_t6⟩
  have ne_t6_x0 : Kept (v_t6.ownBlock ≠ v_x0.ownBlock) := ⟨own_ne o_x0 o_t6⟩
  have ne_t6_x1 : Kept (v_t6.ownBlock ≠ v_x1.ownBlock) := ⟨own_ne o_x1 o_t6⟩
  have ne_t6_g0 : Kept (v_t6.ownBlock ≠ v_g0.ownBlock) := ⟨own_ne o_g0 o_t6⟩
  have ne_t6_t5 : Kept (v_t6.ownBlock ≠ v_t5.ownBlock) := ⟨own_ne o_t5 o_t6⟩
  replace o_t6 := o_t6.base hB.size
  replace o_w0 := o_w0.keep hb
  replace o_x0 := o_x0.keep hb
  replace o_x1 := o_x1.keep hb
  replace o_g0 := o_g0.keep hb
  replace o_t5 := o_t5.keep hb
  replace hB := hB.trans (hb.mono hB.size)
  clear hb
  go_wp2_with fail
  refine (CI.out _ _ _ o_t5.ints o_t6.ints).mono ?_
  rintro e w19' ⟨v_h0, rfl, o_h0, hb⟩
  have ne_h0_w0 : Kept (v_h0.ownBlock ≠ v_w0.ownBlock) := ⟨own_ne o_w0 o_h0⟩
  have ne_h0_x0 : Kept (v_h0.ownBlock ≠ v_x0.ownBlock) := ⟨own_ne o_x0 o_h0⟩
  have ne_h0_x1 : Kept (v_h0.ownBlock ≠ v_x1.ownBlock) := ⟨own_ne o_x1 o_h0⟩
  have ne_h0_g0 : Kept (v_h0.ownBlock ≠ v_g0.ownBlock) := ⟨own_ne o_g0 o_h0⟩
  have ne_h0_t5 : Kept (v_h0.ownBlock ≠ v_t5.ownBlock) := ⟨own_ne o_t5 o_h0⟩
  have ne_h0_t6 : Kept (v_h0.ownBlock ≠ v_t6.ownBlock) := ⟨own_ne o_t6 o_h0⟩
  replace o_h0 := o_h0.base hB.size
  replace o_w0 := o_w0.keep hb
  replace o_x0 := o_x0.keep hb
  replace o_x1 := o_x1.keep hb
  replace o_g0 := o_g0.keep hb
  replace o_t5 := o_t5.keep hb
  replace o_t6 := o_t6.keep hb
  replace hB := hB.trans (hb.mono hB.size)
  clear hb
  clear o_t5
  clear o_t6
  go_wp2_with fail
  refine (eqIntS_any _ _ R _ o_h0.ints o_w0.ints (by omega)).mono ?_
  rintro e w20' ⟨rfl, hb⟩
  replace o_w0 := o_w0.keep hb
  replace o_x0 := o_x0.keep hb
  replace o_x1 := o_x1.keep hb
  replace o_g0 := o_g0.keep hb
  replace o_h0 := o_h0.keep hb
  replace hB := hB.trans (hb.mono hB.size)
  clear hb
  go_wp2_with fail
  refine (heldIntS_any _ R.length (1) _ o_g0.ints (by omega) (by omega)).mono ?_
  rintro e w21' ⟨rfl, rfl⟩
  go_wp2
  go_ret
  exact ⟨rfl, hB⟩
end Go.Proofs.Ytopelbcikbkdbaa
