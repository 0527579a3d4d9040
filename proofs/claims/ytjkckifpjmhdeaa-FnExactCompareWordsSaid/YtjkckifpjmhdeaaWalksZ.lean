/- The walk of the law on CompareWords. Conditions: none. -/
import Derived.Test.YtjkckifpjmhdeaaWordE
namespace Go.Proofs.Ytjkckifpjmhdeaa
open Go.RowKit

set_option maxHeartbeats 3200000 in
theorem walkFnExactCompareWords (w : World) (a0 : Option Addr) (len0 cap0 : Nat) (z0 : List Int) (w0 : IsRow .i64 w a0 len0 cap0 z0) (a1 : Option Addr) (len1 cap1 : Nat) (z1 : List Int) (w1 : IsRow .i64 w a1 len1 cap1 z1) :
    Calls Try.prog 10 #[.slice a0 len0 cap0, .slice a1 len1 cap1] w fun e w' => e = .returned (.bool true) ∧ Below w.heap.size w w' := by
  by_cases c0 : len0 ≤ 1048576
  case neg =>
    have c0' : 1048576 < len0 := by omega
    clear w0
    clear w1
    go_enter Try.func10, Try.ntmps10
    go_wp2
    go_ret
    exact ⟨rfl, Below.refl _ _⟩
  by_cases c1 : len1 ≤ 1048576
  case neg =>
    have c1' : 1048576 < len1 := by omega
    clear w0
    clear w1
    go_enter Try.func10, Try.ntmps10
    go_wp2
    go_ret
    exact ⟨rfl, Below.refl _ _⟩
  obtain ⟨L0, A0⟩ : ∃ L, ArgI w a0 len0 cap0 L := ⟨_, z0, w0, rfl⟩
  have n0 : L0.length ≤ 1048576 := by rw [A0.len]; exact c0
  have i0 := A0.i64
  clear w0
  obtain ⟨L1, A1⟩ : ∃ L, ArgI w a1 len1 cap1 L := ⟨_, z1, w1, rfl⟩
  have n1 : L1.length ≤ 1048576 := by rw [A1.len]; exact c1
  have i1 := A1.i64
  clear w1
  obtain ⟨R, hR⟩ : ∃ R, R = cmpW L0 L1 := ⟨_, rfl⟩
  have cS : ∀ (W : World) (u0 : Value) (u1 : Value) (h0 : Ints W u0 L0) (h1 : Ints W u1 L1), Calls Try.prog 33 #[u0, u1] W (RetV W (.int .i64 R)) := fun W u0 u1 h0 h1 => by rw [hR]; exact compareWordsS_any _ _ _ _ _ h0 h1 (by omega) (by omega)
  have cI : ∀ (W : World) (u0 : Value) (u1 : Value) (h0 : Ints W u0 L0) (h1 : Ints W u1 L1), Calls Try.prog 34 #[u0, u1] W (RetV W (.int .i64 R)) := fun W u0 u1 h0 h1 => by rw [hR]; exact compareWords_any _ _ _ _ _ h0 h1 (by omega) (by omega)
  have CS := Lib.hid cS
  have CI := Lib.hid cI
  clear cS cI hR
  go_enter Try.func10, Try.ntmps10
  have hB := Below.refl w.heap.size w
  go_wp2_with fail
  refine (toIntS_arg A0 hB c0).mono ?_
  rintro e w1' ⟨v_t1, rfl, o_t1, hb⟩
  replace o_t1 := o_t1.base hB.size
  replace hB := hB.trans (hb.mono hB.size)
  clear hb
  go_wp2_with fail
  refine (toIntS_arg A1 hB c1).mono ?_
  rintro e w2' ⟨v_t2, rfl, o_t2, hb⟩
  have ne_t2_t1 : Kept (v_t2.ownBlock ≠ v_t1.ownBlock) := ⟨own_ne o_t1 o_t2⟩
  replace o_t2 := o_t2.base hB.size
  replace o_t1 := o_t1.keep hb
  replace hB := hB.trans (hb.mono hB.size)
  clear hb
  go_wp2_with fail
  refine (CS.out _ _ _ o_t1.ints o_t2.ints).mono ?_
  rintro e w3' ⟨rfl, hb⟩
  replace o_t1 := o_t1.keep hb
  replace o_t2 := o_t2.keep hb
  replace hB := hB.trans (hb.mono hB.size)
  clear hb
  clear o_t1
  clear o_t2
  go_wp2_with fail
  refine (toIntS_arg A0 hB c0).mono ?_
  rintro e w4' ⟨v_x0, rfl, o_x0, hb⟩
  replace o_x0 := o_x0.base hB.size
  replace hB := hB.trans (hb.mono hB.size)
  clear hb
  go_wp2_with fail
  refine (toIntS_arg A1 hB c1).mono ?_
  rintro e w5' ⟨v_x1, rfl, o_x1, hb⟩
  have ne_x1_x0 : Kept (v_x1.ownBlock ≠ v_x0.ownBlock) := ⟨own_ne o_x0 o_x1⟩
  replace o_x1 := o_x1.base hB.size
  replace o_x0 := o_x0.keep hb
  replace hB := hB.trans (hb.mono hB.size)
  clear hb
  go_wp2_with fail
  refine (CI.out _ _ _ o_x0.ints o_x1.ints).mono ?_
  rintro e w6' ⟨rfl, hb⟩
  replace o_x0 := o_x0.keep hb
  replace o_x1 := o_x1.keep hb
  replace hB := hB.trans (hb.mono hB.size)
  clear hb
  go_wp2_with fail
  refine (toIntS_arg A0 hB c0).mono ?_
  rintro e w7' ⟨v_t3, rfl, o_t3, hb⟩
  have ne_t3_x0 : Kept (v_t3.ownBlock ≠ v_x0.ownBlock) := ⟨own_ne o_x0 o_t3⟩
  have ne_t3_x1 : Kept (v_t3.ownBlock ≠ v_x1.ownBlock) := ⟨own_ne o_x1 o_t3⟩
  replace o_t3 := o_t3.base hB.size
  replace o_x0 := o_x0.keep hb
  replace o_x1 := o_x1.keep hb
  replace hB := hB.trans (hb.mono hB.size)
  clear hb
  go_wp2_with fail
  refine (eqIntS_any _ _ L0 _ o_x0.ints o_t3.ints (by omega)).mono ?_
  rintro e w8' ⟨rfl, hb⟩
  replace o_x0 := o_x0.keep hb
  replace o_x1 := o_x1.keep hb
  replace o_t3 := o_t3.keep hb
  replace hB := hB.trans (hb.mono hB.size)
  clear hb
  clear o_t3
  go_wp2_with fail
  refine (toIntS_arg A1 hB c1).mono ?_
  rintro e w9' ⟨v_t4, rfl, o_t4, hb⟩
  have ne_t4_x0 : Kept (v_t4.ownBlock ≠ v_x0.ownBlock) := ⟨own_ne o_x0 o_t4⟩
  have ne_t4_x1 : Kept (v_t4.ownBlock ≠ v_x1.ownBlock) := ⟨own_ne o_x1 o_t4⟩
  replace o_t4 := o_t4.base hB.size
  replace o_x0 := o_x0.keep hb
  replace o_x1 := o_x1.keep hb
  replace hB := hB.trans (hb.mono hB.size)
  clear hb
  go_wp2_with fail
  refine (eqIntS_any _ _ L1 _ o_x1.ints o_t4.ints (by omega)).mono ?_
  rintro e w10' ⟨rfl, hb⟩
  replace o_x0 := o_x0.keep hb
  replace o_x1 := o_x1.keep hb
  replace o_t4 := o_t4.keep hb
  replace hB := hB.trans (hb.mono hB.size)
  clear hb
  clear o_t4
  go_wp2
  go_ret
  exact ⟨rfl, hB⟩
end Go.Proofs.Ytjkckifpjmhdeaa
