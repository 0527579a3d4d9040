/- The walks of the laws on TotalLength, EqualWordLists, AreWords. Conditions: none. -/
import Derived.Test.YtopelbcikbkdbaaListC
namespace Go.Proofs.Ytopelbcikbkdbaa
open Go.RowKit

set_option maxHeartbeats 3200000 in
theorem walkFnExactTotalLength (w : World) (a0 : Option Addr) (len0 cap0 : Nat) (L0 : List (List Int)) (A0 : ArgL w a0 len0 cap0 L0) :
    Calls Try.prog 3 #[.slice a0 len0 cap0] w fun e w' => e = .returned (.bool true) ∧ Below w.heap.size w w' := by
  obtain ⟨N0, hN0⟩ : ∃ N, Kept (N = len0 + totL L0) := ⟨_, ⟨rfl⟩⟩
  by_cases c0 : (N0 : Int) ≤ 1048576
  case neg =>
    have c0' : 1048576 < (N0 : Int) := by omega
    go_enter Try.func3, Try.ntmps3
    have hB := Below.refl w.heap.size w
    go_wp2_with fail
    refine (szIntSS_over _ a0 len0 cap0 L0 N0 _ (A0.keep hB) hN0.out c0' (by omega) (by omega)).mono ?_
    rintro e w' ⟨rfl, hb⟩
    replace hB := hB.trans (hb.mono hB.size)
    go_wp2
    go_ret
    exact ⟨rfl, hB⟩
  have nE0 : L0.length ≤ 1048576 ∧ totL L0 ≤ 1048576 := by have := A0.1; have := hN0.out; constructor <;> omega
  have nN0 : len0 + totL L0 ≤ 1048576 := by have := hN0.out; omega
  obtain ⟨V0, hV0⟩ : ∃ R, R = ((totL L0 : Nat) : Int) := ⟨_, rfl⟩
  have cS : ∀ (W : World) (u0 : Value) (h0 : Rows2 W u0 L0), Calls Try.prog 16 #[u0] W (RetV W (.int .i64 V0)) := fun W u0 h0 => by rw [hV0]; exact totalLengthS_any _ _ _ h0 nE0.1 nE0.2
  have cI : ∀ (W : World) (u0 : Value) (h0 : Rows2 W u0 L0), Calls Try.prog 18 #[u0] W (RetV W (.int .i64 V0)) := fun W u0 h0 => by rw [hV0]; exact totalLength_any _ _ _ h0 nE0.1 nE0.2
  have CS := Lib.hid cS
  have CI := Lib.hid cI
  clear cS cI hV0
  go_enter Try.func3, Try.ntmps3
  have hB := Below.refl w.heap.size w
  go_wp2_with fail
  refine (szIntSS_fits _ a0 len0 cap0 L0 N0 _ (A0.keep hB) hN0.out c0 (by omega)).mono ?_
  rintro e w1' ⟨rfl, hb⟩
  replace hB := hB.trans (hb.mono hB.size)
  clear hb
  go_wp2_with fail
  refine (toIntSS_arg A0 hB nN0).mono ?_
  rintro e w2' ⟨v_t1, rfl, o_t1, hb⟩
  replace hB := hB.trans (hb.mono hB.size)
  clear hb
  go_wp2_with fail
  refine (CS.out _ _ o_t1).mono ?_
  rintro e w3' ⟨rfl, hb⟩
  replace o_t1 := o_t1.keep hb
  replace hB := hB.trans (hb.mono hB.size)
  clear hb
  clear o_t1 
  go_wp2_with fail
  refine (toIntSS_arg A0 hB nN0).mono ?_
  rintro e w4' ⟨v_x0, rfl, o_x0, hb⟩
  replace hB := hB.trans (hb.mono hB.size)
  clear hb
  go_wp2_with fail
  refine (CI.out _ _ o_x0).mono ?_
  rintro e w5' ⟨rfl, hb⟩
  replace o_x0 := o_x0.keep hb
  replace hB := hB.trans (hb.mono hB.size)
  clear hb
  go_wp2_with fail
  refine (toIntSS_arg A0 hB nN0).mono ?_
  rintro e w6' ⟨v_t2, rfl, o_t2, hb⟩
  replace o_x0 := o_x0.keep hb
  replace hB := hB.trans (hb.mono hB.size)
  clear hb
  go_wp2_with fail
  refine (eqIntSS_any _ _ L0 _ o_x0 o_t2 nE0.1 nE0.2).mono ?_
  rintro e w7' ⟨rfl, hb⟩
  replace o_x0 := o_x0.keep hb
  replace o_t2 := o_t2.keep hb
  replace hB := hB.trans (hb.mono hB.size)
  clear hb
  clear o_t2 
  go_wp2
  go_ret
  exact ⟨rfl, hB⟩
set_option maxHeartbeats 3200000 in
theorem walkFnExactEqualWordLists (w : World) (a0 : Option Addr) (len0 cap0 : Nat) (L0 : List (List Int)) (A0 : ArgL w a0 len0 cap0 L0) (a1 : Option Addr) (len1 cap1 : Nat) (L1 : List (List Int)) (A1 : ArgL w a1 len1 cap1 L1) :
    Calls Try.prog 4 #[.slice a0 len0 cap0, .slice a1 len1 cap1] w fun e w' => e = .returned (.bool true) ∧ Below w.heap.size w w' := by
  obtain ⟨N0, hN0⟩ : ∃ N, Kept (N = len0 + totL L0) := ⟨_, ⟨rfl⟩⟩
  by_cases c0 : (N0 : Int) ≤ 1048576
  case neg =>
    have c0' : 1048576 < (N0 : Int) := by omega
    go_enter Try.func4, Try.ntmps4
    have hB := Below.refl w.heap.size w
    go_wp2_with fail
    refine (szIntSS_over _ a0 len0 cap0 L0 N0 _ (A0.keep hB) hN0.out c0' (by omega) (by omega)).mono ?_
    rintro e w' ⟨rfl, hb⟩
    replace hB := hB.trans (hb.mono hB.size)
    go_wp2
    go_ret
    exact ⟨rfl, hB⟩
  obtain ⟨N1, hN1⟩ : ∃ N, Kept (N = len1 + totL L1) := ⟨_, ⟨rfl⟩⟩
  by_cases c1 : (N1 : Int) ≤ 1048576 - (N0 : Int)
  case neg =>
    have c1' : 1048576 - (N0 : Int) < (N1 : Int) := by omega
    go_enter Try.func4, Try.ntmps4
    have hB := Below.refl w.heap.size w
    go_wp2_with fail
    refine (szIntSS_fits _ a0 len0 cap0 L0 N0 _ (A0.keep hB) hN0.out c0 (by omega)).mono ?_
    rintro e w' ⟨rfl, hb⟩
    replace hB := hB.trans (hb.mono hB.size)
    clear hb
    go_wp2_with fail
    refine (szIntSS_over _ a1 len1 cap1 L1 N1 _ (A1.keep hB) hN1.out c1' (by omega) (by omega)).mono ?_
    rintro e w' ⟨rfl, hb⟩
    replace hB := hB.trans (hb.mono hB.size)
    go_wp2
    go_ret
    exact ⟨rfl, hB⟩
  have nE0 : L0.length ≤ 1048576 ∧ totL L0 ≤ 1048576 := by have := A0.1; have := hN0.out; constructor <;> omega
  have nN0 : len0 + totL L0 ≤ 1048576 := by have := hN0.out; omega
  have nE1 : L1.length ≤ 1048576 ∧ totL L1 ≤ 1048576 := by have := A1.1; have := hN1.out; constructor <;> omega
  have nN1 : len1 + totL L1 ≤ 1048576 := by have := hN1.out; omega
  obtain ⟨V0, hV0⟩ : ∃ R, R = eqLL L0 L1 := ⟨_, rfl⟩
  have cS : ∀ (W : World) (u0 : Value) (u1 : Value) (h0 : Rows2 W u0 L0) (h1 : Rows2 W u1 L1), Calls Try.prog 20 #[u0, u1] W (RetV W (.bool V0)) := fun W u0 u1 h0 h1 => by rw [hV0]; exact equalWordListsS_any _ _ _ _ _ h0 h1 nE0.1 nE0.2
  have cI : ∀ (W : World) (u0 : Value) (u1 : Value) (h0 : Rows2 W u0 L0) (h1 : Rows2 W u1 L1), Calls Try.prog 21 #[u0, u1] W (RetV W (.bool V0)) := fun W u0 u1 h0 h1 => by rw [hV0]; exact equalWordLists_any _ _ _ _ _ h0 h1 nE0.1 nE0.2
  have CS := Lib.hid cS
  have CI := Lib.hid cI
  clear cS cI hV0
  go_enter Try.func4, Try.ntmps4
  have hB := Below.refl w.heap.size w
  go_wp2_with fail
  refine (szIntSS_fits _ a0 len0 cap0 L0 N0 _ (A0.keep hB) hN0.out c0 (by omega)).mono ?_
  rintro e w1' ⟨rfl, hb⟩
  replace hB := hB.trans (hb.mono hB.size)
  clear hb
  go_wp2_with fail
  refine (szIntSS_fits _ a1 len1 cap1 L1 N1 _ (A1.keep hB) hN1.out c1 (by omega)).mono ?_
  rintro e w2' ⟨rfl, hb⟩
  replace hB := hB.trans (hb.mono hB.size)
  clear hb
  go_wp2_with fail
  refine (toIntSS_arg A0 hB nN0).mono ?_
  rintro e w3' ⟨v_t1, rfl, o_t1, hb⟩
  replace hB := hB.trans (hb.mono hB.size)
  clear hb
  go_wp2_with fail
  refine (toIntSS_arg A1 hB nN1).mono ?_
  rintro e w4' ⟨v_t2, rfl, o_t2, hb⟩
  replace o_t1 := o_t1.keep hb
  replace hB := hB.trans (hb.mono hB.size)
  clear hb
  go_wp2_with fail
  refine (CS.out _ _ _ o_t1 o_t2).mono ?_
  rintro e w5' ⟨rfl, hb⟩
  replace o_t1 := o_t1.keep hb
  replace o_t2 := o_t2.keep hb
  replace hB := hB.trans (hb.mono hB.size)
  clear hb
  clear o_t1 
  clear o_t2 
  go_wp2_with fail
  refine (toIntSS_arg A0 hB nN0).mono ?_
  rintro e w6' ⟨v_x0, rfl, o_x0, hb⟩
  replace hB := hB.trans (hb.mono hB.size)
  clear hb
  go_wp2_with fail
  refine (toIntSS_arg A1 hB nN1).mono ?_
  rintro e w7' ⟨v_x1, rfl, o_x1, hb⟩
  replace o_x0 := o_x0.keep hb
  replace hB := hB.trans (hb.mono hB.size)
  clear hb
  go_wp2_with fail
  refine (CI.out _ _ _ o_x0 o_x1).mono ?_
  rintro e w8' ⟨rfl, hb⟩
  replace o_x0 := o_x0.keep hb
  replace o_x1 := o_x1.keep hb
  replace hB := hB.trans (hb.mono hB.size)
  clear hb
  go_wp2_with fail
  refine (toIntSS_arg A0 hB nN0).mono ?_
  rintro e w9' ⟨v_t3, rfl, o_t3, hb⟩
  replace o_x0 := o_x0.keep hb
  replace o_x1 := o_x1.keep hb
  replace hB := hB.trans (hb.mono hB.size)
  clear hb
  go_wp2_with fail
  refine (eqIntSS_any _ _ L0 _ o_x0 o_t3 nE0.1 nE0.2).mono ?_
  rintro e w10' ⟨rfl, hb⟩
  replace o_x0 := o_x0.keep hb
  replace o_x1 := o_x1.keep hb
  replace o_t3 := o_t3.keep hb
  replace hB := hB.trans (hb.mono hB.size)
  clear hb
  clear o_t3 
  go_wp2_with fail
  refine (toIntSS_arg A1 hB nN1).mono ?_
  rintro e w11' ⟨v_t4, rfl, o_t4, hb⟩
  replace o_x0 := o_x0.keep hb
  replace o_x1 := o_x1.keep hb
  replace hB := hB.trans (hb.mono hB.size)
  clear hb
  go_wp2_with fail
  refine (eqIntSS_any _ _ L1 _ o_x1 o_t4 nE1.1 nE1.2).mono ?_
  rintro e w12' ⟨rfl, hb⟩
  replace o_x0 := o_x0.keep hb
  replace o_x1 := o_x1.keep hb
  replace o_t4 := o_t4.keep hb
  replace hB := hB.trans (hb.mono hB.size)
  clear hb
  clear o_t4 
  go_wp2
  go_ret
  exact ⟨rfl, hB⟩
set_option maxHeartbeats 3200000 in
theorem walkFnExactAreWords (w : World) (a0 : Int) (w0 : (Lit.int .i64 a0).wf = true) (a1 : Option Addr) (len1 cap1 : Nat) (L1 : List (List Int)) (A1 : ArgL w a1 len1 cap1 L1) :
    Calls Try.prog 5 #[.int .i64 a0, .slice a1 len1 cap1] w fun e w' => e = .returned (.bool true) ∧ Below w.heap.size w w' := by
  have i0 := i64_of_wf w0
  clear w0
  obtain ⟨N1, hN1⟩ : ∃ N, Kept (N = len1 + totL L1) := ⟨_, ⟨rfl⟩⟩
  by_cases c1 : (N1 : Int) ≤ 1048576
  case neg =>
    have c1' : 1048576 < (N1 : Int) := by omega
    go_enter Try.func5, Try.ntmps5
    have hB := Below.refl w.heap.size w
    go_wp2_with fail
    refine (szIntSS_over _ a1 len1 cap1 L1 N1 _ (A1.keep hB) hN1.out c1' (by omega) (by omega)).mono ?_
    rintro e w' ⟨rfl, hb⟩
    replace hB := hB.trans (hb.mono hB.size)
    go_wp2
    go_ret
    exact ⟨rfl, hB⟩
  have nE1 : L1.length ≤ 1048576 ∧ totL L1 ≤ 1048576 := by have := A1.1; have := hN1.out; constructor <;> omega
  have nN1 : len1 + totL L1 ≤ 1048576 := by have := hN1.out; omega
  obtain ⟨V0, hV0⟩ : ∃ R, R = areW a0 L1 := ⟨_, rfl⟩
  have cS : ∀ (W : World) (u1 : Value) (h1 : Rows2 W u1 L1), Calls Try.prog 22 #[.int .i64 a0, u1] W (RetV W (.bool V0)) := fun W u1 h1 => by rw [hV0]; exact areWordsS_any _ _ _ _ h1 nE1.1 nE1.2
  have cI : ∀ (W : World) (u1 : Value) (h1 : Rows2 W u1 L1), Calls Try.prog 23 #[.int .i64 a0, u1] W (RetV W (.bool V0)) := fun W u1 h1 => by rw [hV0]; exact areWords_any _ _ _ _ h1 nE1.1 nE1.2
  have CS := Lib.hid cS
  have CI := Lib.hid cI
  clear cS cI hV0
  go_enter Try.func5, Try.ntmps5
  have hB := Below.refl w.heap.size w
  go_wp2_with fail
  refine (szIntSS_fits _ a1 len1 cap1 L1 N1 _ (A1.keep hB) hN1.out c1 (by omega)).mono ?_
  rintro e w1' ⟨rfl, hb⟩
  replace hB := hB.trans (hb.mono hB.size)
  clear hb
  go_wp2_with fail
  refine (toIntSS_arg A1 hB nN1).mono ?_
  rintro e w2' ⟨v_t1, rfl, o_t1, hb⟩
  replace hB := hB.trans (hb.mono hB.size)
  clear hb
  go_wp2_with fail
  refine (CS.out _ _ o_t1).mono ?_
  rintro e w3' ⟨rfl, hb⟩
  replace o_t1 := o_t1.keep hb
  replace hB := hB.trans (hb.mono hB.size)
  clear hb
  clear o_t1 
  go_wp2_with fail
  refine (toIntSS_arg A1 hB nN1).mono ?_
  rintro e w4' ⟨v_x1, rfl, o_x1, hb⟩
  replace hB := hB.trans (hb.mono hB.size)
  clear hb
  go_wp2_with fail
  refine (CI.out _ _ o_x1).mono ?_
  rintro e w5' ⟨rfl, hb⟩
  replace o_x1 := o_x1.keep hb
  replace hB := hB.trans (hb.mono hB.size)
  clear hb
  go_wp2_with fail
  refine (toIntSS_arg A1 hB nN1).mono ?_
  rintro e w6' ⟨v_t2, rfl, o_t2, hb⟩
  replace o_x1 := o_x1.keep hb
  replace hB := hB.trans (hb.mono hB.size)
  clear hb
  go_wp2_with fail
  refine (eqIntSS_any _ _ L1 _ o_x1 o_t2 nE1.1 nE1.2).mono ?_
  rintro e w7' ⟨rfl, hb⟩
  replace o_x1 := o_x1.keep hb
  replace o_t2 := o_t2.keep hb
  replace hB := hB.trans (hb.mono hB.size)
  clear hb
  clear o_t2 
  go_wp2
  go_ret
  exact ⟨rfl, hB⟩
end Go.Proofs.Ytopelbcikbkdbaa
