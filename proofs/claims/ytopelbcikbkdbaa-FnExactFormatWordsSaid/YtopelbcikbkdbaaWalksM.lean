/- The walk of the law on FormatWords. Conditions: none. -/
import Derived.Test.YtopelbcikbkdbaaListD
namespace Go.Proofs.Ytopelbcikbkdbaa
open Go.RowKit

set_option maxHeartbeats 3200000 in
theorem walkFnExactFormatWords (w : World) (a0 : Option Addr) (len0 cap0 : Nat) (L0 : List (List Int)) (A0 : ArgL w a0 len0 cap0 L0) :
    Calls Try.prog 6 #[.slice a0 len0 cap0] w fun e w' => e = .returned (.bool true) ∧ Below w.heap.size w w' := by
  obtain ⟨N0, hN0⟩ : ∃ N, Kept (N = len0 + totL L0) := ⟨_, ⟨rfl⟩⟩
  by_cases c0 : (N0 : Int) ≤ 1048576
  case neg =>
    have c0' : 1048576 < (N0 : Int) := by omega
    go_enter Try.func6, Try.ntmps6
    have hB := Below.refl w.heap.size w
    go_wp2_with fail
    refine (szIntSS_over _ a0 len0 cap0 L0 N0 _ (A0.keep hB) hN0.out c0' (by omega) (by omega)).mono ?_
    rintro e w1' ⟨rfl, hb⟩
    replace hB := hB.trans (hb.mono hB.size)
    clear hb
    go_wp2
    go_ret
    exact ⟨rfl, hB⟩
  have nE0 : L0.length ≤ 1048576 ∧ totL L0 ≤ 1048576 := by have := A0.1; have := hN0.out; constructor <;> omega
  have nN0 : len0 + totL L0 ≤ 1048576 := by have := hN0.out; omega
  obtain ⟨V0, hV0⟩ : ∃ R, R = (⟨(fmtWs L0).toArray⟩ : ByteArray) := ⟨_, rfl⟩
  have cS : ∀ (W : World) (u0 : Value) (h0 : Rows2 W u0 L0), Calls Try.prog 24 #[u0] W (RetV W (.string V0)) := fun W u0 h0 => by rw [hV0]; exact formatWordsS_any _ _ _ h0 nE0.1 nE0.2
  have cI : ∀ (W : World) (u0 : Value) (h0 : Rows2 W u0 L0), Calls Try.prog 25 #[u0] W (RetV W (.string V0)) := fun W u0 h0 => by rw [hV0]; exact formatWords_any _ _ _ h0 nE0.1 nE0.2
  have CS := Lib.hid cS
  have CI := Lib.hid cI
  clear cS cI hV0
  go_enter Try.func6, Try.ntmps6
  have hB := Below.refl w.heap.size w
  go_wp2_with fail
  refine (szIntSS_fits _ a0 len0 cap0 L0 N0 _ (A0.keep hB) hN0.out c0 (by omega)).mono ?_
  rintro e w1' ⟨rfl, hb⟩
  replace hB := hB.trans (hb.mono hB.size)
  clear hb
  go_wp2_with fail
  refine (toIntSS_arg A0 hB nN0).mono ?_
  rintro e w2' ⟨v_t1, rfl, o_t1, hb⟩
  replace hB := hB.trans (hb.mono hB.size)
  clear hb
  go_wp2_with fail
  refine (CS.out _ _ o_t1).mono ?_
  rintro e w3' ⟨rfl, hb⟩
  replace o_t1 := o_t1.keep hb
  replace hB := hB.trans (hb.mono hB.size)
  clear hb
  clear o_t1 
  go_wp2_with fail
  refine (toIntSS_arg A0 hB nN0).mono ?_
  rintro e w4' ⟨v_x0, rfl, o_x0, hb⟩
  replace hB := hB.trans (hb.mono hB.size)
  clear hb
  go_wp2_with fail
  refine (CI.out _ _ o_x0).mono ?_
  rintro e w5' ⟨rfl, hb⟩
  replace o_x0 := o_x0.keep hb
  replace hB := hB.trans (hb.mono hB.size)
  clear hb
  go_wp2_with fail
  refine (toIntSS_arg A0 hB nN0).mono ?_
  rintro e w6' ⟨v_t2, rfl, o_t2, hb⟩
  replace o_x0 := o_x0.keep hb
  replace hB := hB.trans (hb.mono hB.size)
  clear hb
  go_wp2_with fail
  refine (eqIntSS_any _ _ L0 _ o_x0 o_t2 nE0.1 nE0.2).mono ?_
  rintro e w7' ⟨rfl, hb⟩
  replace o_x0 := o_x0.keep hb
  replace o_t2 := o_t2.keep hb
  replace hB := hB.trans (hb.mono hB.size)
  clear hb
  clear o_t2 
  go_wp2
  go_ret
  exact ⟨rfl, hB⟩
end Go.Proofs.Ytopelbcikbkdbaa
