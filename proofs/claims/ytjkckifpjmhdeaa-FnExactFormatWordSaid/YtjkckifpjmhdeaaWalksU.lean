/- The walk of the law on FormatWord. Conditions: none. -/
import Derived.Test.YtjkckifpjmhdeaaWordG
namespace Go.Proofs.Ytjkckifpjmhdeaa
open Go.RowKit

set_option maxHeartbeats 3200000 in
theorem walkFnExactFormatWord (w : World) (a0 : Option Addr) (len0 cap0 : Nat) (z0 : List Int) (w0 : IsRow .i64 w a0 len0 cap0 z0) :
    Calls Try.prog 7 #[.slice a0 len0 cap0] w fun e w' => e = .returned (.bool true) ∧ Below w.heap.size w w' := by
  by_cases c0 : len0 ≤ 1048576
  case neg =>
    have c0' : 1048576 < len0 := by omega
    clear w0
    go_enter Try.func7, Try.ntmps7
    go_wp2
    go_ret
    exact ⟨rfl, Below.refl _ _⟩
  obtain ⟨L0, A0⟩ : ∃ L, ArgI w a0 len0 cap0 L := ⟨_, z0, w0, rfl⟩
  have n0 : L0.length ≤ 1048576 := by rw [A0.len]; exact c0
  have i0 := A0.i64
  clear w0
  obtain ⟨R, hR⟩ : ∃ R, R = (⟨(fmtW L0).toArray⟩ : ByteArray) := ⟨_, rfl⟩
  have cS : ∀ (W : World) (u0 : Value) (h0 : Ints W u0 L0), Calls Try.prog 27 #[u0] W (RetV W (.string R)) := fun W u0 h0 => by rw [hR]; exact formatWordS_any _ _ _ h0 (by omega)
  have cI : ∀ (W : World) (u0 : Value) (h0 : Ints W u0 L0), Calls Try.prog 28 #[u0] W (RetV W (.string R)) := fun W u0 h0 => by rw [hR]; exact formatWord_any _ _ _ h0 (by omega)
  have CS := Lib.hid cS
  have CI := Lib.hid cI
  clear cS cI hR
  go_enter Try.func7, Try.ntmps7
  have hB := Below.refl w.heap.size w
  go_wp2_with fail
  refine (toIntS_arg A0 hB c0).mono ?_
  rintro e w1' ⟨v_t1, rfl, o_t1, hb⟩
  replace o_t1 := o_t1.base hB.size
  replace hB := hB.trans (hb.mono hB.size)
  clear hb
  go_wp2_with fail
  refine (CS.out _ _ o_t1.ints).mono ?_
  rintro e w2' ⟨rfl, hb⟩
  replace o_t1 := o_t1.keep hb
  replace hB := hB.trans (hb.mono hB.size)
  clear hb
  clear o_t1
  go_wp2_with fail
  refine (toIntS_arg A0 hB c0).mono ?_
  rintro e w3' ⟨v_x0, rfl, o_x0, hb⟩
  replace o_x0 := o_x0.base hB.size
  replace hB := hB.trans (hb.mono hB.size)
  clear hb
  go_wp2_with fail
  refine (CI.out _ _ o_x0.ints).mono ?_
  rintro e w4' ⟨rfl, hb⟩
  replace o_x0 := o_x0.keep hb
  replace hB := hB.trans (hb.mono hB.size)
  clear hb
  go_wp2_with fail
  refine (toIntS_arg A0 hB c0).mono ?_
  rintro e w5' ⟨v_t2, rfl, o_t2, hb⟩
  have ne_t2_x0 : Kept (v_t2.ownBlock ≠ v_x0.ownBlock) := ⟨own_ne o_x0 o_t2⟩
  replace o_t2 := o_t2.base hB.size
  replace o_x0 := o_x0.keep hb
  replace hB := hB.trans (hb.mono hB.size)
  clear hb
  go_wp2_with fail
  refine (eqIntS_any _ _ L0 _ o_x0.ints o_t2.ints (by omega)).mono ?_
  rintro e w6' ⟨rfl, hb⟩
  replace o_x0 := o_x0.keep hb
  replace o_t2 := o_t2.keep hb
  replace hB := hB.trans (hb.mono hB.size)
  clear hb
  clear o_t2
  go_wp2
  go_ret
  exact ⟨rfl, hB⟩
end Go.Proofs.Ytjkckifpjmhdeaa
