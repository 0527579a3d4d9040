/- The walk of the law on IsWord. Conditions: none. -/
import Derived.Test.YtjkckifpjmhdeaaWordF
namespace Go.Proofs.Ytjkckifpjmhdeaa
open Go.RowKit

set_option maxHeartbeats 3200000 in
theorem walkFnExactIsWord (w : World) (a0 : Int) (w0 : (Lit.int .i64 a0).wf = true) (a1 : Option Addr) (len1 cap1 : Nat) (z1 : List Int) (w1 : IsRow .i64 w a1 len1 cap1 z1) :
    Calls Try.prog 4 #[.int .i64 a0, .slice a1 len1 cap1] w fun e w' => e = .returned (.bool true) ∧ Below w.heap.size w w' := by
  have i0 := i64_of_wf w0
  clear w0
  by_cases c1 : len1 ≤ 1048576
  case neg =>
    have c1' : 1048576 < len1 := by omega
    clear w1
    go_enter Try.func4, Try.ntmps4
    go_wp2
    go_ret
    exact ⟨rfl, Below.refl _ _⟩
  obtain ⟨L1, A1⟩ : ∃ L, ArgI w a1 len1 cap1 L := ⟨_, z1, w1, rfl⟩
  have n1 : L1.length ≤ 1048576 := by rw [A1.len]; exact c1
  have i1 := A1.i64
  clear w1
  obtain ⟨R, hR⟩ : ∃ R, R = isWord a0 L1 := ⟨_, rfl⟩
  have cS : ∀ (W : World) (u1 : Value) (h1 : Ints W u1 L1), Calls Try.prog 19 #[.int .i64 a0, u1] W (RetV W (.bool R)) := fun W u1 h1 => by rw [hR]; exact isWordS_any _ _ _ _ h1 (by omega)
  have cI : ∀ (W : World) (u1 : Value) (h1 : Ints W u1 L1), Calls Try.prog 20 #[.int .i64 a0, u1] W (RetV W (.bool R)) := fun W u1 h1 => by rw [hR]; exact isWord_any _ _ _ _ h1 (by omega)
  have CS := Lib.hid cS
  have CI := Lib.hid cI
  clear cS cI hR
  go_enter Try.func4, Try.ntmps4
  have hB := Below.refl w.heap.size w
  go_wp2_with fail
  refine (toIntS_arg A1 hB c1).mono ?_
  rintro e w1' ⟨v_t1, rfl, o_t1, hb⟩
  replace o_t1 := o_t1.base hB.size
  replace hB := hB.trans (hb.mono hB.size)
  clear hb
  go_wp2_with fail
  refine (CS.out _ _ o_t1.ints).mono ?_
  rintro e w2' ⟨rfl, hb⟩
  replace o_t1 := o_t1.keep hb
  replace hB := hB.trans (hb.mono hB.size)
  clear hb
  clear o_t1
  go_wp2_with fail
  refine (toIntS_arg A1 hB c1).mono ?_
  rintro e w3' ⟨v_x1, rfl, o_x1, hb⟩
  replace o_x1 := o_x1.base hB.size
  replace hB := hB.trans (hb.mono hB.size)
  clear hb
  go_wp2_with fail
  refine (CI.out _ _ o_x1.ints).mono ?_
  rintro e w4' ⟨rfl, hb⟩
  replace o_x1 := o_x1.keep hb
  replace hB := hB.trans (hb.mono hB.size)
  clear hb
  go_wp2_with fail
  refine (toIntS_arg A1 hB c1).mono ?_
  rintro e w5' ⟨v_t2, rfl, o_t2, hb⟩
  have ne_t2_x1 : Kept (v_t2.ownBlock ≠ v_x1.ownBlock) := ⟨own_ne o_x1 o_t2⟩
  replace o_t2 := o_t2.base hB.size
  replace o_x1 := o_x1.keep hb
  replace hB := hB.trans (hb.mono hB.size)
  clear hb
  go_wp2_with fail
  refine (eqIntS_any _ _ L1 _ o_x1.ints o_t2.ints (by omega)).mono ?_
  rintro e w6' ⟨rfl, hb⟩
  replace o_x1 := o_x1.keep hb
  replace o_t2 := o_t2.keep hb
  replace hB := hB.trans (hb.mono hB.size)
  clear hb
  clear o_t2
  go_wp2
  go_ret
  exact ⟨rfl, hB⟩
end Go.Proofs.Ytjkckifpjmhdeaa
