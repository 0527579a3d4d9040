/- The walk of the law on ParseWord. Conditions: none. -/
import Derived.Test.YtjkckifpjmhdeaaWordH
namespace Go.Proofs.Ytjkckifpjmhdeaa
open Go.RowKit

set_option maxHeartbeats 3200000 in
theorem walkFnExactParseWord (a0 : Int) (w0 : (Lit.int .i64 a0).wf = true) (a1 : ByteArray) (_ : a1.size ≤ maxLen) (w : World) :
    Calls Try.prog 14 #[.int .i64 a0, .string a1] w fun e w' => e = .returned (.bool true) ∧ Below w.heap.size w w' := by
  have i0 := i64_of_wf w0
  clear w0
  by_cases c1 : a1.size ≤ 1048576
  case neg =>
    have c1' : 1048576 < a1.size := by omega
    go_enter Try.func14, Try.ntmps14
    go_wp2
    go_ret
    exact ⟨rfl, Below.refl _ _⟩
  obtain ⟨R, hR⟩ : ∃ R, R = parseW a0 a1.data.toList := ⟨_, rfl⟩
  have nR : R.length ≤ 134217728 := by rw [hR]; have := parseW_length a0 a1.data.toList; simp at this; omega
  obtain ⟨R2, hR2⟩ : ∃ R, R = parseOk a0 a1.data.toList := ⟨_, rfl⟩
  have cS : ∀ (W : World) , Calls Try.prog 41 #[.int .i64 a0, .string a1] W (RetI2 W R (.bool R2)) := fun W => by rw [hR, hR2]; exact parseWordS_any a0 a1 c1 W
  have cI : ∀ (W : World) , Calls Try.prog 42 #[.int .i64 a0, .string a1] W (RetI2 W R (.bool R2)) := fun W => by rw [hR, hR2]; exact parseWord_any a0 a1 c1 W
  have CS := Lib.hid cS
  have CI := Lib.hid cI
  clear cS cI hR hR2
  go_enter Try.func14, Try.ntmps14
  have hB := Below.refl w.heap.size w
  go_wp2_with fail
  refine (CS.out _  ).mono ?_
  rintro e w1' ⟨v_w0, rfl, o_w0, hb⟩
  replace o_w0 := o_w0.base hB.size
  replace hB := hB.trans (hb.mono hB.size)
  clear hb
  go_wp2_with fail
  refine (CI.out _  ).mono ?_
  rintro e w2' ⟨v_g0, rfl, o_g0, hb⟩
  have ne_g0_w0 : Kept (v_g0.ownBlock ≠ v_w0.ownBlock) := ⟨own_ne o_w0 o_g0⟩
  replace o_g0 := o_g0.base hB.size
  replace o_w0 := o_w0.keep hb
  replace hB := hB.trans (hb.mono hB.size)
  clear hb
  go_wp2_with fail
  refine (eqIntS_any _ _ R _ o_g0.ints o_w0.ints (by omega)).mono ?_
  rintro e w3' ⟨rfl, hb⟩
  replace o_w0 := o_w0.keep hb
  replace o_g0 := o_g0.keep hb
  replace hB := hB.trans (hb.mono hB.size)
  clear hb
  go_wp2_with fail
  refine (markIntS_any _ _ _ (1) _ o_g0 (by omega) (by omega)).mono ?_
  rintro e w4' ⟨rfl, om, hg⟩
  replace o_w0 := o_w0.grown hg (fun h => ne_g0_w0.out h.symm)
  replace hB := hB.grown hg hB.size (own_base o_g0)
  replace o_g0 := om
  clear hg
  go_wp2_with fail
  refine (heldIntS_any _ R.length 1 _ o_g0.ints (by omega) (by omega)).mono ?_
  rintro e w5' ⟨rfl, rfl⟩
  go_wp2_with fail
  refine (CI.out _  ).mono ?_
  rintro e w6' ⟨v_h0, rfl, o_h0, hb⟩
  have ne_h0_w0 : Kept (v_h0.ownBlock ≠ v_w0.ownBlock) := ⟨own_ne o_w0 o_h0⟩
  have ne_h0_g0 : Kept (v_h0.ownBlock ≠ v_g0.ownBlock) := ⟨own_ne o_g0 o_h0⟩
  replace o_h0 := o_h0.base hB.size
  replace o_w0 := o_w0.keep hb
  replace o_g0 := o_g0.keep hb
  replace hB := hB.trans (hb.mono hB.size)
  clear hb
  go_wp2_with fail
  refine (eqIntS_any _ _ R _ o_h0.ints o_w0.ints (by omega)).mono ?_
  rintro e w7' ⟨rfl, hb⟩
  replace o_w0 := o_w0.keep hb
  replace o_g0 := o_g0.keep hb
  replace o_h0 := o_h0.keep hb
  replace hB := hB.trans (hb.mono hB.size)
  clear hb
  go_wp2_with fail
  refine (heldIntS_any _ R.length 1 _ o_g0.ints (by omega) (by omega)).mono ?_
  rintro e w8' ⟨rfl, rfl⟩
  go_wp2
  go_ret
  exact ⟨rfl, hB⟩
end Go.Proofs.Ytjkckifpjmhdeaa
