/- The walk of the law on ParseGraph. Conditions: none. -/
import Derived.Test.YtfckgmajjonckaaPGraphS
import Derived.Test.YtfckgmajjonckaaPGraphI
import Derived.Test.YtfckgmajjonckaaBoxes
namespace Go.Proofs.Ytfckgmajjonckaa
open Go.RowKit

set_option maxHeartbeats 3200000 in
theorem walkFnExactParseGraph (a0 : ByteArray) (_ : a0.size ≤ maxLen) (w : World) :
    Calls Try.prog 11 #[.string a0] w fun e w' => e = .returned (.bool true) ∧ Below w.heap.size w w' := by
  by_cases c0 : a0.size ≤ 1048576
  case neg =>
    have c0' : 1048576 < a0.size := by omega
    go_enter Try.func11, Try.ntmps11
    go_wp2
    go_ret
    exact ⟨rfl, Below.refl _ _⟩
  obtain ⟨Gr0, hGr0⟩ : ∃ R, R = pgR a0.data.toList := ⟨_, rfl⟩
  obtain ⟨Gn0, hGn0⟩ : ∃ R, R = pgN a0.data.toList := ⟨_, rfl⟩
  obtain ⟨R0, hR0⟩ : ∃ R, R = pgL a0.data.toList := ⟨_, rfl⟩
  have bR0 : R0.length ≤ 134217728 := by rw [hR0]; have := pgL_len a0.data.toList; omega
  obtain ⟨V1, hV1⟩ : ∃ R, R = pgOk a0.data.toList := ⟨_, rfl⟩
  have cS : ∀ (W : World)  , Calls Try.prog 36 #[.string a0] W (RetG2 W Gr0 Gn0 R0 (.bool V1)) := fun W   => by rw [hGr0, hGn0, hR0, hV1]; exact parseGraphS_any _ c0 _
  have cI : ∀ (W : World)  , Calls Try.prog 37 #[.string a0] W (RetG2 W Gr0 Gn0 R0 (.bool V1)) := fun W   => by rw [hGr0, hGn0, hR0, hV1]; exact parseGraph_any _ c0 _
  have CS := Lib.hid cS
  have CI := Lib.hid cI
  clear cS cI hGr0 hGn0 hR0 hV1
  go_enter Try.func11, Try.ntmps11
  have hB := Below.refl w.heap.size w
  go_wp2_with fail
  refine (CS.out _  ).mono ?_
  rintro e w1' ⟨v_w0, rfl, o_w0, hb⟩
  replace o_w0 := o_w0.base hB.size
  replace hB := hB.trans (hb.mono hB.size)
  clear hb
  obtain ⟨A_w0, c_w0, rfl⟩ := o_w0.edges.form
  have hal := (Below.refl w1'.heap.size w1').alloc (Nat.le_refl _) (Obj.cells #[.int .i64 Gr0, .int .i64 Gn0, .slice A_w0 R0.length c_w0] 29)
  have bn_w0_w0 := far_new (w := w1') o_w0.hi
  replace o_w0 := o_w0.keep hal
  replace hB := hB.trans (hal.mono hB.size)
  clear hal
  have bx_w0 := Box.new w1' (Obj.cells #[.int .i64 Gr0, .int .i64 Gn0, .slice A_w0 R0.length c_w0] 29)
  obtain ⟨q_w0a, q_w0b, q_w0c⟩ := bx_w0.cells
  go_wp2_with fail
  refine (CI.out _  ).mono ?_
  rintro e w2' ⟨v_g0, rfl, o_g0, hb⟩
  clear q_w0a q_w0b q_w0c
  have ap_g0_w0 := apart_of o_w0.hi o_g0.lo (Nat.le_refl _)
  have bn_w0_g0 := bx_w0.far o_g0.lo (Nat.le_refl _)
  replace o_g0 := o_g0.base hB.size
  replace o_w0 := o_w0.keep hb
  replace bx_w0 := bx_w0.keep hb
  replace hB := hB.trans (hb.mono hB.size)
  clear hb
  obtain ⟨A_g0, c_g0, rfl⟩ := o_g0.edges.form
  have hal := (Below.refl w2'.heap.size w2').alloc (Nat.le_refl _) (Obj.cells #[.int .i64 Gr0, .int .i64 Gn0, .slice A_g0 R0.length c_g0] 29)
  have bn_g0_w0 := far_new (w := w2') o_w0.hi
  have bn_g0_g0 := far_new (w := w2') o_g0.hi
  replace o_w0 := o_w0.keep hal
  replace o_g0 := o_g0.keep hal
  replace bx_w0 := bx_w0.keep hal
  replace hB := hB.trans (hal.mono hB.size)
  clear hal
  have bx_g0 := Box.new w2' (Obj.cells #[.int .i64 Gr0, .int .i64 Gn0, .slice A_g0 R0.length c_g0] 29)
  obtain ⟨q_w0a, q_w0b, q_w0c⟩ := bx_w0.cells
  obtain ⟨q_g0a, q_g0b, q_g0c⟩ := bx_g0.cells
  go_wp2_with fail
  refine (eqGraph_any Gr0 Gn0 _ _ R0 _ o_g0.edges o_w0.edges (by omega)).mono ?_
  rintro e w3' ⟨rfl, hb⟩
  clear q_w0a q_w0b q_w0c q_g0a q_g0b q_g0c
  replace o_w0 := o_w0.keep hb
  replace o_g0 := o_g0.keep hb
  replace bx_w0 := bx_w0.keep hb
  replace bx_g0 := bx_g0.keep hb
  replace hB := hB.trans (hb.mono hB.size)
  clear hb
  obtain ⟨q_w0a, q_w0b, q_w0c⟩ := bx_w0.cells
  obtain ⟨q_g0a, q_g0b, q_g0c⟩ := bx_g0.cells
  go_wp2_with fail
  refine (markGraph_any Gr0 Gn0 _ _ _ (1) _ o_g0 (by omega) (by omega)).mono ?_
  rintro e w4' ⟨rfl, om, hg⟩
  clear q_w0a q_w0b q_w0c q_g0a q_g0b q_g0c
  replace o_w0 := o_w0.apart hg ap_g0_w0.symm
  replace bx_w0 := bx_w0.grown hg bn_w0_g0
  replace bx_g0 := bx_g0.grown hg bn_g0_g0
  replace hB := hB.grown hg hB.size o_g0.lo
  replace o_g0 := om
  clear hg
  obtain ⟨q_w0a, q_w0b, q_w0c⟩ := bx_w0.cells
  obtain ⟨q_g0a, q_g0b, q_g0c⟩ := bx_g0.cells
  go_wp2_with fail
  refine (heldGraph_any Gr0 Gn0 _ R0.length (1) _ o_g0.edges (by omega) (by omega)).mono ?_
  rintro e w5' ⟨rfl, hb⟩
  clear q_w0a q_w0b q_w0c q_g0a q_g0b q_g0c
  replace o_w0 := o_w0.keep hb
  replace o_g0 := o_g0.keep hb
  replace bx_w0 := bx_w0.keep hb
  replace bx_g0 := bx_g0.keep hb
  replace hB := hB.trans (hb.mono hB.size)
  clear hb
  obtain ⟨q_w0a, q_w0b, q_w0c⟩ := bx_w0.cells
  obtain ⟨q_g0a, q_g0b, q_g0c⟩ := bx_g0.cells
  go_wp2_with fail
  refine (CI.out _  ).mono ?_
  rintro e w6' ⟨v_h0, rfl, o_h0, hb⟩
  clear q_w0a q_w0b q_w0c q_g0a q_g0b q_g0c
  have ap_h0_w0 := apart_of o_w0.hi o_h0.lo (Nat.le_refl _)
  have ap_h0_g0 := apart_of o_g0.hi o_h0.lo (Nat.le_refl _)
  have bn_w0_h0 := bx_w0.far o_h0.lo (Nat.le_refl _)
  have bn_g0_h0 := bx_g0.far o_h0.lo (Nat.le_refl _)
  replace o_h0 := o_h0.base hB.size
  replace o_w0 := o_w0.keep hb
  replace o_g0 := o_g0.keep hb
  replace bx_w0 := bx_w0.keep hb
  replace bx_g0 := bx_g0.keep hb
  replace hB := hB.trans (hb.mono hB.size)
  clear hb
  obtain ⟨A_h0, c_h0, rfl⟩ := o_h0.edges.form
  have hal := (Below.refl w6'.heap.size w6').alloc (Nat.le_refl _) (Obj.cells #[.int .i64 Gr0, .int .i64 Gn0, .slice A_h0 R0.length c_h0] 29)
  have bn_h0_w0 := far_new (w := w6') o_w0.hi
  have bn_h0_g0 := far_new (w := w6') o_g0.hi
  have bn_h0_h0 := far_new (w := w6') o_h0.hi
  replace o_w0 := o_w0.keep hal
  replace o_g0 := o_g0.keep hal
  replace o_h0 := o_h0.keep hal
  replace bx_w0 := bx_w0.keep hal
  replace bx_g0 := bx_g0.keep hal
  replace hB := hB.trans (hal.mono hB.size)
  clear hal
  have bx_h0 := Box.new w6' (Obj.cells #[.int .i64 Gr0, .int .i64 Gn0, .slice A_h0 R0.length c_h0] 29)
  obtain ⟨q_w0a, q_w0b, q_w0c⟩ := bx_w0.cells
  obtain ⟨q_g0a, q_g0b, q_g0c⟩ := bx_g0.cells
  obtain ⟨q_h0a, q_h0b, q_h0c⟩ := bx_h0.cells
  go_wp2_with fail
  refine (eqGraph_any Gr0 Gn0 _ _ R0 _ o_h0.edges o_w0.edges (by omega)).mono ?_
  rintro e w7' ⟨rfl, hb⟩
  clear q_w0a q_w0b q_w0c q_g0a q_g0b q_g0c q_h0a q_h0b q_h0c
  replace o_w0 := o_w0.keep hb
  replace o_g0 := o_g0.keep hb
  replace o_h0 := o_h0.keep hb
  replace bx_w0 := bx_w0.keep hb
  replace bx_g0 := bx_g0.keep hb
  replace bx_h0 := bx_h0.keep hb
  replace hB := hB.trans (hb.mono hB.size)
  clear hb
  obtain ⟨q_w0a, q_w0b, q_w0c⟩ := bx_w0.cells
  obtain ⟨q_g0a, q_g0b, q_g0c⟩ := bx_g0.cells
  obtain ⟨q_h0a, q_h0b, q_h0c⟩ := bx_h0.cells
  go_wp2_with fail
  refine (heldGraph_any Gr0 Gn0 _ R0.length (1) _ o_g0.edges (by omega) (by omega)).mono ?_
  rintro e w8' ⟨rfl, hb⟩
  clear q_w0a q_w0b q_w0c q_g0a q_g0b q_g0c q_h0a q_h0b q_h0c
  replace o_w0 := o_w0.keep hb
  replace o_g0 := o_g0.keep hb
  replace o_h0 := o_h0.keep hb
  replace bx_w0 := bx_w0.keep hb
  replace bx_g0 := bx_g0.keep hb
  replace bx_h0 := bx_h0.keep hb
  replace hB := hB.trans (hb.mono hB.size)
  clear hb
  obtain ⟨q_w0a, q_w0b, q_w0c⟩ := bx_w0.cells
  obtain ⟨q_g0a, q_g0b, q_g0c⟩ := bx_g0.cells
  obtain ⟨q_h0a, q_h0b, q_h0c⟩ := bx_h0.cells
  go_wp2
  go_ret
  exact ⟨rfl, hB⟩
end Go.Proofs.Ytfckgmajjonckaa
