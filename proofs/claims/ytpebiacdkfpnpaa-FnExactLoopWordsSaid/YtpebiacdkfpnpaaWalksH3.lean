/- The walk of the law on LoopWords. Conditions: none. -/
import Derived.Test.YtpebiacdkfpnpaaLoopS
import Derived.Test.YtpebiacdkfpnpaaOpenE
namespace Go.Proofs.Ytpebiacdkfpnpaa
open Go.RowKit

theorem totL_le {ls : List (List Int)} {c : Nat} (h : ∀ w ∈ ls, w.length ≤ c) : totL ls ≤ ls.length * c := by
  induction ls with
  | nil => simp [totL]
  | cons a t ih =>
    have h1 := ih fun w hw => h w (List.mem_cons_of_mem _ hw)
    have h2 := h a (List.mem_cons_self ..)
    simp only [totL, List.map_cons, List.sum_cons, List.length_cons, Nat.succ_mul] at *
    omega
theorem loopW_small (r n v most : Int) (l : List Ed) : (loopW r n v most l).length ≤ 38880 ∧ totL (loopW r n v most l) ≤ 155520 := by
  cases hc : canLoop r n v most l with
  | false => rw [loopW_no hc]; simp [totL]
  | true =>
    rw [loopW_yes hc]
    rw [canLoop, Bool.and_eq_true, Bool.and_eq_true] at hc
    obtain ⟨g1, _, _, _⟩ := isG_all (isFold_g hc.1)
    have hm := of_decide_eq_true hc.2.2
    have h1 : (loopsL l r.toNat v most.toNat).length ≤ 38880 := Nat.le_trans (List.length_filter_le _ _) (belowW_small (by omega) (by omega))
    have h2 : totL (loopsL l r.toNat v most.toNat) ≤ (loopsL l r.toNat v most.toNat).length * 4 := totL_le fun w hw => by
      have := belowW_mem (List.mem_filter.1 hw).1
      omega
    omega
/-- A row older than all of it was written. -/
theorem OwnL.low {w w' : World} {B : Nat} {v : Value} {ls : List (List Int)} {row : Option Nat} (h : OwnL w B v ls) (hg : w.grownBy w' row) (hr : ∀ k, row = some k → k < B) : OwnL w' B v ls := by
  obtain ⟨g, cap, vs, rfl, ho, hrr, hp⟩ := h
  have hgB := (ownsRow_parts ho).1
  refine ⟨g, cap, vs, rfl, ho.kept hg (.inr ?_), fun i hi => ?_, hp⟩
  · simp only [Value.ownBlock, ne_eq]
    intro e; have := hr g e.symm; omega
  · obtain ⟨vi, h1, h2, h3⟩ := hrr i hi
    refine ⟨vi, h1, h2.grown hg ?_, h3⟩
    obtain ⟨k, hk, hlo, _⟩ := h2.block
    rw [hk]
    intro e; have := hr k e.symm; omega
set_option maxHeartbeats 3200000 in
theorem walkFnExactLoopWords (w : World) (r0 n0 : Int) (a0 : Option Addr) (len0 cap0 : Nat) (L0 : List Ed) (wr0 : (Lit.int .i64 r0).wf = true) (wn0 : (Lit.int .i64 n0).wf = true) (A0 : ArgE w a0 len0 cap0 L0) (a1 : Int) (w1 : (Lit.int .i64 a1).wf = true) (a2 : Int) (w2 : (Lit.int .i64 a2).wf = true) :
    Calls Try.prog 9 #[graphV r0 n0 (.slice a0 len0 cap0), .int .i64 a1, .int .i64 a2] w fun e w' => e = .returned (.bool true) ∧ Below w.heap.size w w' := by
  have ir0 := i64_of_wf wr0
  have in0 := i64_of_wf wn0
  have i1 := i64_of_wf w1
  have i2 := i64_of_wf w2
  clear wr0 wn0 w1 w2
  have mx0 : len0 ≤ 9223372036854775807 := A0.2.2
  obtain ⟨wP, hwP⟩ : ∃ z, z = w.alloc (Obj.cells #[.int .i64 r0, .int .i64 n0, .slice a0 len0 cap0] 24) := ⟨_, rfl⟩
  have hB := (Below.refl w.heap.size w).alloc (Nat.le_refl _) (Obj.cells #[.int .i64 r0, .int .i64 n0, .slice a0 len0 cap0] 24)
  have bx := Box.new w (Obj.cells #[.int .i64 r0, .int .i64 n0, .slice a0 len0 cap0] 24)
  rw [← hwP] at hB bx
  have hP := Below.refl wP.heap.size wP
  have HP := Lib.hid hwP
  have BX := Lib.hid bx
  clear hwP bx
  obtain ⟨q1, q2, q3⟩ := BX.out.cells
  by_cases c0 : (len0 : Int) ≤ 1048576
  case neg =>
    have c0' : 1048576 < (len0 : Int) := by omega
    go_enter Try.func9, Try.ntmps9
    rw [HP.out] at q1 q2 q3
    go_wp2_with fail
    rw [← HP.out]
    refine (szGraph_over r0 n0 _ a0 len0 cap0 _ c0' (by omega) mx0).mono ?_
    rintro e w1' ⟨rfl, hb⟩
    go_wp2
    go_ret
    exact ⟨rfl, hB.trans (hb.mono hB.size)⟩
  have nE0 : L0.length ≤ 1048576 := by rw [A0.len]; omega
  have hsm := loopW_small r0 n0 a1 a2 L0
  have cS := fun W (u0 : Value) (h0 : Edges W u0 L0) => loopWordsS_any r0 n0 a1 a2 u0 L0 W h0 nE0
  have cI := fun W (u0 : Value) (h0 : Edges W u0 L0) => loopWords_any r0 n0 a1 a2 u0 L0 W h0 nE0
  obtain ⟨R, hR⟩ : ∃ R, R = loopW r0 n0 a1 a2 L0 := ⟨_, rfl⟩
  rw [← hR] at hsm cS cI
  have hn : R.length ≤ 1048576 := by omega
  have ht : totL R ≤ 1048576 := by omega
  obtain ⟨T, hT⟩ : ∃ T, T = totL R := ⟨_, rfl⟩
  have HT := Lib.hid hT
  have hT4 : T ≤ 155520 := by omega
  have CS := Lib.hid cS
  have CI := Lib.hid cI
  clear cS cI hR hsm hT
  go_enter Try.func9, Try.ntmps9
  rw [HP.out] at q1 q2 q3
  go_wp2_with fail
  rw [← HP.out]
  refine (szGraph_fits r0 n0 _ a0 len0 cap0 _ c0 (by omega)).mono ?_
  rintro e w1' ⟨rfl, hb⟩
  replace hP := hP.trans (hb.mono hP.size)
  clear q1 q2 q3 hb
  obtain ⟨q1, q2, q3⟩ := (BX.out.keep hP).cells
  go_wp2_with fail
  refine (toGraph_arg r0 n0 A0 (hB.trans (hP.mono hB.size)) (by omega)).mono ?_
  rintro e w2' ⟨v_t1, rfl, o_t1, hb⟩
  replace hP := hP.trans (hb.mono hP.size)
  clear q1 q2 q3 hb
  go_wp2_with fail
  refine (CS.out _ _ o_t1.edges).mono ?_
  rintro e w3' ⟨v_w0, rfl, o_w0, hb⟩
  replace hP := hP.trans (hb.mono hP.size)
  have RW := Lib.hid o_w0.rows
  have hPA := hP.size
  have hA := Below.refl w3'.heap.size w3'
  clear o_t1 o_w0 hb
  obtain ⟨q1, q2, q3⟩ := (BX.out.keep hP).cells
  go_wp2_with fail
  refine (toGraph_arg r0 n0 A0 (hB.trans (hP.mono hB.size)) (by omega)).mono ?_
  rintro e w4' ⟨v_x0, rfl, oe_x0, hb⟩
  replace hP := hP.trans (hb.mono hP.size)
  replace hA := hA.trans (hb.mono hA.size)
  have o_x0 : OwnN _ _ _ _ := .inr oe_x0
  have x_lo := o_x0.lo
  clear oe_x0 hb q1 q2 q3
  obtain ⟨A_x0, c_x0, rfl⟩ := o_x0.edges.form
  have hal := (Below.refl w4'.heap.size w4').alloc (Nat.le_refl _) (Obj.cells #[.int .i64 r0, .int .i64 n0, .slice A_x0 L0.length c_x0] 29)
  have bx_x0 := Box.new w4' (Obj.cells #[.int .i64 r0, .int .i64 n0, .slice A_x0 L0.length c_x0] 29)
  replace o_x0 := o_x0.keep hal
  replace hP := hP.trans (hal.mono hP.size)
  replace hA := hA.trans (hal.mono hA.size)
  obtain ⟨wX, hwX⟩ : ∃ z, z = w4'.alloc (Obj.cells #[.int .i64 r0, .int .i64 n0, .slice A_x0 L0.length c_x0] 29) := ⟨_, rfl⟩
  have x_hi := o_x0.hi
  rw [← hwX] at o_x0 bx_x0 hP hA x_hi
  have HX := Lib.hid hwX
  have hX := Below.refl wX.heap.size wX
  have hAX := hA.size
  clear hal hwX
  obtain ⟨q1, q2, q3⟩ := (BX.out.keep hP).cells
  obtain ⟨z1, z2, z3⟩ := bx_x0.cells
  rw [HX.out] at z1 z2 z3
  go_wp2_with fail
  rw [← HX.out]
  refine (CI.out _ _ o_x0.edges).mono ?_
  rintro e w5' ⟨v_g0, rfl, o_g0, hb⟩
  replace hP := hP.trans (hb.mono hP.size)
  replace hA := hA.trans (hb.mono hA.size)
  replace hX := hX.trans (hb.mono hX.size)
  clear q1 q2 q3 z1 z2 z3 hb
  obtain ⟨q1, q2, q3⟩ := (BX.out.keep hP).cells
  go_wp2_with fail
  refine (eqIntSS_any _ _ R _ o_g0.rows (RW.out.keep hA) hn ht).mono ?_
  rintro e w6' ⟨rfl, hb⟩
  replace o_g0 := o_g0.keep hb
  replace hP := hP.trans (hb.mono hP.size)
  replace hA := hA.trans (hb.mono hA.size)
  replace hX := hX.trans (hb.mono hX.size)
  clear q1 q2 q3 hb
  obtain ⟨q1, q2, q3⟩ := (BX.out.keep hP).cells
  obtain ⟨z1, z2, z3⟩ := (bx_x0.keep hX).cells
  have hd := (Below.refl w6'.heap.size w6').drew
  go_wp2
  go_region_law (first
    | (go_simp; go_at_call 12; refine (toGraph_arg r0 n0 A0 ((hB.trans (hP.mono hB.size)).trans (hd.mono (hB.trans (hP.mono hB.size)).size)) (by omega)).mono ?_; rintro e w7' ⟨v_tt, rfl, o_tt, hb⟩; replace hb := hd.trans (hb.mono hd.size); replace o_g0 := o_g0.keep hb; replace hP := hP.trans (hb.mono hP.size); replace hA := hA.trans (hb.mono hA.size); replace hX := hX.trans (hb.mono hX.size); obtain ⟨s1, s2, s3⟩ := (BX.out.keep hP).cells; obtain ⟨t1, t2, t3⟩ := (bx_x0.keep hX).cells; clear hb)
    | (go_simp; go_at_call 14; refine (eqGraph_any r0 n0 _ _ L0 _ (o_x0.keep hX).edges o_tt.edges (by omega)).mono ?_; rintro e w8' ⟨rfl, hb⟩))
  all_goals
    clear q1 q2 q3 z1 z2 z3 s1 s2 s3 t1 t2 t3 o_tt hd
    replace o_g0 := o_g0.keep hb
    replace hP := hP.trans (hb.mono hP.size)
    replace hA := hA.trans (hb.mono hA.size)
    replace hX := hX.trans (hb.mono hX.size)
    clear hb
    obtain ⟨z1, z2, z3⟩ := (bx_x0.keep hX).cells
    go_wp2_with fail
    refine (markGraph_any r0 n0 _ _ _ (1) _ (o_x0.keep hX) (by omega) (by omega)).mono ?_
    rintro e w9' ⟨rfl, om, hg⟩
    have hXs := hX.size
    replace o_g0 := o_g0.low hg x_hi
    replace hA := hA.grown hg hA.size x_lo
    replace hP := hP.grown hg hP.size (fun k hk => Nat.le_trans hPA (x_lo k hk))
    have hXs9 := hg.size
    clear om hg z1 z2 z3 hX o_x0
    go_wp2_with fail
    refine (eqIntSS_any _ _ R _ o_g0.rows (RW.out.keep hA) hn ht).mono ?_
    rintro e w10' ⟨rfl, hb⟩
    replace o_g0 := o_g0.keep hb
    replace hP := hP.trans (hb.mono hP.size)
    replace hA := hA.trans (hb.mono hA.size)
    have hXs10 := hb.size
    clear hb
    go_wp2_with fail
    refine (markIntSS_any _ R wX.heap.size 1 _ o_g0 (by omega) (by omega) hn (by omega)).mono ?_
    rintro e w11' ⟨rfl, o_g1, hb⟩
    replace hP := hP.trans (hb.mono (Nat.le_trans hPA hAX))
    replace hA := hA.trans (hb.mono hAX)
    clear o_g0 hb
    rw [← HT.out]
    go_wp2_with fail
    refine (heldIntSS_any _ R 1 _ o_g1.rows (by omega) (by omega) hn).mono ?_
    rintro e w12' ⟨rfl, rfl⟩
    rw [← HT.out]
    obtain ⟨q1, q2, q3⟩ := (BX.out.keep hP).cells
    go_wp2_with fail
    refine (toGraph_arg r0 n0 A0 (hB.trans (hP.mono hB.size)) (by omega)).mono ?_
    rintro e w13' ⟨v_t2, rfl, o_t2, hb⟩
    replace o_g1 := o_g1.keep hb
    replace hP := hP.trans (hb.mono hP.size)
    replace hA := hA.trans (hb.mono hA.size)
    clear q1 q2 q3 hb
    go_wp2_with fail
    refine (CI.out _ _ o_t2.edges).mono ?_
    rintro e w14' ⟨v_h0, rfl, o_h0, hb⟩
    replace o_g1 := o_g1.keep hb
    replace hP := hP.trans (hb.mono hP.size)
    replace hA := hA.trans (hb.mono hA.size)
    clear o_t2 hb
    go_wp2_with fail
    refine (eqIntSS_any _ _ R _ o_h0.rows (RW.out.keep hA) hn ht).mono ?_
    rintro e w15' ⟨rfl, hb⟩
    replace o_g1 := o_g1.keep hb
    replace hP := hP.trans (hb.mono hP.size)
    clear o_h0 hb
    go_wp2_with fail
    refine (heldIntSS_any _ R 1 _ o_g1.rows (by omega) (by omega) hn).mono ?_
    rintro e w16' ⟨rfl, rfl⟩
    rw [← HT.out]
    go_wp2
    go_ret
    exact ⟨rfl, hB.trans (hP.mono hB.size)⟩
end Go.Proofs.Ytpebiacdkfpnpaa
