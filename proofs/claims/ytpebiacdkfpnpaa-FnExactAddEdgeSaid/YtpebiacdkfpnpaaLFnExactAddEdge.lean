/- FnExactAddEdge: for every input the law returns true and each argument reads as before: the statement, round the walk. Conditions: none. -/
import Derived.Test.YtpebiacdkfpnpaaHead
import Derived.Test.YtpebiacdkfpnpaaWalksH4
import Derived.ProofKit
import Derived.OpenShut
import Derived.ShutString
import Derived.ChangeOld
import Derived.Below
import Derived.Lib.SmallJoins
import Derived.Test.YtpebiacdkfpnpaaOpenE
namespace Go.Proofs.Ytpebiacdkfpnpaa.fnExactAddEdge
open Go.ChangeShapes Go.WideShapes Go.ChangeAt Go.RowKit
open Go.Joins

theorem facts : joinedFacts Try.checked.prog 5 Try.f5 Rows.fnExactAddEdgeSpec Rows.fnExactAddEdgeRow = true := by
  unfold joinedFacts
  repeat' (with_reducible refine Bool.and_eq_true_iff.2 ⟨?_, ?_⟩)
  all_goals first | (with_reducible exact head_mayEnter) | (rw [head_lifts]; kernel_rfl) | (rw [head_make]; kernel_rfl) | (as_aux_lemma => kernel_rfl)

set_option maxRecDepth 100000 in
theorem lifted (os : Os) (started : os.Started) (H : Type) (enc : TypeId × Value → H) :
    ReturnsInHanded {} Try.checked os 5 .any (Rows.fnExactAddEdgeSpec.pre6 enc Try.prog Try.f5 Rows.fnExactAddEdgeRow.domain false) (Rows.fnExactAddEdgeSpec.post enc Try.prog Try.f5 false true false false) := by
  refine returnsInHanded_of_change (C := Try.checked) own started (by kernel_rfl) Try.func5
    (ChangeSpec.witness6 (enc := enc) (C := Try.checked) false ⟨#[], #[.agg #[.int .i64 0, .int .i64 0, .slice none 0 0], .agg #[.int .i64 0, .int .i64 0, .int .i64 0]], []⟩ 8 (by kernel_rfl) (by kernel_rfl) (by kernel_rfl) (by kernel_rfl)) ?_
  intro W base args ds gs before hval0 hW hcnd _
  have hval : ∀ (j : Nat) t v, Try.f5.params[j]? = some t → args[j]? = some v → Value.okWide Try.prog W .any base t v := hval0
  have hW' := hW
  obtain ⟨p, q, hA0, hV, rfl, hfz, hnd⟩ := hW
  have hA : DataW.TrodAll enc Try.prog W 0 (fun _ => true) true Try.f5.params.toList args.toList ds p := hA0
  rw [Try.params5] at hA hval
  obtain ⟨v0, vs0, d0, ds0, p0, q0, hargs, rfl, rfl, h0, r0⟩ := trodAll_cons hA
  obtain ⟨v1, vs1, d1, ds1, p1, q1, rfl, rfl, rfl, h1, r1⟩ := trodAll_cons r0
  obtain ⟨rfl, rfl, rfl⟩ := trodAll_nil r1
  obtain rfl : args = #[v0, v1] := by cases args; simp_all
  obtain ⟨rfl, rfl⟩ := trodVars_none hV
  have k0 := h0
  have lt0 : ∀ x ∈ p0, x.block < W.heap.size := by obtain ⟨m, hm⟩ := k0; exact DataW.trod_lt m _ _ _ hm
  obtain ⟨c0a, c0b, c0c, y0a, y0b, y0c, m0, rfl, rfl, rfl, g0a, g0b, g0c⟩ := open_agg3 Try.underlying24 (by kernel_rfl) (by kernel_rfl) (hval 0 24 v0 rfl rfl) h0
  obtain ⟨a0a, e0a, j0a, w0a⟩ := DataW.trod_int Try.underlying3 g0a
  simp at e0a; subst e0a
  obtain ⟨a0b, e0b, j0b, w0b⟩ := DataW.trod_int Try.underlying3 g0b
  simp at e0b; subst e0b
  obtain ⟨a0c, len0, cap0, L0, e0c, w0c⟩ := open_edges Try.underlying22 Try.underlying39 (by kernel_rfl) (by kernel_rfl) Try.underlying3 Try.underlying3 Try.underlying3 g0c
  subst e0c
  have k1 := h1
  have lt1 : ∀ x ∈ p1, x.block < W.heap.size := by obtain ⟨m, hm⟩ := k1; exact DataW.trod_lt m _ _ _ hm
  obtain ⟨c1a, c1b, c1c, y1a, y1b, y1c, m1, rfl, rfl, rfl, g1a, g1b, g1c⟩ := open_agg3 Try.underlying39 (by kernel_rfl) (by kernel_rfl) (hval 1 39 v1 rfl rfl) h1
  obtain ⟨a1a, e1a, j1a, w1a⟩ := DataW.trod_int Try.underlying3 g1a
  simp at e1a; subst e1a
  obtain ⟨a1b, e1b, j1b, w1b⟩ := DataW.trod_int Try.underlying3 g1b
  simp at e1b; subst e1b
  obtain ⟨a1c, e1c, j1c, w1c⟩ := DataW.trod_int Try.underlying3 g1c
  simp at e1c; subst e1c
  clear hA0 hval0
  refine (walkFnExactAddEdge W a0a a0b a0c len0 cap0 L0 w0a w0b w0c a1a a1b a1c w1a w1b w1c).mono fun e W' ⟨he, bel⟩ => ?_
  subst he
  exact ⟨_, rfl, _, _, _, [], _, [], hW', trodAll_mk1 (shut_bool Try.underlying4 _), (trodAll_cons_mk (Below.trod laidOut (by kernel_rfl) (of_decide_eq_true (by kernel_rfl)) k0 bel lt0) (trodAll_cons_mk (Below.trod laidOut (by kernel_rfl) (of_decide_eq_true (by kernel_rfl)) k1 bel lt1) trodAll_mk0)), rfl, bel.frame _, fun h => by cases h⟩

theorem over : Rows.fnExactAddEdgeRow.holds Try.pinned (OpenSpec.ofChange Rows.fnExactAddEdgeSpec) :=
  OpenClaim.holds_of_wide 5 Try.f5 rfl rfl rfl rfl rfl rfl rfl ⟨rfl, rfl, rfl, rfl, rfl⟩ rfl rfl rfl rfl rfl (by kernel_rfl) Try.func5 facts
    (of_decide_eq_true (by kernel_rfl)) (by unfold Func.isWrapper; first | (rw [if_pos (by decide +kernel)]; kernel_rfl) | (rw [if_neg (by decide +kernel)]; exact ⟨rfl, rfl⟩))
    (fun os started H enc _ => lifted os started H enc)

/-- The statement. -/
theorem proved : Rows.FnExactAddEdgeSaid := over
#print axioms proved
end Go.Proofs.Ytpebiacdkfpnpaa.fnExactAddEdge
