/- The walk of the law on CompareEdges. Conditions: none. -/
import Derived.Test.YtpdakognheolnaaNumB
import Derived.Deep.RegionHeld3
namespace Go.Proofs.Ytpdakognheolnaa
open Go.RowKit
theorem bcell {B : Nat} {W w1 : World} (hb : Below B W w1) : (∀ b o, b < B → w1.cell? ⟨b, o, none⟩ = W.cell? ⟨b, o, none⟩) ∧ (∀ b o, b < B → w1.frozen? ⟨b, o, none⟩ = W.frozen? ⟨b, o, none⟩) :=
  ⟨fun b o h => hb.cell (p := ⟨b, o, none⟩) h, fun b o h => hb.frozen (p := ⟨b, o, none⟩) h⟩
/-- Two blocks of three cells keep what they hold over a call that makes memory alone. -/
theorem keep6 {B : Nat} {w0 W w1 : World} {u0 u1 u2 v0 v1 v2 : Value}
    (h : W.cell? ⟨B, 0, none⟩ = some u0 ∧ W.cell? ⟨B, 1, none⟩ = some u1 ∧ W.cell? ⟨B, 2, none⟩ = some u2 ∧ W.cell? ⟨B + 1, 0, none⟩ = some v0 ∧ W.cell? ⟨B + 1, 1, none⟩ = some v1 ∧ W.cell? ⟨B + 1, 2, none⟩ = some v2 ∧ Below B w0 W)
    (hb : Below W.heap.size W w1) :
    w1.cell? ⟨B, 0, none⟩ = some u0 ∧ w1.cell? ⟨B, 1, none⟩ = some u1 ∧ w1.cell? ⟨B, 2, none⟩ = some u2 ∧ w1.cell? ⟨B + 1, 0, none⟩ = some v0 ∧ w1.cell? ⟨B + 1, 1, none⟩ = some v1 ∧ w1.cell? ⟨B + 1, 2, none⟩ = some v2 ∧ Below B w0 w1 := by
  obtain ⟨h0, h1, h2, h3, h4, h5, h6⟩ := h
  have l0 : B < W.heap.size := World.block_lt_of_cell? W _ h0
  have l1 : B + 1 < W.heap.size := World.block_lt_of_cell? W _ h3
  have hc := (bcell hb).1
  exact ⟨(hc B 0 l0).trans h0, (hc B 1 l0).trans h1, (hc B 2 l0).trans h2, (hc (B + 1) 0 l1).trans h3, (hc (B + 1) 1 l1).trans h4, (hc (B + 1) 2 l1).trans h5, h6.trans (hb.mono (by omega))⟩
theorem walkFnExactCompareEdges (a1 a2 a3 : Int) (_ : (Lit.int .i64 a1).wf = true) (_ : (Lit.int .i64 a2).wf = true) (_ : (Lit.int .i64 a3).wf = true) (b1 b2 b3 : Int) (_ : (Lit.int .i64 b1).wf = true) (_ : (Lit.int .i64 b2).wf = true) (_ : (Lit.int .i64 b3).wf = true) (w : World) :
    Calls Try.prog 8 #[edgeV a1 a2 a3, edgeV b1 b2 b3] w fun e w' => e = .returned (.bool true) ∧ Below w.heap.size w w' := by
  go_enter Try.func8, Try.ntmps8
  go_wp2_with fail
  have b0 : Below w.heap.size w ((w.alloc (Obj.cells #[Value.int IntKind.i64 a1, Value.int IntKind.i64 a2, Value.int IntKind.i64 a3] 33)).alloc (Obj.cells #[Value.int IntKind.i64 b1, Value.int IntKind.i64 b2, Value.int IntKind.i64 b3] 33)) := ((Below.refl _ _).alloc (Nat.le_refl _) _).alloc (by simp) _
  go_region_held3 (fun W => W.cell? ⟨w.heap.size, 0, none⟩ = some (.int .i64 a1) ∧ W.cell? ⟨w.heap.size, 1, none⟩ = some (.int .i64 a2) ∧ W.cell? ⟨w.heap.size, 2, none⟩ = some (.int .i64 a3) ∧ W.cell? ⟨w.heap.size + 1, 0, none⟩ = some (.int .i64 b1) ∧ W.cell? ⟨w.heap.size + 1, 1, none⟩ = some (.int .i64 b2) ∧ W.cell? ⟨w.heap.size + 1, 2, none⟩ = some (.int .i64 b3) ∧ Below w.heap.size w W)
    (first | exact keep6 (by assumption) (by assumption) | (refine ⟨?_, ?_, ?_, ?_, ?_, ?_, b0.drew⟩ <;> simp [go_sem, World.cell?_alloc_past]) | (simp [go_sem, World.cell?_alloc_past]; exact b0.drew))
    (first | (go_at_call 24; refine (toEdge_any _ _ _ _).mono ?_; rintro e w1 ⟨rfl, hb1⟩) | (go_at_call 23; refine (compareEdgesS_any _ _ _ _ _ _ _).mono ?_; rintro e w1 ⟨rfl, hb1⟩))
  rename_i hH
  clear b0
  go_wp2_with fail
  go_region_held3 (fun W => W.cell? ⟨w.heap.size, 0, none⟩ = some (.int .i64 a1) ∧ W.cell? ⟨w.heap.size, 1, none⟩ = some (.int .i64 a2) ∧ W.cell? ⟨w.heap.size, 2, none⟩ = some (.int .i64 a3) ∧ W.cell? ⟨w.heap.size + 1, 0, none⟩ = some (.int .i64 b1) ∧ W.cell? ⟨w.heap.size + 1, 1, none⟩ = some (.int .i64 b2) ∧ W.cell? ⟨w.heap.size + 1, 2, none⟩ = some (.int .i64 b3) ∧ Below w.heap.size w W)
    (first | exact keep6 (by assumption) (by assumption) | exact hH | exact ⟨hH.1, hH.2.1, hH.2.2.1, hH.2.2.2.1, hH.2.2.2.2.1, hH.2.2.2.2.2.1, hH.2.2.2.2.2.2.drew⟩)
    (first | (go_at_call 24; refine (toEdge_any _ _ _ _).mono ?_; rintro e w1 ⟨rfl, hb1⟩) | (go_at_call 25; refine (compareEdges_any _ _ _ _ _ _ _).mono ?_; rintro e w1 ⟨rfl, hb1⟩))
  rename_i hH2
  have hb : Below w.heap.size w _ := hH2.2.2.2.2.2.2
  clear hH hH2
  go_wp2
  go_ret
  exact ⟨rfl, hb⟩
end Go.Proofs.Ytpdakognheolnaa
