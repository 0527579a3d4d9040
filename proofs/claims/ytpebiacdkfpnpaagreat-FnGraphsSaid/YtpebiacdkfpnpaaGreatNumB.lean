/- Contracts of compareInts, CompareEdges and toEdge. Conditions: none. -/
import Derived.Test.YtpebiacdkfpnpaaGreatRows
import Derived.Test.YtpebiacdkfpnpaaGreatBase
import Derived.LoopN
namespace Go.Proofs.YtpebiacdkfpnpaaGreat
open Go.RowKit

def cmpI (a b : Int) : Int := if a < b then -1 else if b < a then 1 else 0
theorem cmpI_lt {a b : Int} (h : a < b) : cmpI a b = -1 := by simp [cmpI, h]
theorem cmpI_gt {a b : Int} (h : b < a) : cmpI a b = 1 := by simp [cmpI, h]; omega
theorem cmpI_eq (a : Int) : cmpI a a = 0 := by simp [cmpI]
theorem compareInts_any (a b : Int) (w : World) : Calls Tryz.prog 64 #[.int .i64 a, .int .i64 b] w fun e w' => e = .returned (.int .i64 (cmpI a b)) ∧ w = w' := by
  by_cases h1 : a < b
  · rw [cmpI_lt h1]
    go_enter Tryz.func64, Tryz.ntmps64
    go_wp2
    go_ret
    exact ⟨rfl, rfl⟩
  · by_cases h2 : b < a
    · rw [cmpI_gt h2]
      go_enter Tryz.func64, Tryz.ntmps64
      go_wp2
      go_ret
      exact ⟨rfl, rfl⟩
    · obtain rfl : a = b := by omega
      rw [cmpI_eq]
      go_enter Tryz.func64, Tryz.ntmps64
      go_wp2
      go_ret
      exact ⟨rfl, rfl⟩
/-- The order of edges. -/
def cmpE (a1 a2 a3 b1 b2 b3 : Int) : Int := if a1 = b1 then (if a2 = b2 then cmpI a3 b3 else cmpI a2 b2) else cmpI a1 b1
theorem cmpI_ne {a b : Int} (h : a ≠ b) : (cmpI a b != 0) = true := by
  unfold cmpI; split
  · rfl
  · split
    · rfl
    · omega
theorem cmpI_same {a b : Int} (h : a = b) : (cmpI a b != 0) = false := by subst h; rw [cmpI_eq]; rfl
abbrev edgeV (a b c : Int) : Value := .agg #[.int .i64 a, .int .i64 b, .int .i64 c]
theorem compareEdges_any (a1 a2 a3 b1 b2 b3 : Int) (w : World) : Calls Tryz.prog 32 #[edgeV a1 a2 a3, edgeV b1 b2 b3] w fun e w' => e = .returned (.int .i64 (cmpE a1 a2 a3 b1 b2 b3)) ∧ Below w.heap.size w w' := by
  by_cases h1 : a1 = b1
  · have n1 := cmpI_same h1
    by_cases h2 : a2 = b2
    · have n2 := cmpI_same h2
      have e : cmpE a1 a2 a3 b1 b2 b3 = cmpI a3 b3 := by simp [cmpE, h1, h2]
      rw [e]
      clear e h1 h2
      go_enter Tryz.func32, Tryz.ntmps32
      go_wp2_with (go_at_call 64; refine (compareInts_any _ _ _).mono ?_; rintro e w' ⟨rfl, rfl⟩)
      go_ret
      exact ⟨rfl, ((Below.refl _ _).alloc (Nat.le_refl _) _).alloc (by simp) _⟩
    · have n2 := cmpI_ne h2
      have e : cmpE a1 a2 a3 b1 b2 b3 = cmpI a2 b2 := by simp [cmpE, h1, h2]
      rw [e]
      clear e h1 h2
      go_enter Tryz.func32, Tryz.ntmps32
      go_wp2_with (go_at_call 64; refine (compareInts_any _ _ _).mono ?_; rintro e w' ⟨rfl, rfl⟩)
      go_ret
      exact ⟨rfl, ((Below.refl _ _).alloc (Nat.le_refl _) _).alloc (by simp) _⟩
  · have n1 := cmpI_ne h1
    have e : cmpE a1 a2 a3 b1 b2 b3 = cmpI a1 b1 := by simp [cmpE, h1]
    rw [e]
    clear e h1
    go_enter Tryz.func32, Tryz.ntmps32
    go_wp2_with (go_at_call 64; refine (compareInts_any _ _ _).mono ?_; rintro e w' ⟨rfl, rfl⟩)
    go_ret
    exact ⟨rfl, ((Below.refl _ _).alloc (Nat.le_refl _) _).alloc (by simp) _⟩
/-- The blocks that the reference's CompareEdges makes. -/
theorem below4 (w : World) (o1 o2 o3 o4 : Obj) (n : Nat) : Below w.heap.size w (((((w.alloc o1).alloc o2).alloc o3).alloc o4).drewN n) := by
  have h := ((((Below.refl w.heap.size w).alloc (Nat.le_refl _) o1).alloc (by simp) o2).alloc (by simp; omega) o3).alloc (by simp; omega) o4
  exact h.trans ⟨rfl, rfl, rfl, Nat.le_refl _, fun _ _ => rfl⟩
set_option maxHeartbeats 3200000 in
theorem compareEdgesS_any (a1 a2 a3 b1 b2 b3 : Int) (w : World) : Calls Tryz.prog 33 #[edgeV a1 a2 a3, edgeV b1 b2 b3] w fun e w' => e = .returned (.int .i64 (cmpE a1 a2 a3 b1 b2 b3)) ∧ Below w.heap.size w w' := by
  by_cases l1 : a1 < b1
  · have e : cmpE a1 a2 a3 b1 b2 b3 = -1 := by rw [← cmpI_lt l1]; unfold cmpE; simp; try omega
    rw [e]
    clear e
    go_enter Tryz.func33, Tryz.ntmps33
    go_wp2
    refine wp_loop_rounds 4 ?_
    rw [rounds_succ]
    go_wp2
    go_quiet (fail)
    go_wp2
    go_ret
    exact ⟨rfl, by first | exact below4 _ _ _ _ _ _ | (simp only [World.drewN_drewN]; exact below4 _ _ _ _ _ _)⟩
  by_cases g1 : b1 < a1
  · have e : cmpE a1 a2 a3 b1 b2 b3 = 1 := by rw [← cmpI_gt g1]; unfold cmpE; simp; try omega
    rw [e]
    clear e
    go_enter Tryz.func33, Tryz.ntmps33
    go_wp2
    refine wp_loop_rounds 4 ?_
    rw [rounds_succ]
    go_wp2
    go_quiet (fail)
    go_wp2
    go_quiet (fail)
    go_wp2
    go_ret
    exact ⟨rfl, by first | exact below4 _ _ _ _ _ _ | (simp only [World.drewN_drewN]; exact below4 _ _ _ _ _ _)⟩
  obtain rfl : a1 = b1 := by omega
  clear l1 g1
  by_cases l2 : a2 < b2
  · have e : cmpE a1 a2 a3 a1 b2 b3 = -1 := by rw [← cmpI_lt l2]; unfold cmpE; simp; try omega
    rw [e]
    clear e
    go_enter Tryz.func33, Tryz.ntmps33
    go_wp2
    refine wp_loop_rounds 4 ?_
    rw [rounds_succ]
    go_wp2
    go_quiet (fail)
    go_wp2
    go_quiet (fail)
    go_wp2
    rw [rounds_succ]
    go_wp2
    go_quiet (fail)
    go_wp2
    go_ret
    exact ⟨rfl, by first | exact below4 _ _ _ _ _ _ | (simp only [World.drewN_drewN]; exact below4 _ _ _ _ _ _)⟩
  by_cases g2 : b2 < a2
  · have e : cmpE a1 a2 a3 a1 b2 b3 = 1 := by rw [← cmpI_gt g2]; unfold cmpE; simp; try omega
    rw [e]
    clear e
    go_enter Tryz.func33, Tryz.ntmps33
    go_wp2
    refine wp_loop_rounds 4 ?_
    rw [rounds_succ]
    go_wp2
    go_quiet (fail)
    go_wp2
    go_quiet (fail)
    go_wp2
    rw [rounds_succ]
    go_wp2
    go_quiet (fail)
    go_wp2
    go_quiet (fail)
    go_wp2
    go_ret
    exact ⟨rfl, by first | exact below4 _ _ _ _ _ _ | (simp only [World.drewN_drewN]; exact below4 _ _ _ _ _ _)⟩
  obtain rfl : a2 = b2 := by omega
  clear l2 g2
  by_cases l3 : a3 < b3
  · have e : cmpE a1 a2 a3 a1 a2 b3 = -1 := by rw [← cmpI_lt l3]; unfold cmpE; simp; try omega
    rw [e]
    clear e
    go_enter Tryz.func33, Tryz.ntmps33
    go_wp2
    refine wp_loop_rounds 4 ?_
    rw [rounds_succ]
    go_wp2
    go_quiet (fail)
    go_wp2
    go_quiet (fail)
    go_wp2
    rw [rounds_succ]
    go_wp2
    go_quiet (fail)
    go_wp2
    go_quiet (fail)
    go_wp2
    rw [rounds_succ]
    go_wp2
    go_quiet (fail)
    go_wp2
    go_ret
    exact ⟨rfl, by first | exact below4 _ _ _ _ _ _ | (simp only [World.drewN_drewN]; exact below4 _ _ _ _ _ _)⟩
  by_cases g3 : b3 < a3
  · have e : cmpE a1 a2 a3 a1 a2 b3 = 1 := by rw [← cmpI_gt g3]; unfold cmpE; simp; try omega
    rw [e]
    clear e
    go_enter Tryz.func33, Tryz.ntmps33
    go_wp2
    refine wp_loop_rounds 4 ?_
    rw [rounds_succ]
    go_wp2
    go_quiet (fail)
    go_wp2
    go_quiet (fail)
    go_wp2
    rw [rounds_succ]
    go_wp2
    go_quiet (fail)
    go_wp2
    go_quiet (fail)
    go_wp2
    rw [rounds_succ]
    go_wp2
    go_quiet (fail)
    go_wp2
    go_quiet (fail)
    go_wp2
    go_ret
    exact ⟨rfl, by first | exact below4 _ _ _ _ _ _ | (simp only [World.drewN_drewN]; exact below4 _ _ _ _ _ _)⟩
  obtain rfl : a3 = b3 := by omega
  clear l3 g3
  have e : cmpE a1 a2 a3 a1 a2 a3 = 0 := by simp [cmpE, cmpI]
  rw [e]
  clear e
  go_enter Tryz.func33, Tryz.ntmps33
  go_wp2
  refine wp_loop_rounds 4 ?_
  rw [rounds_succ]
  go_wp2
  go_quiet (fail)
  go_wp2
  go_quiet (fail)
  go_wp2
  rw [rounds_succ]
  go_wp2
  go_quiet (fail)
  go_wp2
  go_quiet (fail)
  go_wp2
  rw [rounds_succ]
  go_wp2
  go_quiet (fail)
  go_wp2
  go_quiet (fail)
  go_wp2
  rw [rounds_succ]
  go_wp2
  go_ret
  exact ⟨rfl, by first | exact below4 _ _ _ _ _ _ | (simp only [World.drewN_drewN]; exact below4 _ _ _ _ _ _)⟩
end Go.Proofs.YtpebiacdkfpnpaaGreat
