/- Contracts of has, accepts, l4Edge, IsGraph. Conditions: at most 2^20 edges. -/
import Derived.Test.YtpebiacdkfpnpaaGreatBoxes
import Derived.Test.YtpebiacdkfpnpaaGreatWithin
namespace Go.Proofs.YtpebiacdkfpnpaaGreat
open Go.RowKit

def inV (n v : Int) : Bool := decide (0 ≤ v ∧ v ≤ wrap64 (n - 1))
def okE (r n : Int) (e : Ed) : Bool := inV n e.1 && (inV n e.2.2 && decide (1 ≤ e.2.1 ∧ e.2.1 ≤ r))
theorem has_any (r n x : Int) (A : Option Addr) (len cap : Nat) (w : World) :
    Calls Tryz.prog 68 #[graphV r n (.slice A len cap), .int .i64 x] w (RetV w (.bool (inV n x))) := by
  obtain ⟨m, hm⟩ : ∃ m, wrap64 (n - 1) = m := ⟨_, rfl⟩
  have hv : inV n x = decide (0 ≤ x ∧ x ≤ m) := by rw [inV, hm]
  obtain ⟨y, hy⟩ : ∃ y, y = inV n x := ⟨_, rfl⟩
  have hq := fun W => within_any x 0 m W
  rw [← hv, ← hy] at hq
  rw [← hy]
  have HQ := Lib.hid hq
  clear hq hv hy
  go_enter Tryz.func68, Tryz.ntmps68
  go_wp2_with fail
  refine (HQ.out _).mono ?_
  rintro e w' ⟨rfl, rfl⟩
  go_wp2
  go_ret
  exact ⟨rfl, (Below.refl _ _).alloc (Nat.le_refl _) _⟩
set_option maxHeartbeats 800000 in
theorem accepts_any (r n : Int) (e : Ed) (A : Option Addr) (len cap : Nat) (w : World) :
    Calls Tryz.prog 39 #[graphV r n (.slice A len cap), edV e] w (RetV w (.bool (okE r n e))) := by
  obtain ⟨f, l, t⟩ := e
  obtain ⟨y1, hy1⟩ : ∃ y, y = inV n f := ⟨_, rfl⟩
  obtain ⟨y2, hy2⟩ : ∃ y, y = inV n t := ⟨_, rfl⟩
  obtain ⟨y3, hy3⟩ : ∃ y, y = decide (1 ≤ l ∧ l ≤ r) := ⟨_, rfl⟩
  have hres : okE r n (f, l, t) = (y1 && (y2 && y3)) := by rw [okE, hy1, hy2, hy3]
  have h1 := fun W => has_any r n f A len cap W
  have h2 := fun W => has_any r n t A len cap W
  have h3 := fun W => within_any l 1 r W
  rw [← hy1] at h1
  rw [← hy2] at h2
  rw [← hy3] at h3
  rw [hres]
  have H1 := Lib.hid h1
  have H2 := Lib.hid h2
  have H3 := Lib.hid h3
  obtain ⟨W, hW⟩ : ∃ W, W = ((w.alloc (.cells #[.int .i64 r, .int .i64 n, .slice A len cap] 26 (0, 0))).alloc (.cells #[.int .i64 f, .int .i64 l, .int .i64 t] 28 (0, 0))) := ⟨_, rfl⟩
  have hB : Below w.heap.size w W := by rw [hW]; exact ((Below.refl _ _).alloc (Nat.le_refl _) _).alloc (by simp) _
  have bx1 : Box W w.heap.size (.cells #[.int .i64 r, .int .i64 n, .slice A len cap] 26 (0, 0)) := by rw [hW]; exact Box.first _ _ _
  have bx2 : Box W (w.heap.size + 1) (.cells #[.int .i64 f, .int .i64 l, .int .i64 t] 28 (0, 0)) := by rw [hW]; exact Box.two _ _ _
  have HW := Lib.hid hW
  have BX1 := Lib.hid bx1
  have BX2 := Lib.hid bx2
  clear h1 h2 h3 hres hy1 hy2 hy3 hW bx1 bx2
  go_enter Tryz.func39, Tryz.ntmps39
  go_wp2_with fail
  rw [← HW.out]
  refine (H1.out _).mono ?_
  rintro e w1 ⟨rfl, hb1⟩
  obtain ⟨q1, q2, q3⟩ := (BX1.out.keep hb1).cells
  obtain ⟨p1, p2, p3⟩ := (BX2.out.keep hb1).cells
  cases y1 with
  | false =>
    go_wp2
    go_ret
    exact ⟨rfl, hB.trans (hb1.mono hB.size)⟩
  | true =>
    go_wp2_with fail
    refine (H2.out _).mono ?_
    rintro e w2 ⟨rfl, hb2⟩
    have hb3 := hb1.trans (hb2.mono hb1.size)
    clear q1 q2 q3 p1 p2 p3
    obtain ⟨q1, q2, q3⟩ := (BX1.out.keep hb3).cells
    obtain ⟨p1, p2, p3⟩ := (BX2.out.keep hb3).cells
    cases y2 with
    | false =>
      go_wp2
      go_ret
      exact ⟨rfl, hB.trans (hb3.mono hB.size)⟩
    | true =>
      go_wp2_with fail
      refine (H3.out _).mono ?_
      rintro e w3 ⟨rfl, rfl⟩
      cases y3 with
      | false =>
        go_wp2
        go_ret
        exact ⟨rfl, hB.trans (hb3.mono hB.size)⟩
      | true =>
        go_wp2
        go_ret
        exact ⟨rfl, hB.trans (hb3.mono hB.size)⟩
set_option maxHeartbeats 800000 in
theorem l4Edge_any (r n : Int) (e : Ed) (A : Option Addr) (len cap : Nat) (w : World) :
    Calls Tryz.prog 43 #[graphV r n (.slice A len cap), edV e] w (RetV w (.bool (okE r n e))) := by
  obtain ⟨f, l, t⟩ := e
  obtain ⟨m, hm⟩ : ∃ m, wrap64 (n - 1) = m := ⟨_, rfl⟩
  obtain ⟨y1, hy1⟩ : ∃ y, y = decide (0 ≤ f ∧ f ≤ m) := ⟨_, rfl⟩
  obtain ⟨y2, hy2⟩ : ∃ y, y = decide (0 ≤ t ∧ t ≤ m) := ⟨_, rfl⟩
  obtain ⟨y3, hy3⟩ : ∃ y, y = decide (1 ≤ l ∧ l ≤ r) := ⟨_, rfl⟩
  have hres : okE r n (f, l, t) = (y1 && (y2 && y3)) := by rw [okE, hy1, hy2, hy3, inV, inV, hm]
  have h1 := fun W => l1In_any f 0 m W
  have h2 := fun W => l1In_any t 0 m W
  have h3 := fun W => l1In_any l 1 r W
  rw [← hy1] at h1
  rw [← hy2] at h2
  rw [← hy3] at h3
  rw [hres]
  have H1 := Lib.hid h1
  have H2 := Lib.hid h2
  have H3 := Lib.hid h3
  have hB : Below w.heap.size w ((w.alloc (.cells #[.int .i64 r, .int .i64 n, .slice A len cap] 26 (0, 0))).alloc (.cells #[.int .i64 f, .int .i64 l, .int .i64 t] 28 (0, 0))) := ((Below.refl _ _).alloc (Nat.le_refl _) _).alloc (by simp) _
  clear h1 h2 h3 hres hy1 hy2 hy3
  go_enter Tryz.func43, Tryz.ntmps43
  go_wp2_with fail
  refine (H1.out _).mono ?_
  rintro e w1 ⟨rfl, rfl⟩
  cases y1 with
  | false =>
    go_wp2
    go_ret
    exact ⟨rfl, hB⟩
  | true =>
    go_wp2_with fail
    refine (H2.out _).mono ?_
    rintro e w2 ⟨rfl, rfl⟩
    cases y2 with
    | false =>
      go_wp2
      go_ret
      exact ⟨rfl, hB⟩
    | true =>
      go_wp2_with fail
      refine (H3.out _).mono ?_
      rintro e w3 ⟨rfl, rfl⟩
      cases y3 with
      | false =>
        go_wp2
        go_ret
        exact ⟨rfl, hB⟩
      | true =>
        go_wp2
        go_ret
        exact ⟨rfl, hB⟩
end Go.Proofs.YtpebiacdkfpnpaaGreat
