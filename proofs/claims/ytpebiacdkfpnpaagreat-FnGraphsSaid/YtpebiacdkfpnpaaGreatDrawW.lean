/- Contracts of the references' draws of words. Conditions: codes of at most 2^20 bytes. -/
import Derived.Test.YtpebiacdkfpnpaaGreatDraw
namespace Go.Proofs.YtpebiacdkfpnpaaGreat
open Go.RowKit

/-- The bytes of a code that came in. -/
def CodeArg (w : World) (A : Option Addr) (len : Nat) : Prop := 0 < len → ∃ b off, A = some ⟨b, off, none⟩ ∧ b < w.heap.size ∧ ∀ j, j < len → ∃ x : Nat, x < 256 ∧ w.cell? ⟨b, off + j, none⟩ = some (.int .u8 (x : Int))
theorem CodeArg.keep {w w' : World} {A : Option Addr} {len : Nat} (h : CodeArg w A len) (hB : Below w.heap.size w w') : CodeArg w' A len := fun h0 => by
  obtain ⟨b, off, e, hb, hc⟩ := h h0
  exact ⟨b, off, e, Nat.lt_of_lt_of_le hb hB.size, fun j hj => by
    obtain ⟨x, hx, h1⟩ := hc j hj
    exact ⟨x, hx, (hB.cell (p := ⟨b, off + j, none⟩) hb).trans h1⟩⟩
/-- A new cursor is handed back. -/
def RetCur (w : World) (A : Option Addr) (len : Nat) (e : Ending) (w' : World) : Prop := ∃ k, e = .returned (.pointer (some ⟨k, 0, none⟩)) ∧ w.heap.size ≤ k ∧ Cur w' k A len ∧ Below w.heap.size w w'
set_option maxHeartbeats 1600000 in
theorem l1New_any (A : Option Addr) (len cap : Nat) (w : World) (h : CodeArg w A len) (hl : len ≤ 1048576) : Calls Tryz.prog 35 #[.slice A len cap] w (RetCur w A len) := by
  have H := Lib.hid h
  clear h
  go_enter Tryz.func35, Tryz.ntmps35
  go_wp2
  go_loop [3, 4] (fun hh i => ∃ (k : Nat) (x : Int), k ≤ len ∧ i = .int .i64 k ∧ hh = .int .i64 x) (fun _ i => len - (intOf i).toNat)
  case atStart => exact ⟨0, _, by omega, rfl, rfl⟩
  case round =>
    obtain ⟨k, x, hk, rfl, rfl⟩ := hrel
    by_cases hlt : k < len ∧ k < 4000
    · obtain ⟨h1, h2⟩ := hlt
      obtain ⟨b, off, rfl, hb, hcell⟩ := H.out (by omega)
      obtain ⟨y, hy, c1⟩ := hcell k h1
      have h1I : (k : Int) < (len : Int) := by omega
      have h2I : (k : Int) < 4000 := by omega
      clear hcell
      go_wp2
      go_round
      case rel => exact ⟨k + 1, _, by omega, by go_num, rfl⟩
      case measure => simp [intOf]; omega
    · have hfin : ∀ x : Int, RetCur w A len (.returned (.pointer (some ⟨w.heap.size, 0, none⟩))) (w.alloc (.cells #[.slice A len cap, .int .i64 0, .int .i64 x] 84 (0, 0))) := fun x => by
        refine ⟨w.heap.size, rfl, Nat.le_refl _, ⟨cap, 0, x, heap_alloc_new _ _, Nat.zero_le _, hl, fun h0 => ?_⟩, (Below.refl _ _).alloc (Nat.le_refl _) _⟩
        obtain ⟨b, off, e, hb, hc⟩ := H.out h0
        have hal : Below w.heap.size w (w.alloc (.cells #[.slice A len cap, .int .i64 0, .int .i64 x] 84 (0, 0))) := (Below.refl _ _).alloc (Nat.le_refl _) _
        exact ⟨b, off, e, by omega, by simp; omega, fun j hj => by
          obtain ⟨y, hy, h1⟩ := hc j hj
          exact ⟨y, hy, (hal.cell (p := ⟨b, off + j, none⟩) hb).trans h1⟩⟩
      by_cases h1 : k < len
      · have h1I : (k : Int) < (len : Int) := by omega
        have h2I : ¬ (k : Int) < 4000 := by omega
        go_wp2
        go_ret
        exact hfin _
      · have h1I : ¬ (k : Int) < (len : Int) := by omega
        go_wp2
        go_ret
        exact hfin _
theorem ints_lit (w : World) (L : List Int) (h : ∀ x ∈ L, I64 x) : Ints (w.alloc (.cells (intsV L).toArray 3 (0, 0))) (.slice (some ⟨w.heap.size, 0, none⟩) L.length L.length) L := by
  refine ⟨w.heap.size, 0, L.length, rfl, Nat.le_refl _, by simp, fun i hi => ?_, h⟩
  rw [Nat.zero_add, cell_of_row _ _ _ _ _ _ (heap_alloc_new w _)]
  simp [intsV, hi]
end Go.Proofs.YtpebiacdkfpnpaaGreat
