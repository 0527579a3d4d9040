/- Contracts of the references' draws: the cursor, bytes, numbers. Conditions: codes of at most 2^20 bytes. -/
import Derived.Test.YtpebiacdkfpnpaaGreatArgs
import Derived.Deep.RegionHeld3
namespace Go.Proofs.YtpebiacdkfpnpaaGreat
open Go.RowKit

/-- The bytes of a code, not in the block k. -/
def Code8 (w : World) (A : Option Addr) (len k : Nat) : Prop := 0 < len → ∃ b off, A = some ⟨b, off, none⟩ ∧ b ≠ k ∧ b < w.heap.size ∧ ∀ j, j < len → ∃ x : Nat, x < 256 ∧ w.cell? ⟨b, off + j, none⟩ = some (.int .u8 (x : Int))
/-- A cursor over the code A lies in the block k. -/
def Cur (w : World) (k : Nat) (A : Option Addr) (len : Nat) : Prop := ∃ cap, ∃ (i : Nat) (h : Int), w.heap[k]? = some (.cells #[.slice A len cap, .int .i64 (i : Int), .int .i64 h] 84 (0, 0)) ∧ i ≤ len ∧ len ≤ 1048576 ∧ Code8 w A len k
theorem Cur.lt {w : World} {k : Nat} {A : Option Addr} {len : Nat} (h : Cur w k A len) : k < w.heap.size := by
  obtain ⟨_, _, _, h, _⟩ := h; exact (Array.getElem?_eq_some_iff.1 h).1
theorem Code8.grown {w w' : World} {A : Option Addr} {len k : Nat} (h : Code8 w A len k) (hg : w.grownBy w' (some k)) : Code8 w' A len k := fun h0 => by
  obtain ⟨b, off, e, hne, hb, hc⟩ := h h0
  refine ⟨b, off, e, hne, Nat.lt_of_lt_of_le hb hg.size, fun j hj => ?_⟩
  obtain ⟨x, hx, h1⟩ := hc j hj
  exact ⟨x, hx, (World.cell?_of_block (a := ⟨b, off + j, none⟩) (hg.block b hb (by simpa using hne))).trans h1⟩
theorem Cur.keep {w w' : World} {k : Nat} {A : Option Addr} {len : Nat} (h : Cur w k A len) (hB : Below w.heap.size w w') : Cur w' k A len := by
  have hk := h.lt
  obtain ⟨cap, i, hh, h1, h2, h3, h4⟩ := h
  refine ⟨cap, i, hh, (hB.block k hk).trans h1, h2, h3, fun h0 => ?_⟩
  obtain ⟨b, off, e, hne, hb, hc⟩ := h4 h0
  exact ⟨b, off, e, hne, Nat.lt_of_lt_of_le hb hB.size, fun j hj => by
    obtain ⟨x, hx, h1⟩ := hc j hj
    exact ⟨x, hx, (hB.cell (p := ⟨b, off + j, none⟩) hb).trans h1⟩⟩
/-- A number below n is handed back; nothing is turned but the cursor. -/
def RetN (w : World) (k : Nat) (A : Option Addr) (len n : Nat) (e : Ending) (w' : World) : Prop := ∃ x : Nat, e = .returned (.int .i64 (x : Int)) ∧ x < n ∧ Cur w' k A len ∧ w.grownBy w' (some k)
theorem grown_drew {w w' : World} {row : Option Nat} (n : Nat) (h : w.grownBy w' row) : w.grownBy (w'.drewN n) row := ⟨h.os, h.tape, h.output, h.size, fun k hk hn => h.block k hk hn⟩
theorem heap_set {w : World} {k i : Nat} {cs : Array Value} {t : TypeId} {fr : Nat × Nat} {v : Value} (h : w.heap[k]? = some (.cells cs t fr)) : (w.setCell ⟨k, i, none⟩ v).heap[k]? = some (.cells (cs.setIfInBounds i v) t fr) := by
  simp [World.setCell, Array.getElem?_modify, h]
theorem grown_set (w : World) (k i : Nat) (v : Value) : w.grownBy (w.setCell ⟨k, i, none⟩ v) (some k) := by
  refine ⟨rfl, rfl, rfl, by simp, fun j hj hne => Below.heap_setCell _ _ _ _ (fun e => hne (by simp at e; rw [e]))⟩
theorem and_255 (n : Int) : ∃ x : Nat, bits .and .i64 n 255 = (x : Int) ∧ x < 256 := by
  rw [i64_and255]
  exact ⟨(n % 256).toNat, by omega, by omega⟩
set_option maxHeartbeats 1600000 in
theorem l1Byte_any (k : Nat) (A : Option Addr) (len : Nat) (w : World) (h : Cur w k A len) : Calls Tryz.prog 72 #[.pointer (some ⟨k, 0, none⟩)] w (RetN w k A len 256) := by
  have hk := h.lt
  obtain ⟨cap, i, hh, hb, hi, hl, hc⟩ := h
  have c0 := cell_of_row w k 0 _ _ _ hb
  have c1 := cell_of_row w k 1 _ _ _ hb
  have c2 := cell_of_row w k 2 _ _ _ hb
  have f1 := frozen_of_row w k 1 _ _ hb
  have f2 := frozen_of_row w k 2 _ _ hb
  simp at c0 c1 c2
  by_cases hlt : i < len
  · obtain ⟨b, off, rfl, hne, hbl, hcell⟩ := hc (by omega)
    obtain ⟨x, hx, c3⟩ := hcell i hlt
    have hneI : ¬ b = k := hne
    have hneI2 : ¬ k = b := Ne.symm hne
    have hltI : (i : Int) < (len : Int) := by omega
    go_enter Tryz.func72, Tryz.ntmps72
    go_wp2
    go_quiet (fail)
    go_wp2
    go_quiet (fail)
    go_wp2
    go_quiet (fail)
    go_wp2
    go_ret
    obtain ⟨r, hr, hr2⟩ := and_255 (wrap64 (bits BinOp.and IntKind.i64 (bits BinOp.xor IntKind.i64 (wrap64 (wrap64 (hh * 6364136223846793005) + 1442695040888963407) / 8589934592) (wrap64 (wrap64 (hh * 6364136223846793005) + 1442695040888963407) / 35184372088832)) 255 + (x : Int)))
    have g2 : ∀ n, w.grownBy (((w.setCell ⟨k, 2, none⟩ (.int .i64 (wrap64 (wrap64 (hh * 6364136223846793005) + 1442695040888963407)))).drewN n).setCell ⟨k, 1, none⟩ (.int .i64 ((i : Int) + 1))) (some k) := fun n => (grown_drew n (grown_set w k 2 (.int .i64 (wrap64 (wrap64 (hh * 6364136223846793005) + 1442695040888963407))))).trans (grown_set _ k 1 _)
    have hB1 := heap_set (i := 2) (v := .int .i64 (wrap64 (wrap64 (hh * 6364136223846793005) + 1442695040888963407))) hb
    refine ⟨r, by rw [hr]; rfl, hr2, ⟨cap, i + 1, wrap64 (wrap64 (hh * 6364136223846793005) + 1442695040888963407), ?_, hlt, hl, hc.grown (g2 _)⟩, g2 _⟩
    rw [show ((i + 1 : Nat) : Int) = (i : Int) + 1 by omega]
    exact heap_set (w := (w.setCell ⟨k, 2, none⟩ (.int .i64 (wrap64 (wrap64 (hh * 6364136223846793005) + 1442695040888963407)))).drewN _) (i := 1) (v := .int .i64 ((i : Int) + 1)) hB1
  · have hltI : ¬ (i : Int) < (len : Int) := by omega
    go_enter Tryz.func72, Tryz.ntmps72
    go_wp2
    go_quiet (fail)
    go_wp2
    go_quiet (fail)
    go_wp2
    go_ret
    obtain ⟨r, hr, hr2⟩ := and_255 (bits BinOp.xor IntKind.i64 (wrap64 (wrap64 (hh * 6364136223846793005) + 1442695040888963407) / 8589934592) (wrap64 (wrap64 (hh * 6364136223846793005) + 1442695040888963407) / 35184372088832))
    have g1 : ∀ n, w.grownBy ((w.setCell ⟨k, 2, none⟩ (.int .i64 (wrap64 (wrap64 (hh * 6364136223846793005) + 1442695040888963407)))).drewN n) (some k) := fun n => grown_drew n (grown_set w k 2 (.int .i64 (wrap64 (wrap64 (hh * 6364136223846793005) + 1442695040888963407))))
    have hB1 := heap_set (i := 2) (v := .int .i64 (wrap64 (wrap64 (hh * 6364136223846793005) + 1442695040888963407))) hb
    refine ⟨r, by rw [hr]; rfl, hr2, ⟨cap, i, wrap64 (wrap64 (hh * 6364136223846793005) + 1442695040888963407), hB1, hi, hl, hc.grown (grown_drew _ (g1 _))⟩, grown_drew _ (g1 _)⟩
/-- The code lies below n. -/
def CodeLt (A : Option Addr) (len n : Nat) : Prop := 0 < len → ∃ b off, A = some ⟨b, off, none⟩ ∧ b < n
theorem Cur.code {w : World} {k : Nat} {A : Option Addr} {len : Nat} (h : Cur w k A len) : CodeLt A len w.heap.size := fun h0 => by
  obtain ⟨_, _, _, _, _, _, h4⟩ := h
  obtain ⟨b, off, e, _, hb, _⟩ := h4 h0
  exact ⟨b, off, e, hb⟩
theorem Cur.push {w w' : World} {k j n : Nat} {A : Option Addr} {len : Nat} (h : Cur w k A len) (hg : w.grownBy w' (some j)) (hk : k < n) (hA : CodeLt A len n) (hj : n ≤ j) : Cur w' k A len := by
  have hkl := h.lt
  obtain ⟨cap, i, hh, h1, h2, h3, h4⟩ := h
  refine ⟨cap, i, hh, (hg.block k hkl (by simp; omega)).trans h1, h2, h3, fun h0 => ?_⟩
  obtain ⟨b, off, e, hn, hb, hc⟩ := h4 h0
  obtain ⟨b', off', e', hb'⟩ := hA h0
  rw [e] at e'
  simp only [Option.some.injEq, Addr.mk.injEq] at e'
  obtain ⟨rfl, rfl, _⟩ := e'
  refine ⟨b, off, e, hn, Nat.lt_of_lt_of_le hb hg.size, fun m hm => ?_⟩
  obtain ⟨x, hx, h9⟩ := hc m hm
  exact ⟨x, hx, (World.cell?_of_block (a := ⟨b, off + m, none⟩) (hg.block b hb (by simp; omega))).trans h9⟩
/-- What a write to a row of the call's own leaves of the rest. -/
theorem grown_push {w w1 w2 : World} {k g : Nat} (h : w.grownBy w1 (some k)) (hg : w1.grownBy w2 (some g)) (hge : w.heap.size ≤ g) : w.grownBy w2 (some k) :=
  ⟨hg.os.trans h.os, hg.tape.trans h.tape, hg.output.trans h.output, Nat.le_trans h.size hg.size, fun j hj hne => (hg.block j (Nat.lt_of_lt_of_le hj h.size) (by simp; omega)).trans (h.block j hj hne)⟩
theorem grown_below {w w' : World} {row : Option Nat} (h : Below w.heap.size w w') : w.grownBy w' row := ⟨h.os, h.tape, h.output, h.size, fun k hk _ => h.block k hk⟩
theorem below_of_grown {w w' : World} {B k : Nat} (h : w.grownBy w' (some k)) (hB : B ≤ w.heap.size) (hk : B ≤ k) : Below B w w' := (Below.refl _ _).grown h hB (fun j hj => by cases hj; exact hk)
set_option maxHeartbeats 800000 in
theorem l1Below_small (k : Nat) (A : Option Addr) (len n : Nat) (w : World) (h : Cur w k A len) (h0 : 0 < n) (h1 : n ≤ 256) : Calls Tryz.prog 54 #[.pointer (some ⟨k, 0, none⟩), .int .i64 n] w (RetN w k A len n) := by
  have HB := Lib.hid (l1Byte_any k A len w h)
  have hn0 : ¬ (n : Int) ≤ 0 := by omega
  have hn1 : (n : Int) ≤ 256 := by omega
  have hnz : ((n : Int) == 0) = false := by simp; omega
  go_enter Tryz.func54, Tryz.ntmps54
  go_wp2_with fail
  refine (HB.out).mono ?_
  rintro e w1 ⟨x, rfl, hx, hc, hg⟩
  go_wp2
  go_ret
  exact ⟨x % n, by rw [Int.natCast_emod]; rfl, Nat.mod_lt _ h0, hc, hg⟩
/-- A bool is handed back; nothing is turned but the cursor. -/
def RetB (w : World) (k : Nat) (A : Option Addr) (len : Nat) (e : Ending) (w' : World) : Prop := ∃ y : Bool, e = .returned (.bool y) ∧ Cur w' k A len ∧ w.grownBy w' (some k)
theorem l1Once_small (k : Nat) (A : Option Addr) (len n : Nat) (w : World) (h : Cur w k A len) (h0 : 0 < n) (h1 : n ≤ 256) : Calls Tryz.prog 63 #[.pointer (some ⟨k, 0, none⟩), .int .i64 n] w (RetB w k A len) := by
  have HB := Lib.hid (l1Below_small k A len n w h h0 h1)
  go_enter Tryz.func63, Tryz.ntmps63
  go_wp2_with fail
  refine (HB.out).mono ?_
  rintro e w1 ⟨x, rfl, hx, hc, hg⟩
  go_wp2
  go_ret
  exact ⟨_, rfl, hc, hg⟩
/-- A number of the list L is handed back; nothing is turned but the cursor. -/
def RetP (w : World) (k : Nat) (A : Option Addr) (len : Nat) (L : List Int) (e : Ending) (w' : World) : Prop := ∃ x : Int, e = .returned (.int .i64 x) ∧ x ∈ L ∧ Cur w' k A len ∧ w.grownBy w' (some k)
theorem l1PickInt_any (k : Nat) (A : Option Addr) (len : Nat) (v : Value) (L : List Int) (w : World) (h : Cur w k A len) (hv : Ints w v L) (hne : ∀ b off cap, v = .slice (some ⟨b, off, none⟩) L.length cap → b ≠ k) (h0 : 0 < L.length) (h1 : L.length ≤ 256) :
    Calls Tryz.prog 67 #[.pointer (some ⟨k, 0, none⟩), v] w (RetP w k A len L) := by
  have HB := Lib.hid (l1Below_small k A len L.length w h h0 h1)
  obtain ⟨b, off, cap, rfl, hc, hb, hcell, hr⟩ := hv
  have hbk := hne b off cap rfl
  have HC := Lib.hid hcell
  clear hcell hne
  go_enter Tryz.func67, Tryz.ntmps67
  go_wp2_with fail
  refine (HB.out).mono ?_
  rintro e w1 ⟨x, rfl, hx, hc, hg⟩
  have c1 := (World.cell?_of_block (a := ⟨b, off + x, none⟩) (hg.block b hb (by simpa using hbk))).trans (HC.out x hx)
  have hxI : (x : Int) < (L.length : Int) := by omega
  obtain ⟨y, hy⟩ : ∃ y, y = L[x] := ⟨_, rfl⟩
  have hm : Kept (y ∈ L) := ⟨by rw [hy]; exact List.getElem_mem hx⟩
  rw [← hy] at c1
  clear hy
  go_wp2
  go_ret
  exact ⟨y, rfl, hm.out, hc, hg⟩
end Go.Proofs.YtpebiacdkfpnpaaGreat
