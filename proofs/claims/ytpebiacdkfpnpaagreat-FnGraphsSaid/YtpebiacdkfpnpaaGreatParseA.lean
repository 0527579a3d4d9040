/- What the references' ParseGraph reads: l4Num, l4Read. Conditions: texts of at most 2^20 bytes. -/
import Derived.Test.YtpebiacdkfpnpaaGreatPIntA
import Derived.Test.YtpebiacdkfpnpaaGreatEdges
import Derived.Deep.RegionWith
import Derived.Test.YtpebiacdkfpnpaaGreatBoxes
import Derived.IntWalk
namespace Go.Proofs.YtpebiacdkfpnpaaGreat
open Go.RowKit

/-- A number's text, -1 where it is none. -/
def numS (l : List UInt8) : Int := match parseIOk l with
  | true => parseIV l
  | false => -1
theorem numS_yes {l : List UInt8} (h : parseIOk l = true) : numS l = parseIV l := by unfold numS; rw [h]
theorem numS_no {l : List UInt8} (h : parseIOk l = false) : numS l = -1 := by unfold numS; rw [h]
theorem l4Num_any (s : ByteArray) (hs : s.size ≤ 1048576) (w : World) : Calls Tryz.prog 58 #[.string s] w (RetV w (.int .i64 (numS s.data.toList))) := by
  have hp := parseIntS_any s hs w
  cases hq : parseIOk s.data.toList with
  | true =>
    rw [numS_yes hq]
    rw [hq] at hp
    obtain ⟨x, hx⟩ : ∃ x, x = parseIV s.data.toList := ⟨_, rfl⟩
    rw [← hx] at hp ⊢
    have HP := Lib.hid hp
    clear hp hq hx
    go_enter Tryz.func58, Tryz.ntmps58
    go_wp2_with fail
    refine (HP.out).mono ?_
    rintro e w1 ⟨rfl, hb⟩
    go_wp2
    go_ret
    exact ⟨rfl, hb⟩
  | false =>
    rw [numS_no hq]
    rw [hq] at hp
    have HP := Lib.hid hp
    clear hp hq
    go_enter Tryz.func58, Tryz.ntmps58
    go_wp2_with fail
    refine (HP.out).mono ?_
    rintro e w1 ⟨rfl, hb⟩
    go_wp2
    go_ret
    exact ⟨rfl, hb⟩
/-- The letter of a byte as l4Read takes it: a, b, c. -/
def isLow (b : UInt8) : Bool := decide (97 ≤ b.toNat ∧ b.toNat ≤ 99)
/-- The edge that l4Read reads: the part ahead, the part behind. -/
def readS (a : List UInt8) : List UInt8 → Ed
  | [] => (0, 0, 0)
  | b :: l => match isLow b with
    | true => (numS a, (b.toNat : Int) - 96, numS l)
    | false => readS (a ++ [b]) l
theorem readS_yes {s : ByteArray} {k : Nat} (hk : k < s.size) (h : isLow s[k] = true) : readS (s.data.toList.take k) (s.data.toList.drop k) = (numS (s.data.toList.take k), (s[k].toNat : Int) - 96, numS (s.data.toList.drop (k + 1))) := by
  have hl : k < s.data.toList.length := by simpa using hk
  rw [List.drop_eq_getElem_cons hl]
  have e : s.data.toList[k] = s[k] := rfl
  rw [e]
  simp only [readS, h]
theorem readS_no {s : ByteArray} {k : Nat} (hk : k < s.size) (h : isLow s[k] = false) : readS (s.data.toList.take k) (s.data.toList.drop k) = readS (s.data.toList.take (k + 1)) (s.data.toList.drop (k + 1)) := by
  have hl : k < s.data.toList.length := by simpa using hk
  rw [List.drop_eq_getElem_cons hl, take_snoc s k hk]
  have e : s.data.toList[k] = s[k] := rfl
  rw [e]
  simp only [readS, h]
theorem cellsKeep {w0 W w1 : World} (h : W.cell? ⟨w0.heap.size, 0, none⟩ = some (.int .i64 0) ∧ W.cell? ⟨w0.heap.size, 1, none⟩ = some (.int .i64 0) ∧ W.cell? ⟨w0.heap.size, 2, none⟩ = some (.int .i64 0) ∧ W.frozen? ⟨w0.heap.size, 0, none⟩ = false ∧ W.frozen? ⟨w0.heap.size, 1, none⟩ = false ∧ W.frozen? ⟨w0.heap.size, 2, none⟩ = false ∧ Below w0.heap.size w0 W) (hb : Below W.heap.size W w1) : w1.cell? ⟨w0.heap.size, 0, none⟩ = some (.int .i64 0) ∧ w1.cell? ⟨w0.heap.size, 1, none⟩ = some (.int .i64 0) ∧ w1.cell? ⟨w0.heap.size, 2, none⟩ = some (.int .i64 0) ∧ w1.frozen? ⟨w0.heap.size, 0, none⟩ = false ∧ w1.frozen? ⟨w0.heap.size, 1, none⟩ = false ∧ w1.frozen? ⟨w0.heap.size, 2, none⟩ = false ∧ Below w0.heap.size w0 w1 := by
  obtain ⟨h0, h1, h2, f0, f1, f2, hB⟩ := h
  have l0 := World.block_lt_of_cell? W _ h0
  exact ⟨(hb.cell (p := ⟨w0.heap.size, 0, none⟩) l0).trans h0, (hb.cell (p := ⟨w0.heap.size, 1, none⟩) l0).trans h1, (hb.cell (p := ⟨w0.heap.size, 2, none⟩) l0).trans h2, (hb.frozen (p := ⟨w0.heap.size, 0, none⟩) l0).trans f0, (hb.frozen (p := ⟨w0.heap.size, 1, none⟩) l0).trans f1, (hb.frozen (p := ⟨w0.heap.size, 2, none⟩) l0).trans f2, hB.trans (hb.mono hB.size)⟩
set_option maxHeartbeats 1600000 in
theorem l4Read_any (s : ByteArray) (hs : s.size ≤ 1048576) (w : World) : Calls Tryz.prog 59 #[.string s] w (RetV w (edgeV (readS [] s.data.toList).1 (readS [] s.data.toList).2.1 (readS [] s.data.toList).2.2)) := by
  go_enter Tryz.func59, Tryz.ntmps59
  go_wp2
  go_loop [3] (fun i => ∃ k : Nat, k ≤ s.size ∧ i = .int .i64 k ∧ Kept (readS (s.data.toList.take k) (s.data.toList.drop k) = readS [] s.data.toList)) (fun i => s.size - (intOf i).toNat)
  case atStart => exact ⟨0, by omega, rfl, ⟨by simp⟩⟩
  case round =>
    obtain ⟨k, hk, rfl, hkk⟩ := hrel
    have hb0 : Below w.heap.size w (w.alloc (.cells #[.int .i64 0, .int .i64 0, .int .i64 0] 28)) := (Below.refl _ _).alloc (Nat.le_refl _) _
    have hx0 := Box.new w (.cells #[.int .i64 0, .int .i64 0, .int .i64 0] 28)
    by_cases hlt : k < s.size
    · have hkI : (k : Int) < (s.size : Int) := by omega
      cases hl : isLow s[k] with
      | true =>
        have hr : Kept _ := ⟨(readS_yes hlt hl).symm.trans hkk.out⟩
        have hlow := of_decide_eq_true hl
        have h1 : (97 : Int) ≤ (s[k].toNat : Int) := by omega
        have h2 : (s[k].toNat : Int) ≤ 99 := by omega
        clear hl hkk
        have hw : IntKind.i64.wrap ((k : Int) + 1) = (k : Int) + 1 := IntWalk.i64_in _ (by omega)
        have ht1 : ((k : Int) + 1).toNat = k + 1 := by omega
        have hz0 : (0 : Int) ≤ (k : Int) + 1 := by omega
        have hz1 : (k : Int) + 1 ≤ (s.size : Int) := by omega
        have hw2 : IntKind.u8.wrap ((s[k].toNat : Int) - 97) = (s[k].toNat : Int) - 97 := IntWalk.u8_in _ (by omega)
        have hw3 : IntKind.i64.wrap ((s[k].toNat : Int) - 97) = (s[k].toNat : Int) - 97 := IntWalk.i64_in _ (by omega)
        have hw4 : IntKind.i64.wrap ((s[k].toNat : Int) - 97 + 1) = (s[k].toNat : Int) - 96 := by rw [IntWalk.i64_in _ (by omega)]; omega
        go_wp2
        obtain ⟨q1, q2, q3⟩ := hx0.cells
        have f1 := frozen_of_row _ w.heap.size 0 _ _ hx0
        have f2 := frozen_of_row _ w.heap.size 1 _ _ hx0
        have f3 := frozen_of_row _ w.heap.size 2 _ _ hx0
        go_region_with (go_at_call 58; refine (l4Num_any _ (by simp [ByteArray.size_extract]; omega) _).mono ?_; rintro e w1 ⟨rfl, hb1⟩; first
          | (have P2 := cellsKeep P1 hb1; obtain ⟨q1, q2, q3, f1, f2, f3, hbz⟩ := P2; clear P1)
          | (have P1 := cellsKeep (w0 := w) (by exact ⟨q1, q2, q3, f1, f2, f3, hb0.drew⟩) hb1))
        all_goals
          have htk : List.take (s.size - (k + 1)) (List.drop (k + 1) s.data.toList) = List.drop (k + 1) s.data.toList := List.take_of_length_le (by simp)
          go_wp2
          rw [htk]
          refine bodyPost_ret (v := edgeV (numS (List.take k s.data.toList)) ((s[k].toNat : Int) - 96) (numS (List.drop (k + 1) s.data.toList))) (by simp [results, Tryz.results59, go_sem, q1, q2, q3]) rfl ⟨by rw [← hr.out], ?_⟩
          exact ((hbz.setCell (Nat.le_refl _) _).setCell (Nat.le_refl _) _).setCell (Nat.le_refl _) _
      | false =>
        have hr : Kept _ := ⟨(readS_no hlt hl).symm.trans hkk.out⟩
        have hlow := of_decide_eq_false hl
        clear hl hkk
        by_cases h1 : (97 : Int) ≤ (s[k].toNat : Int)
        · have h2 : ¬ (s[k].toNat : Int) ≤ 99 := by omega
          go_wp2
          go_round
          case rel => exact ⟨k + 1, by omega, by go_num, hr⟩
          case measure => simp [intOf]; omega
        · go_wp2
          go_round
          case rel => exact ⟨k + 1, by omega, by go_num, hr⟩
          case measure => simp [intOf]; omega
    · obtain rfl : k = s.size := by omega
      have hr : Kept (readS [] s.data.toList = (0, 0, 0)) := ⟨by rw [← hkk.out, List.drop_of_length_le (by simp)]; rfl⟩
      obtain ⟨q1, q2, q3⟩ := hx0.cells
      have f1 := frozen_of_row _ w.heap.size 0 _ _ hx0
      clear hx0
      go_wp2
      refine bodyPost_ret (v := edgeV 0 0 0) (by simp [results, Tryz.results59, go_sem]) rfl ⟨by rw [hr.out], ?_⟩
      exact hb0
end Go.Proofs.YtpebiacdkfpnpaaGreat
