/- Contracts of read, and of the program's WalkWord and ReadLength. Conditions: at most 2^20 edges and letters. -/
import Derived.Test.YtpebiacdkfpnpaaNextI
import Derived.Test.YtpebiacdkfpnpaaReadS
namespace Go.Proofs.Ytpebiacdkfpnpaa
open Go.RowKit

set_option maxHeartbeats 1600000 in
theorem read_any (r n x : Int) (V v2 : Value) (l : List Ed) (ws : List Int) (w : World) (h : Edges w V l) (hw : Ints w v2 ws) (hn : l.length ≤ 1048576) (hwn : ws.length ≤ 1048576) (hL : ∀ e ∈ l, e.2.1 ≠ -9223372036854775808) :
    Calls Try.prog 58 #[graphV r n V, .int .i64 x, v2] w (RetV w (.tuple #[.int .i64 (readV l x ws), .int .i64 (readC l x ws : Int)])) := by
  have hkeep := h
  obtain ⟨A, cap, rfl, _⟩ := h
  obtain ⟨bw, offw, capw, rfl, hcw, hbw, hcellw, hrw⟩ := hw
  obtain ⟨W, hW⟩ : ∃ W, W = w.alloc (.cells #[.int .i64 r, .int .i64 n, .slice A l.length cap] 29 (0, 0)) := ⟨_, rfl⟩
  have hB : Below w.heap.size w W := by rw [hW]; exact (Below.refl _ _).alloc (Nat.le_refl _) _
  have bx1 : Box W w.heap.size (.cells #[.int .i64 r, .int .i64 n, .slice A l.length cap] 29 (0, 0)) := by rw [hW]; exact Box.new _ _
  have hnx := fun (u a : Int) (ha : I64 a) W' (hb : Below w.heap.size w W') => nextVertex_any r n u a _ l W' (hkeep.keep hb) hn ha hL
  have HW := Lib.hid hW
  have BX := Lib.hid bx1
  have HNX := Lib.hid hnx
  have HCW := Lib.hid hcellw
  have HRW := Lib.hid hrw
  clear hW bx1 hnx hcellw hrw hkeep hL
  go_enter Try.func58, Try.ntmps58
  go_wp2
  rw [← HW.out]
  go_loopw [1, 8, 9, 10, 13] (fun v _ _ _ i wr => ∃ (k : Nat) (u : Int), k ≤ ws.length ∧ i = .int .i64 k ∧ v = .int .i64 u ∧ Kept (ReadAt l x ws u k) ∧ Below W.heap.size W wr) (fun _ _ _ _ i _ => ws.length - (intOf i).toNat)
  case atStart => exact ⟨0, x, by omega, rfl, rfl, ⟨ReadAt.start l x ws⟩, Below.refl _ _⟩
  case round =>
    obtain ⟨k, u, hk, rfl, rfl, hat, hbel⟩ := hrel
    have hBx := hB.trans (hbel.mono hB.size)
    obtain ⟨q1, q2, q3⟩ := (BX.out.keep hbel).cells
    by_cases hlt : k < ws.length
    · have e1 := (hBx.cell (p := ⟨bw, offw + k, none⟩) hbw).trans (HCW.out k hlt)
      have hkl : (k : Int) < (ws.length : Int) := by omega
      have ha := HRW.out _ (List.getElem_mem hlt)
      obtain ⟨a, hae⟩ : ∃ a, a = ws[k] := ⟨_, rfl⟩
      obtain ⟨s, hs⟩ : ∃ s, s = nextV l u a := ⟨_, rfl⟩
      have hstop : s < 0 → Kept (readC l x ws = k ∧ readV l x ws = u) := fun hneg0 => by
        have hneg : nextV l u ws[k] < 0 := by rw [← hae, ← hs]; exact hneg0
        exact ⟨hat.out.stop hlt hneg⟩
      have hgo : 0 ≤ s → Kept (ReadAt l x ws s (k + 1)) := fun hneg0 => by
        have hneg : ¬ nextV l u ws[k] < 0 := by rw [← hae, ← hs]; omega
        have := hat.out.go hlt hneg
        rw [← hae, ← hs] at this
        exact ⟨this⟩
      rw [← hae] at e1 ha
      have hn1 := HNX.out u a ha wr hBx
      rw [← hs] at hn1
      have HN1 := Lib.hid hn1
      have HST := Lib.hid hstop
      have HGO := Lib.hid hgo
      clear hae hs hstop hgo ha hn1
      go_wp2_with fail
      refine (HN1.out).mono ?_
      rintro e w2 ⟨rfl, hb⟩
      have hb9 := hbel.trans (hb.mono hbel.size)
      by_cases hneg : s < 0
      · have hst := HST.out hneg
        go_wp2
        go_ret2
        rw [hst.out.1, hst.out.2]
        exact ⟨rfl, hB.trans (hb9.mono hB.size)⟩
      · have hst := HGO.out (by omega)
        go_wp2
        go_roundw
        case rel => exact ⟨k + 1, s, by omega, by go_num, rfl, hst, hb9⟩
        case measure => simp [intOf]; omega
    · obtain rfl : k = ws.length := by omega
      have hst : Kept (readC l x ws = ws.length ∧ readV l x ws = u) := ⟨hat.out.all⟩
      go_wp2
      go_ret2
      rw [hst.out.1, hst.out.2]
      exact ⟨rfl, hBx⟩
set_option maxHeartbeats 1600000 in
theorem walkWord_any (r n x : Int) (V v2 : Value) (l : List Ed) (ws : List Int) (w : World) (h : Edges w V l) (hw : Ints w v2 ws) (hn : l.length ≤ 1048576) (hwn : ws.length ≤ 1048576) :
    Calls Try.prog 29 #[graphV r n V, .int .i64 x, v2] w (RetV w (.tuple #[.int .i64 (walkV r n x l ws), .bool (walkOk r n x l ws)])) := by
  have hkeep := h
  obtain ⟨A, cap, rfl, _⟩ := h
  have hwi := hw
  obtain ⟨bw, offw, capw, rfl, _⟩ := hw
  obtain ⟨W, hW⟩ : ∃ W, W = w.alloc (.cells #[.int .i64 r, .int .i64 n, .slice A l.length cap] 29 (0, 0)) := ⟨_, rfl⟩
  have hB : Below w.heap.size w W := by rw [hW]; exact (Below.refl _ _).alloc (Nat.le_refl _) _
  have bx1 : Box W w.heap.size (.cells #[.int .i64 r, .int .i64 n, .slice A l.length cap] 29 (0, 0)) := by rw [hW]; exact Box.new _ _
  obtain ⟨y, hy⟩ : ∃ y, y = isFold r n l := ⟨_, rfl⟩
  obtain ⟨z, hz⟩ : ∃ z, z = inV n x := ⟨_, rfl⟩
  obtain ⟨c, hc⟩ : ∃ c, c = canWalk r n x l := ⟨_, rfl⟩
  have hyz : c = (y && z) := by rw [hc, hy, hz]; rfl
  have hq := isFolded_any r n _ l W (hkeep.keep hB) hn
  have hh := fun W => has_any r n x A l.length cap W
  rw [← hy] at hq
  rw [← hz] at hh
  have hrd := fun (hf : isFold r n l = true) W' (hb : Below w.heap.size w W') => read_any r n x _ _ l ws W' (hkeep.keep hb) (hwi.keep hb) hn hwn (isG_lets (isFold_g hf))
  have HW := Lib.hid hW
  have BX := Lib.hid bx1
  have HQ := Lib.hid hq
  have HH := Lib.hid hh
  have HY := Lib.hid hy
  have HC := Lib.hid hc
  have HYZ := Lib.hid hyz
  have HRD := Lib.hid hrd
  have HRC := Lib.hid (readC_le l ws x)
  clear hW bx1 hq hh hy hz hc hyz hrd hkeep hwi
  go_enter Try.func29, Try.ntmps29
  go_wp2_with fail
  rw [← HW.out]
  refine (HQ.out).mono ?_
  rintro e w1 ⟨rfl, hb1⟩
  have hB1 := hB.trans (hb1.mono hB.size)
  obtain ⟨q1, q2, q3⟩ := (BX.out.keep hb1).cells
  cases y with
  | false =>
    have hst : Kept (walkOk r n x l ws = false ∧ walkV r n x l ws = -1 ∧ readLen r n x l ws = 0) := ⟨walk_cannot ws (by rw [← HC.out, HYZ.out]; rfl)⟩
    go_wp2
    go_ret2
    rw [hst.out.1, hst.out.2.1]
    exact ⟨rfl, hB1⟩
  | true =>
    go_wp2_with fail
    refine (HH.out _).mono ?_
    rintro e w2 ⟨rfl, hb2⟩
    have hb12 := hb1.trans (hb2.mono hb1.size)
    have hB2 := hB1.trans (hb2.mono hB1.size)
    clear q1 q2 q3
    obtain ⟨q1, q2, q3⟩ := (BX.out.keep hb12).cells
    cases z with
    | false =>
      have hst : Kept (walkOk r n x l ws = false ∧ walkV r n x l ws = -1 ∧ readLen r n x l ws = 0) := ⟨walk_cannot ws (by rw [← HC.out, HYZ.out]; rfl)⟩
      go_wp2
      go_ret2
      rw [hst.out.1, hst.out.2.1]
      exact ⟨rfl, hB2⟩
    | true =>
      have hct : c = true := HYZ.out
      subst hct
      go_wp2_with fail
      refine (HRD.out HY.out.symm _ hB2).mono ?_
      rintro e w3 ⟨rfl, hb3⟩
      have hB3 := hB2.trans (hb3.mono hB2.size)
      by_cases hlt : readC l x ws < ws.length
      · have hst : Kept (walkOk r n x l ws = false ∧ walkV r n x l ws = -1) := ⟨walk_stop (by omega)⟩
        have hltI : (readC l x ws : Int) < (ws.length : Int) := by omega
        go_wp2
        go_ret2
        rw [hst.out.1, hst.out.2]
        exact ⟨rfl, hB3⟩
      · have hst : Kept (walkOk r n x l ws = true ∧ walkV r n x l ws = readV l x ws) := ⟨walk_all HC.out.symm (by have := HRC.out; omega)⟩
        have hltI : ¬ (readC l x ws : Int) < (ws.length : Int) := by omega
        go_wp2
        go_ret2
        rw [hst.out.1, hst.out.2]
        exact ⟨rfl, hB3⟩
set_option maxHeartbeats 1600000 in
theorem readLength_any (r n x : Int) (V v2 : Value) (l : List Ed) (ws : List Int) (w : World) (h : Edges w V l) (hw : Ints w v2 ws) (hn : l.length ≤ 1048576) (hwn : ws.length ≤ 1048576) :
    Calls Try.prog 27 #[graphV r n V, .int .i64 x, v2] w (RetV w (.int .i64 (readLen r n x l ws))) := by
  have hkeep := h
  obtain ⟨A, cap, rfl, _⟩ := h
  have hwi := hw
  obtain ⟨bw, offw, capw, rfl, _⟩ := hw
  obtain ⟨W, hW⟩ : ∃ W, W = w.alloc (.cells #[.int .i64 r, .int .i64 n, .slice A l.length cap] 29 (0, 0)) := ⟨_, rfl⟩
  have hB : Below w.heap.size w W := by rw [hW]; exact (Below.refl _ _).alloc (Nat.le_refl _) _
  have bx1 : Box W w.heap.size (.cells #[.int .i64 r, .int .i64 n, .slice A l.length cap] 29 (0, 0)) := by rw [hW]; exact Box.new _ _
  obtain ⟨y, hy⟩ : ∃ y, y = isFold r n l := ⟨_, rfl⟩
  obtain ⟨z, hz⟩ : ∃ z, z = inV n x := ⟨_, rfl⟩
  obtain ⟨c, hc⟩ : ∃ c, c = canWalk r n x l := ⟨_, rfl⟩
  have hyz : c = (y && z) := by rw [hc, hy, hz]; rfl
  have hq := isFolded_any r n _ l W (hkeep.keep hB) hn
  have hh := fun W => has_any r n x A l.length cap W
  rw [← hy] at hq
  rw [← hz] at hh
  have hrd := fun (hf : isFold r n l = true) W' (hb : Below w.heap.size w W') => read_any r n x _ _ l ws W' (hkeep.keep hb) (hwi.keep hb) hn hwn (isG_lets (isFold_g hf))
  have HW := Lib.hid hW
  have BX := Lib.hid bx1
  have HQ := Lib.hid hq
  have HH := Lib.hid hh
  have HY := Lib.hid hy
  have HC := Lib.hid hc
  have HYZ := Lib.hid hyz
  have HRD := Lib.hid hrd
  clear hW bx1 hq hh hy hz hc hyz hrd hkeep hwi
  go_enter Try.func27, Try.ntmps27
  go_wp2_with fail
  rw [← HW.out]
  refine (HQ.out).mono ?_
  rintro e w1 ⟨rfl, hb1⟩
  have hB1 := hB.trans (hb1.mono hB.size)
  obtain ⟨q1, q2, q3⟩ := (BX.out.keep hb1).cells
  cases y with
  | false =>
    have hst : Kept (walkOk r n x l ws = false ∧ walkV r n x l ws = -1 ∧ readLen r n x l ws = 0) := ⟨walk_cannot ws (by rw [← HC.out, HYZ.out]; rfl)⟩
    go_wp2
    go_ret
    rw [hst.out.2.2]
    exact ⟨rfl, hB1⟩
  | true =>
    go_wp2_with fail
    refine (HH.out _).mono ?_
    rintro e w2 ⟨rfl, hb2⟩
    have hb12 := hb1.trans (hb2.mono hb1.size)
    have hB2 := hB1.trans (hb2.mono hB1.size)
    clear q1 q2 q3
    obtain ⟨q1, q2, q3⟩ := (BX.out.keep hb12).cells
    cases z with
    | false =>
      have hst : Kept (walkOk r n x l ws = false ∧ walkV r n x l ws = -1 ∧ readLen r n x l ws = 0) := ⟨walk_cannot ws (by rw [← HC.out, HYZ.out]; rfl)⟩
      go_wp2
      go_ret
      rw [hst.out.2.2]
      exact ⟨rfl, hB2⟩
    | true =>
      have hct : c = true := HYZ.out
      subst hct
      have hst : Kept (readLen r n x l ws = (readC l x ws : Int)) := ⟨readLen_yes HC.out.symm⟩
      go_wp2_with fail
      refine (HRD.out HY.out.symm _ hB2).mono ?_
      rintro e w3 ⟨rfl, hb3⟩
      have hB3 := hB2.trans (hb3.mono hB2.size)
      go_wp2
      go_ret
      rw [hst.out]
      exact ⟨rfl, hB3⟩
end Go.Proofs.Ytpebiacdkfpnpaa
