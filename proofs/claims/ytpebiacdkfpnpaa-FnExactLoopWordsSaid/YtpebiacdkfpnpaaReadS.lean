/- Contracts of the reference's WalkWord and ReadLength. Conditions: at most 2^20 edges and letters. -/
import Derived.Test.YtpebiacdkfpnpaaNextS
import Derived.Test.YtpebiacdkfpnpaaGraphE
namespace Go.Proofs.Ytpebiacdkfpnpaa
open Go.RowKit

/-- What WalkWord and ReadLength ask first. -/
def canWalk (r n x : Int) (l : List Ed) : Bool := isFold r n l && inV n x
def walkOk (r n x : Int) (l : List Ed) (ws : List Int) : Bool := canWalk r n x l && decide (readC l x ws = ws.length)
def walkV (r n x : Int) (l : List Ed) (ws : List Int) : Int := match walkOk r n x l ws with
  | true => readV l x ws
  | false => -1
def readLen (r n x : Int) (l : List Ed) (ws : List Int) : Int := match canWalk r n x l with
  | true => (readC l x ws : Int)
  | false => 0
theorem walk_cannot {r n x : Int} {l : List Ed} (ws : List Int) (h : canWalk r n x l = false) : walkOk r n x l ws = false ∧ walkV r n x l ws = -1 ∧ readLen r n x l ws = 0 := by
  have : walkOk r n x l ws = false := by rw [walkOk, h, Bool.false_and]
  exact ⟨this, by simp only [walkV, this], by simp only [readLen, h]⟩
theorem walk_stop {r n x : Int} {l : List Ed} {ws : List Int} (h : readC l x ws ≠ ws.length) : walkOk r n x l ws = false ∧ walkV r n x l ws = -1 := by
  have : walkOk r n x l ws = false := by rw [walkOk, decide_eq_false h, Bool.and_false]
  exact ⟨this, by simp only [walkV, this]⟩
theorem walk_all {r n x : Int} {l : List Ed} {ws : List Int} (h0 : canWalk r n x l = true) (h : readC l x ws = ws.length) : walkOk r n x l ws = true ∧ walkV r n x l ws = readV l x ws := by
  have : walkOk r n x l ws = true := by rw [walkOk, h0, decide_eq_true h]; rfl
  exact ⟨this, by simp only [walkV, this]⟩
theorem readLen_yes {r n x : Int} {l : List Ed} {ws : List Int} (h0 : canWalk r n x l = true) : readLen r n x l ws = (readC l x ws : Int) := by simp only [readLen, h0]
theorem isG_lets {r n : Int} {l : List Ed} (h : isG r n l = true) : ∀ e ∈ l, e.2.1 ≠ -9223372036854775808 := by
  intro e he
  obtain ⟨k, hk, rfl⟩ := List.mem_iff_getElem.1 he
  have h4 : edgesOk r n l = true := by
    have h' : (1 ≤ r ∧ r ≤ 3) ∧ (1 ≤ n ∧ n ≤ 40) ∧ l.length ≤ 120 ∧ edgesOk r n l = true := by simpa [isG] using h
    exact h'.2.2.2
  rw [edgesOk, List.all_eq_true] at h4
  have h5 := h4 k (by simpa using hk)
  rw [stepOk, getD_at hk, Bool.and_eq_true] at h5
  have h6 := h5.1
  simp only [okE, Bool.and_eq_true, decide_eq_true_eq] at h6
  omega
theorem isFold_g {r n : Int} {l : List Ed} (h : isFold r n l = true) : isG r n l = true := by
  rw [isFold, Bool.and_eq_true] at h; exact h.1
/-- The walk at its place k. -/
structure ReadAt (l : List Ed) (x : Int) (ws : List Int) (u : Int) (k : Nat) : Prop where
  c : readC l x ws = k + readC l u (ws.drop k)
  v : readV l x ws = readV l u (ws.drop k)
theorem ReadAt.start (l : List Ed) (x : Int) (ws : List Int) : ReadAt l x ws x 0 := ⟨by simp, by simp⟩
theorem ReadAt.stop {l : List Ed} {x u : Int} {ws : List Int} {k : Nat} (h : ReadAt l x ws u k) (hk : k < ws.length) (hn : nextV l u ws[k] < 0) : readC l x ws = k ∧ readV l x ws = u := by
  have h1 := h.c
  have h2 := h.v
  rw [read_drop hk] at h1 h2
  obtain ⟨a, b⟩ := read_stop (ws.drop (k + 1)) hn
  exact ⟨by rw [h1, b, Nat.add_zero], by rw [h2, a]⟩
theorem ReadAt.go {l : List Ed} {x u : Int} {ws : List Int} {k : Nat} (h : ReadAt l x ws u k) (hk : k < ws.length) (hn : ¬ nextV l u ws[k] < 0) : ReadAt l x ws (nextV l u ws[k]) (k + 1) := by
  have h1 := h.c
  have h2 := h.v
  rw [read_drop hk] at h1 h2
  obtain ⟨a, b⟩ := read_go (ws.drop (k + 1)) hn
  exact ⟨by rw [h1, b]; omega, by rw [h2, a]⟩
theorem ReadAt.all {l : List Ed} {x u : Int} {ws : List Int} (h : ReadAt l x ws u ws.length) : readC l x ws = ws.length ∧ readV l x ws = u := by
  have h1 := h.c
  have h2 := h.v
  rw [List.drop_length] at h1 h2
  exact ⟨by rw [h1]; rfl, by rw [h2]; rfl⟩
set_option maxHeartbeats 1600000 in
theorem walkWordS_any (r n x : Int) (V v2 : Value) (l : List Ed) (ws : List Int) (w : World) (h : Edges w V l) (hw : Ints w v2 ws) (hn : l.length ≤ 1048576) (hwn : ws.length ≤ 1048576) :
    Calls Try.prog 28 #[graphV r n V, .int .i64 x, v2] w (RetV w (.tuple #[.int .i64 (walkV r n x l ws), .bool (walkOk r n x l ws)])) := by
  have hkeep := h
  obtain ⟨A, cap, rfl, _⟩ := h
  have hwi := hw
  obtain ⟨bw, offw, capw, rfl, hcw, hbw, hcellw, hrw⟩ := hw
  obtain ⟨W, hW⟩ : ∃ W, W = w.alloc (.cells #[.int .i64 r, .int .i64 n, .slice A l.length cap] 29 (0, 0)) := ⟨_, rfl⟩
  have hB : Below w.heap.size w W := by rw [hW]; exact (Below.refl _ _).alloc (Nat.le_refl _) _
  have bx1 : Box W w.heap.size (.cells #[.int .i64 r, .int .i64 n, .slice A l.length cap] 29 (0, 0)) := by rw [hW]; exact Box.new _ _
  obtain ⟨m, hm⟩ : ∃ m, wrap64 (n - 1) = m := ⟨_, rfl⟩
  obtain ⟨y, hy⟩ : ∃ y, y = isFold r n l := ⟨_, rfl⟩
  obtain ⟨z, hz⟩ : ∃ z, z = inV n x := ⟨_, rfl⟩
  obtain ⟨c, hc⟩ : ∃ c, c = canWalk r n x l := ⟨_, rfl⟩
  have hyz : c = (y && z) := by rw [hc, hy, hz]; rfl
  have hq := isFoldedS_any r n _ l W (hkeep.keep hB) hn
  have hh := fun W => l1In_any x 0 m W
  rw [← hy] at hq
  rw [show decide (0 ≤ x ∧ x ≤ m) = inV n x by rw [inV, hm], ← hz] at hh
  have hnx := fun (hf : isFold r n l = true) (u a : Int) (ha : I64 a) W' (hb : Below w.heap.size w W') => nextVertexS_any r n u a _ l W' (hkeep.keep hb) hn ha (isG_lets (isFold_g hf))
  have HW := Lib.hid hW
  have BX := Lib.hid bx1
  have HQ := Lib.hid hq
  have HH := Lib.hid hh
  have HY := Lib.hid hy
  have HC := Lib.hid hc
  have HYZ := Lib.hid hyz
  have HNX := Lib.hid hnx
  have HCW := Lib.hid hcellw
  have HRW := Lib.hid hrw
  clear hW bx1 hq hh hy hz hc hyz hnx hcellw hrw hkeep hwi
  go_enter Try.func28, Try.ntmps28
  go_wp2_with fail
  rw [← HW.out]
  refine (HQ.out).mono ?_
  rintro e w1 ⟨rfl, hb1⟩
  have hB1 := hB.trans (hb1.mono hB.size)
  obtain ⟨q1, q2, q3⟩ := (BX.out.keep hb1).cells
  cases y with
  | false =>
    have hst : Kept (walkOk r n x l ws = false ∧ walkV r n x l ws = -1 ∧ readLen r n x l ws = 0) := ⟨walk_cannot ws (by rw [← HC.out, HYZ.out]; rfl)⟩
    go_wp2
    go_ret2
    rw [hst.out.1, hst.out.2.1]
    exact ⟨rfl, hB1⟩
  | true =>
    go_wp2_with fail
    refine (HH.out _).mono ?_
    rintro e w2 ⟨rfl, rfl⟩
    cases z with
    | false =>
      have hst : Kept (walkOk r n x l ws = false ∧ walkV r n x l ws = -1 ∧ readLen r n x l ws = 0) := ⟨walk_cannot ws (by rw [← HC.out, HYZ.out]; rfl)⟩
      go_wp2
      go_ret2
      rw [hst.out.1, hst.out.2.1]
      exact ⟨rfl, hB1⟩
    | true =>
      have hct : c = true := HYZ.out
      subst hct
      go_wp2
      go_loopw [1, 8] (fun v i wr => ∃ (k : Nat) (u : Int), k ≤ ws.length ∧ i = .int .i64 k ∧ v = .int .i64 u ∧ Kept (ReadAt l x ws u k) ∧ Below W.heap.size W wr) (fun _ i _ => ws.length - (intOf i).toNat)
      case atStart => exact ⟨0, x, by omega, rfl, rfl, ⟨ReadAt.start l x ws⟩, hb1⟩
      case round =>
        obtain ⟨k, u, hk, rfl, rfl, hat, hbel⟩ := hrel
        have hBx := hB.trans (hbel.mono hB.size)
        obtain ⟨q1, q2, q3⟩ := (BX.out.keep hbel).cells
        by_cases hlt : k < ws.length
        · have e1 := (hBx.cell (p := ⟨bw, offw + k, none⟩) hbw).trans (HCW.out k hlt)
          have hkl : (k : Int) < (ws.length : Int) := by omega
          have ha := HRW.out _ (List.getElem_mem hlt)
          obtain ⟨a, hae⟩ : ∃ a, a = ws[k] := ⟨_, rfl⟩
          obtain ⟨s, hs⟩ : ∃ s, s = nextV l u a := ⟨_, rfl⟩
          have hstop : s < 0 → Kept (walkOk r n x l ws = false ∧ walkV r n x l ws = -1) := fun hneg0 => by
            have hneg : nextV l u ws[k] < 0 := by rw [← hae, ← hs]; exact hneg0
            exact ⟨walk_stop (by have := (hat.out.stop hlt hneg).1; omega)⟩
          have hgo : 0 ≤ s → Kept (ReadAt l x ws s (k + 1)) := fun hneg0 => by
            have hneg : ¬ nextV l u ws[k] < 0 := by rw [← hae, ← hs]; omega
            have := hat.out.go hlt hneg
            rw [← hae, ← hs] at this
            exact ⟨this⟩
          rw [← hae] at e1 ha
          have hdr : Below W.heap.size W wr.drew := hbel.drew
          have hn1 := HNX.out HY.out.symm u a ha wr.drew (hB.trans (hdr.mono hB.size))
          rw [← hs] at hn1
          have HN1 := Lib.hid hn1
          have HST := Lib.hid hstop
          have HGO := Lib.hid hgo
          clear hae hs hstop hgo ha hn1
          go_wp2
          go_region_law (go_simp; go_at_call 11; refine (HN1.out).mono ?_; rintro e w2 ⟨rfl, hb⟩)
          all_goals
            have hb9 := hdr.trans (hb.mono hdr.size)
            by_cases hneg : s < 0
            · have hst := HST.out hneg
              go_wp2
              go_ret2
              rw [hst.out.1, hst.out.2]
              exact ⟨rfl, hB.trans (hb9.mono hB.size)⟩
            · have hst := HGO.out (by omega)
              go_wp2
              go_roundw
              case rel => exact ⟨k + 1, s, by omega, by go_num, rfl, hst, hb9⟩
              case measure => simp [intOf]; omega
        · obtain rfl : k = ws.length := by omega
          have hst : Kept (walkOk r n x l ws = true ∧ walkV r n x l ws = u) := ⟨by obtain ⟨a, b⟩ := hat.out.all; obtain ⟨c, d⟩ := walk_all HC.out.symm a; exact ⟨c, d.trans b⟩⟩
          go_wp2
          go_ret2
          rw [hst.out.1, hst.out.2]
          exact ⟨rfl, hBx⟩
set_option maxHeartbeats 1600000 in
theorem readLengthS_any (r n x : Int) (V v2 : Value) (l : List Ed) (ws : List Int) (w : World) (h : Edges w V l) (hw : Ints w v2 ws) (hn : l.length ≤ 1048576) (hwn : ws.length ≤ 1048576) :
    Calls Try.prog 25 #[graphV r n V, .int .i64 x, v2] w (RetV w (.int .i64 (readLen r n x l ws))) := by
  have hkeep := h
  obtain ⟨A, cap, rfl, _⟩ := h
  have hwi := hw
  obtain ⟨bw, offw, capw, rfl, hcw, hbw, hcellw, hrw⟩ := hw
  obtain ⟨W, hW⟩ : ∃ W, W = w.alloc (.cells #[.int .i64 r, .int .i64 n, .slice A l.length cap] 29 (0, 0)) := ⟨_, rfl⟩
  have hB : Below w.heap.size w W := by rw [hW]; exact (Below.refl _ _).alloc (Nat.le_refl _) _
  have bx1 : Box W w.heap.size (.cells #[.int .i64 r, .int .i64 n, .slice A l.length cap] 29 (0, 0)) := by rw [hW]; exact Box.new _ _
  obtain ⟨m, hm⟩ : ∃ m, wrap64 (n - 1) = m := ⟨_, rfl⟩
  obtain ⟨y, hy⟩ : ∃ y, y = isFold r n l := ⟨_, rfl⟩
  obtain ⟨z, hz⟩ : ∃ z, z = inV n x := ⟨_, rfl⟩
  obtain ⟨c, hc⟩ : ∃ c, c = canWalk r n x l := ⟨_, rfl⟩
  have hyz : c = (y && z) := by rw [hc, hy, hz]; rfl
  have hq := isFoldedS_any r n _ l W (hkeep.keep hB) hn
  have hh := fun W => l1In_any x 0 m W
  rw [← hy] at hq
  rw [show decide (0 ≤ x ∧ x ≤ m) = inV n x by rw [inV, hm], ← hz] at hh
  have hnx := fun (hf : isFold r n l = true) (u a : Int) (ha : I64 a) W' (hb : Below w.heap.size w W') => nextVertexS_any r n u a _ l W' (hkeep.keep hb) hn ha (isG_lets (isFold_g hf))
  have HW := Lib.hid hW
  have BX := Lib.hid bx1
  have HQ := Lib.hid hq
  have HH := Lib.hid hh
  have HY := Lib.hid hy
  have HC := Lib.hid hc
  have HYZ := Lib.hid hyz
  have HNX := Lib.hid hnx
  have HCW := Lib.hid hcellw
  have HRW := Lib.hid hrw
  clear hW bx1 hq hh hy hz hc hyz hnx hcellw hrw hkeep hwi
  go_enter Try.func25, Try.ntmps25
  go_wp2_with fail
  rw [← HW.out]
  refine (HQ.out).mono ?_
  rintro e w1 ⟨rfl, hb1⟩
  have hB1 := hB.trans (hb1.mono hB.size)
  obtain ⟨q1, q2, q3⟩ := (BX.out.keep hb1).cells
  cases y with
  | false =>
    have hst : Kept (walkOk r n x l ws = false ∧ walkV r n x l ws = -1 ∧ readLen r n x l ws = 0) := ⟨walk_cannot ws (by rw [← HC.out, HYZ.out]; rfl)⟩
    go_wp2
    go_ret
    rw [hst.out.2.2]
    exact ⟨rfl, hB1⟩
  | true =>
    go_wp2_with fail
    refine (HH.out _).mono ?_
    rintro e w2 ⟨rfl, rfl⟩
    cases z with
    | false =>
      have hst : Kept (walkOk r n x l ws = false ∧ walkV r n x l ws = -1 ∧ readLen r n x l ws = 0) := ⟨walk_cannot ws (by rw [← HC.out, HYZ.out]; rfl)⟩
      go_wp2
      go_ret
      rw [hst.out.2.2]
      exact ⟨rfl, hB1⟩
    | true =>
      have hct : c = true := HYZ.out
      subst hct
      go_wp2
      go_loopw [1, 7] (fun v i wr => ∃ (k : Nat) (u : Int), k ≤ ws.length ∧ i = .int .i64 k ∧ v = .int .i64 u ∧ Kept (ReadAt l x ws u k) ∧ Below W.heap.size W wr) (fun _ i _ => ws.length - (intOf i).toNat)
      case atStart => exact ⟨0, x, by omega, rfl, rfl, ⟨ReadAt.start l x ws⟩, hb1⟩
      case round =>
        obtain ⟨k, u, hk, rfl, rfl, hat, hbel⟩ := hrel
        have hBx := hB.trans (hbel.mono hB.size)
        obtain ⟨q1, q2, q3⟩ := (BX.out.keep hbel).cells
        by_cases hlt : k < ws.length
        · have e1 := (hBx.cell (p := ⟨bw, offw + k, none⟩) hbw).trans (HCW.out k hlt)
          have hkl : (k : Int) < (ws.length : Int) := by omega
          have ha := HRW.out _ (List.getElem_mem hlt)
          obtain ⟨a, hae⟩ : ∃ a, a = ws[k] := ⟨_, rfl⟩
          obtain ⟨s, hs⟩ : ∃ s, s = nextV l u a := ⟨_, rfl⟩
          have hstop : s < 0 → Kept (readLen r n x l ws = (k : Int)) := fun hneg0 => by
            have hneg : nextV l u ws[k] < 0 := by rw [← hae, ← hs]; exact hneg0
            exact ⟨(readLen_yes HC.out.symm).trans (by rw [(hat.out.stop hlt hneg).1])⟩
          have hgo : 0 ≤ s → Kept (ReadAt l x ws s (k + 1)) := fun hneg0 => by
            have hneg : ¬ nextV l u ws[k] < 0 := by rw [← hae, ← hs]; omega
            have := hat.out.go hlt hneg
            rw [← hae, ← hs] at this
            exact ⟨this⟩
          rw [← hae] at e1 ha
          have hdr : Below W.heap.size W wr.drew := hbel.drew
          have hn1 := HNX.out HY.out.symm u a ha wr.drew (hB.trans (hdr.mono hB.size))
          rw [← hs] at hn1
          have HN1 := Lib.hid hn1
          have HST := Lib.hid hstop
          have HGO := Lib.hid hgo
          clear hae hs hstop hgo ha hn1
          go_wp2
          go_region_law (go_simp; go_at_call 11; refine (HN1.out).mono ?_; rintro e w2 ⟨rfl, hb⟩)
          all_goals
            have hb9 := hdr.trans (hb.mono hdr.size)
            by_cases hneg : s < 0
            · have hst := HST.out hneg
              go_wp2
              go_ret
              rw [hst.out]
              exact ⟨rfl, hB.trans (hb9.mono hB.size)⟩
            · have hst := HGO.out (by omega)
              go_wp2
              go_roundw
              case rel => exact ⟨k + 1, s, by omega, by go_num, rfl, hst, hb9⟩
              case measure => simp [intOf]; omega
        · obtain rfl : k = ws.length := by omega
          have hst : Kept (readLen r n x l ws = (ws.length : Int)) := ⟨(readLen_yes HC.out.symm).trans (by rw [hat.out.all.1])⟩
          go_wp2
          go_ret
          rw [hst.out]
          exact ⟨rfl, hBx⟩
end Go.Proofs.Ytpebiacdkfpnpaa
