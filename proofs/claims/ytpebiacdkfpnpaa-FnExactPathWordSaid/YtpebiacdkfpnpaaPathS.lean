/- Contract of the reference's PathWord. Conditions: at most 2^20 edges. -/
import Derived.Test.YtpebiacdkfpnpaaSearch
namespace Go.Proofs.Ytpebiacdkfpnpaa
open Go.RowKit

set_option maxRecDepth 20000 in
set_option maxHeartbeats 3200000 in
theorem pathWordS_any (r n u v : Int) (V : Value) (l : List Ed) (w : World) (h : Edges w V l) (hn : l.length ≤ 1048576) :
    Calls Try.prog 30 #[graphV r n V, .int .i64 u, .int .i64 v] w (RetI2 w (pathW r n u v l) (.bool (pathOk r n u v l))) := by
  have hkeep := h
  obtain ⟨A, cap, rfl, _⟩ := h
  obtain ⟨W, hW⟩ : ∃ W, W = w.alloc (.cells #[.int .i64 r, .int .i64 n, .slice A l.length cap] 29 (0, 0)) := ⟨_, rfl⟩
  have hB : Below w.heap.size w W := by rw [hW]; exact (Below.refl _ _).alloc (Nat.le_refl _) _
  have bx1 : Box W w.heap.size (.cells #[.int .i64 r, .int .i64 n, .slice A l.length cap] 29 (0, 0)) := by rw [hW]; exact Box.new _ _
  obtain ⟨m, hm⟩ : ∃ m, wrap64 (n - 1) = m := ⟨_, rfl⟩
  obtain ⟨y, hy⟩ : ∃ y, y = isFold r n l := ⟨_, rfl⟩
  obtain ⟨z, hz⟩ : ∃ z, z = inV n u := ⟨_, rfl⟩
  obtain ⟨z2, hz2⟩ : ∃ z, z = inV n v := ⟨_, rfl⟩
  obtain ⟨c, hc⟩ : ∃ c, c = canPath r n u v l := ⟨_, rfl⟩
  have hyz : c = (y && (z && z2)) := by rw [hc, hy, hz, hz2]; rfl
  have hq := isFoldedS_any r n _ l W (hkeep.keep hB) hn
  have hh := fun W => l1In_any u 0 m W
  have hh2 := fun W => l1In_any v 0 m W
  rw [← hy] at hq
  rw [show decide (0 ≤ u ∧ u ≤ m) = inV n u by rw [inV, hm], ← hz] at hh
  rw [show decide (0 ≤ v ∧ v ≤ m) = inV n v by rw [inV, hm], ← hz2] at hh2
  have hnil : ∀ X : World, w.heap.size ≤ X.heap.size → OwnI (X.alloc (.cells #[] 3 (0, 0))) w.heap.size (.slice (some ⟨X.heap.size, 0, none⟩) 0 0) [] := fun X hX => ⟨_, _, rfl, World.ownsRow_made _ _ _ hX (by decide) rfl, by simp⟩
  have HW := Lib.hid hW
  have BX := Lib.hid bx1
  have HQ := Lib.hid hq
  have HH := Lib.hid hh
  have HH2 := Lib.hid hh2
  have HY := Lib.hid hy
  have HZ := Lib.hid hz
  have HZ2 := Lib.hid hz2
  have HC := Lib.hid hc
  have HYZ := Lib.hid hyz
  have HNIL := Lib.hid hnil
  clear hW bx1 hq hh hh2 hy hz hz2 hc hyz hnil
  go_enter Try.func30, Try.ntmps30
  go_wp2_with fail
  rw [← HW.out]
  refine (HQ.out).mono ?_
  rintro e w1 ⟨rfl, hb1⟩
  have hB1 := hB.trans (hb1.mono hB.size)
  obtain ⟨q1, q2, q3⟩ := (BX.out.keep hb1).cells
  cases y with
  | false =>
    have hst : Kept (pathOk r n u v l = false ∧ pathW r n u v l = []) := ⟨path_cannot (by rw [← HC.out, HYZ.out]; rfl)⟩
    go_wp2
    go_ret2
    rw [hst.out.1, hst.out.2]
    exact ⟨_, rfl, HNIL.out _ hB1.size, hB1.alloc hB1.size _⟩
  | true =>
    go_wp2_with fail
    refine (HH.out _).mono ?_
    rintro e w2 ⟨rfl, rfl⟩
    cases z with
    | false =>
      have hst : Kept (pathOk r n u v l = false ∧ pathW r n u v l = []) := ⟨path_cannot (by rw [← HC.out, HYZ.out]; rfl)⟩
      go_wp2
      go_ret2
      rw [hst.out.1, hst.out.2]
      exact ⟨_, rfl, HNIL.out _ hB1.size, hB1.alloc hB1.size _⟩
    | true =>
      go_wp2_with fail
      refine (HH2.out _).mono ?_
      rintro e w3 ⟨rfl, rfl⟩
      cases z2 with
      | false =>
        have hst : Kept (pathOk r n u v l = false ∧ pathW r n u v l = []) := ⟨path_cannot (by rw [← HC.out, HYZ.out]; rfl)⟩
        go_wp2
        go_ret2
        rw [hst.out.1, hst.out.2]
        exact ⟨_, rfl, HNIL.out _ hB1.size, hB1.alloc hB1.size _⟩
      | true =>
        have hct : c = true := HYZ.out
        subst hct
        have hG := isFold_g HY.out.symm
        obtain ⟨g1, g2, g3, g4⟩ := isG_all hG
        have hu := (inV_iff g2).1 HZ.out.symm
        have hv := (inV_iff g2).1 HZ2.out.symm
        have hpf := pathF_ok hG hu
        obtain ⟨R, rfl⟩ := Int.eq_ofNat_of_zero_le (show 0 ≤ r by omega)
        obtain ⟨N, rfl⟩ := Int.eq_ofNat_of_zero_le (show 0 ≤ n by omega)
        obtain ⟨U, rfl⟩ := Int.eq_ofNat_of_zero_le hu.1
        obtain ⟨T, rfl⟩ := Int.eq_ofNat_of_zero_le hv.1
        have htr := l5Search_any R N U _ l w1 (hkeep.keep hB1) hG (by omega)
        obtain ⟨s, hs⟩ : ∃ s, s = bfsF l R U N := ⟨_, rfl⟩
        have hsp : pathF (R : Int) (N : Int) (U : Int) l = s := by rw [hs]; rfl
        rw [hsp] at hpf
        rw [← hs] at htr
        have hlen := hpf.len
        rw [Int.toNat_natCast] at hlen
        obtain ⟨hTl, hTe⟩ := wordAt_get (s := s) (t := T) hlen (by omega)
        have hTI : (T : Int) < (s.2.length : Int) := by omega
        have hshort : ∀ lw, s.2[T] = some lw → lw.length ≤ 1000 := fun lw h => by
          have h1 := hpf.wl T lw (by rw [List.getD_eq_getElem?_getD, List.getElem?_eq_getElem hTl, h]; rfl)
          have h2 := hpf.le
          simp only [Int.toNat_natCast] at h2
          omega
        have HTR := Lib.hid htr
        have HTE := Lib.hid hTe
        have HSP := Lib.hid hsp
        have HSH := Lib.hid hshort
        clear g1 g2 g3 g4 hu hv hpf htr hs hsp hlen hTe hG hshort
        go_wp2_with fail
        refine (HTR.out).mono ?_
        rintro e w4 ⟨g, go, gs, rfl, hoo, hsn, hb4⟩
        have hB4 := hB1.trans (hb4.mono hB1.size)
        have b1 := hsn.cellAt T (by omega)
        rw [boolsV_get (by rw [foundB_len]; omega), foundB_get hTl] at b1
        cases hcs : s.2[T] with
        | none =>
          have hst : Kept (pathOk (R : Int) (N : Int) (U : Int) (T : Int) l = false ∧ pathW (R : Int) (N : Int) (U : Int) (T : Int) l = []) := ⟨path_none (by rw [HSP.out, HTE.out, hcs])⟩
          rw [hcs] at b1
          simp only [Option.isSome_none] at b1
          clear hcs
          go_wp2
          go_ret2
          rw [hst.out.1, hst.out.2]
          exact ⟨_, rfl, HNIL.out _ hB4.size, hB4.alloc hB4.size _⟩
        | some lw =>
          have hst : Kept (pathOk (R : Int) (N : Int) (U : Int) (T : Int) l = true ∧ pathW (R : Int) (N : Int) (U : Int) (T : Int) l = lw) := ⟨path_some HC.out.symm (by rw [HSP.out, HTE.out, hcs])⟩
          rw [hcs] at b1
          simp only [Option.isSome_some] at b1
          have hlw := HSH.out lw hcs
          obtain ⟨gi, ci, d1, d2, _, _⟩ := hoo.some_ hTl hcs
          have hgi : g < w4.heap.size := by obtain ⟨vs, ho⟩ := hoo.row; exact (ownsRow_parts ho).2.1
          have hal : Below w4.heap.size w4 (w4.alloc (.cells #[] 3 (0, 0))) := (Below.refl _ _).alloc (Nat.le_refl _) _
          have e1 := (hal.cell (p := ⟨g, T, none⟩) hgi).trans d1
          have hnews := (d2.ints.keep hal).news
          have hI := d2.ints.range
          have HI := Lib.hid hI
          clear hcs hI
          go_wp2_with (at_builtin; refine wpl_app elemI rfl (.tmp 42) (.tmp 46) rfl rfl (World.ownsRow_made _ _ _ (Nat.le_refl _) (by decide) rfl) rfl (by simp [intsV]) hnews (intsV_one _) (by omega) ?_; intro g1 c1 w5 hown1 hgrow1 hat1; simp only [Nat.zero_add, List.nil_append] at hown1; have hb5 := below_push (Below.refl _ _) hgrow1 (Nat.le_refl _) (Nat.le_refl _))
          go_ret2
          rw [hst.out.1, hst.out.2]
          exact ⟨_, rfl, ⟨g1, c1, rfl, ownsRow_base hown1 hB4.size, HI.out⟩, hB4.trans (hb5.mono hB4.size)⟩
end Go.Proofs.Ytpebiacdkfpnpaa
