/- Contract of the program's PathWord. Conditions: at most 2^20 edges. -/
import Derived.Test.YtpebiacdkfpnpaaTree
namespace Go.Proofs.Ytpebiacdkfpnpaa
open Go.RowKit

def canPath (r n u v : Int) (l : List Ed) : Bool := isFold r n l && (inV n u && inV n v)
def pathF (r n u : Int) (l : List Ed) : Bfs := bfsF l r.toNat u n.toNat
def pathOk (r n u v : Int) (l : List Ed) : Bool := canPath r n u v l && (wordAt (pathF r n u l) v).isSome
def pathW (r n u v : Int) (l : List Ed) : List Int := match pathOk r n u v l with
  | true => (wordAt (pathF r n u l) v).getD []
  | false => []
theorem path_cannot {r n u v : Int} {l : List Ed} (h : canPath r n u v l = false) : pathOk r n u v l = false ∧ pathW r n u v l = [] := by
  have : pathOk r n u v l = false := by rw [pathOk, h, Bool.false_and]
  exact ⟨this, by simp only [pathW, this]⟩
theorem path_none {r n u v : Int} {l : List Ed} (h : wordAt (pathF r n u l) v = none) : pathOk r n u v l = false ∧ pathW r n u v l = [] := by
  have : pathOk r n u v l = false := by rw [pathOk, h]; simp
  exact ⟨this, by simp only [pathW, this]⟩
theorem path_some {r n u v : Int} {l : List Ed} {ws : List Int} (h0 : canPath r n u v l = true) (h : wordAt (pathF r n u l) v = some ws) : pathOk r n u v l = true ∧ pathW r n u v l = ws := by
  have : pathOk r n u v l = true := by rw [pathOk, h0, h]; rfl
  exact ⟨this, by simp only [pathW, this, h, Option.getD_some]⟩
/-- The search in a graph, from one of its vertices. -/
theorem pathF_ok {r n u : Int} {l : List Ed} (hG : isG r n l = true) (hu : 0 ≤ u ∧ u < n) : BfsOk n.toNat (pathF r n u l) := by
  obtain ⟨h1, h2, _, _⟩ := isG_all hG
  obtain ⟨N, rfl⟩ := Int.eq_ofNat_of_zero_le (show 0 ≤ n by omega)
  rw [pathF, Int.toNat_natCast]
  exact bfs_ok (by omega) hu.1 (by omega) (nextV_rng hG) N
theorem pathW_short (r n u v : Int) (l : List Ed) : (pathW r n u v l).length ≤ 40 := by
  cases hp : pathOk r n u v l with
  | false => simp only [pathW, hp]; simp
  | true =>
    rw [pathOk, Bool.and_eq_true] at hp
    have hc := hp.1
    rw [canPath, Bool.and_eq_true, Bool.and_eq_true] at hc
    have hG := isFold_g hc.1
    have h2 := (isG_all hG).2.1
    have hu := (inV_iff h2).1 hc.2.1
    have hok := pathF_ok hG hu
    obtain ⟨ws, hw⟩ := Option.isSome_iff_exists.1 hp.2
    rw [(path_some (by rw [canPath, hc.1, hc.2.1, hc.2.2]; rfl) hw).2]
    have h3 := (hok.wl _ _ hw).1
    have h4 := hok.le
    omega
set_option maxRecDepth 20000 in
set_option maxHeartbeats 3200000 in
theorem pathWord_any (r n u v : Int) (V : Value) (l : List Ed) (w : World) (h : Edges w V l) (hn : l.length ≤ 1048576) :
    Calls Try.prog 31 #[graphV r n V, .int .i64 u, .int .i64 v] w (RetI2 w (pathW r n u v l) (.bool (pathOk r n u v l))) := by
  have hkeep := h
  obtain ⟨A, cap, rfl, _⟩ := h
  obtain ⟨W, hW⟩ : ∃ W, W = w.alloc (.cells #[.int .i64 r, .int .i64 n, .slice A l.length cap] 29 (0, 0)) := ⟨_, rfl⟩
  have hB : Below w.heap.size w W := by rw [hW]; exact (Below.refl _ _).alloc (Nat.le_refl _) _
  have bx1 : Box W w.heap.size (.cells #[.int .i64 r, .int .i64 n, .slice A l.length cap] 29 (0, 0)) := by rw [hW]; exact Box.new _ _
  obtain ⟨y, hy⟩ : ∃ y, y = isFold r n l := ⟨_, rfl⟩
  obtain ⟨z, hz⟩ : ∃ z, z = inV n u := ⟨_, rfl⟩
  obtain ⟨z2, hz2⟩ : ∃ z, z = inV n v := ⟨_, rfl⟩
  obtain ⟨c, hc⟩ : ∃ c, c = canPath r n u v l := ⟨_, rfl⟩
  have hyz : c = (y && (z && z2)) := by rw [hc, hy, hz, hz2]; rfl
  have hq := isFolded_any r n _ l W (hkeep.keep hB) hn
  have hh := fun W => has_any r n u A l.length cap W
  have hh2 := fun W => has_any r n v A l.length cap W
  rw [← hy] at hq
  rw [← hz] at hh
  rw [← hz2] at hh2
  have hnil : ∀ X : World, w.heap.size ≤ X.heap.size → OwnI (X.alloc (.cells #[] 3 (0, 0))) w.heap.size (.slice (some ⟨X.heap.size, 0, none⟩) 0 0) [] := fun X hX => ⟨_, _, rfl, World.ownsRow_made _ _ _ hX (by decide) rfl, by simp⟩
  have HW := Lib.hid hW
  have BX := Lib.hid bx1
  have HQ := Lib.hid hq
  have HH := Lib.hid hh
  have HH2 := Lib.hid hh2
  have HY := Lib.hid hy
  have HZ := Lib.hid hz
  have HZ2 := Lib.hid hz2
  have HC := Lib.hid hc
  have HYZ := Lib.hid hyz
  have HNIL := Lib.hid hnil
  clear hW bx1 hq hh hh2 hy hz hz2 hc hyz hnil
  go_enter Try.func31, Try.ntmps31
  go_wp2_with fail
  rw [← HW.out]
  refine (HQ.out).mono ?_
  rintro e w1 ⟨rfl, hb1⟩
  have hB1 := hB.trans (hb1.mono hB.size)
  obtain ⟨q1, q2, q3⟩ := (BX.out.keep hb1).cells
  cases y with
  | false =>
    have hst : Kept (pathOk r n u v l = false ∧ pathW r n u v l = []) := ⟨path_cannot (by rw [← HC.out, HYZ.out]; rfl)⟩
    go_wp2
    go_ret2
    rw [hst.out.1, hst.out.2]
    exact ⟨_, rfl, HNIL.out _ hB1.size, hB1.alloc hB1.size _⟩
  | true =>
    go_wp2_with fail
    refine (HH.out _).mono ?_
    rintro e w2 ⟨rfl, hb2⟩
    have hb12 := hb1.trans (hb2.mono hb1.size)
    have hB2 := hB1.trans (hb2.mono hB1.size)
    clear q1 q2 q3
    obtain ⟨q1, q2, q3⟩ := (BX.out.keep hb12).cells
    cases z with
    | false =>
      have hst : Kept (pathOk r n u v l = false ∧ pathW r n u v l = []) := ⟨path_cannot (by rw [← HC.out, HYZ.out]; rfl)⟩
      go_wp2
      go_ret2
      rw [hst.out.1, hst.out.2]
      exact ⟨_, rfl, HNIL.out _ hB2.size, hB2.alloc hB2.size _⟩
    | true =>
      go_wp2_with fail
      refine (HH2.out _).mono ?_
      rintro e w3 ⟨rfl, hb3⟩
      have hb13 := hb12.trans (hb3.mono hb12.size)
      have hB3 := hB2.trans (hb3.mono hB2.size)
      clear q1 q2 q3
      obtain ⟨q1, q2, q3⟩ := (BX.out.keep hb13).cells
      cases z2 with
      | false =>
        have hst : Kept (pathOk r n u v l = false ∧ pathW r n u v l = []) := ⟨path_cannot (by rw [← HC.out, HYZ.out]; rfl)⟩
        go_wp2
        go_ret2
        rw [hst.out.1, hst.out.2]
        exact ⟨_, rfl, HNIL.out _ hB3.size, hB3.alloc hB3.size _⟩
      | true =>
        have hct : c = true := HYZ.out
        subst hct
        have hG := isFold_g HY.out.symm
        obtain ⟨g1, g2, g3, g4⟩ := isG_all hG
        have hu := (inV_iff g2).1 HZ.out.symm
        have hv := (inV_iff g2).1 HZ2.out.symm
        have hpf := pathF_ok hG hu
        obtain ⟨R, rfl⟩ := Int.eq_ofNat_of_zero_le (show 0 ≤ r by omega)
        obtain ⟨N, rfl⟩ := Int.eq_ofNat_of_zero_le (show 0 ≤ n by omega)
        obtain ⟨U, rfl⟩ := Int.eq_ofNat_of_zero_le hu.1
        obtain ⟨T, rfl⟩ := Int.eq_ofNat_of_zero_le hv.1
        have htr := tree_any R N U _ l w3 (hkeep.keep hB3) hG (by omega)
        obtain ⟨s, hs⟩ : ∃ s, s = bfsF l R U N := ⟨_, rfl⟩
        have hsp : pathF (R : Int) (N : Int) (U : Int) l = s := by rw [hs]; rfl
        rw [hsp] at hpf
        rw [← hs] at htr
        have hlen := hpf.len
        rw [Int.toNat_natCast] at hlen
        obtain ⟨hTl, hTe⟩ := wordAt_get (s := s) (t := T) hlen (by omega)
        have hTI : (T : Int) < (s.2.length : Int) := by omega
        have HTR := Lib.hid htr
        have HTE := Lib.hid hTe
        have HSP := Lib.hid hsp
        clear g1 g2 g3 g4 hu hv hpf htr hs hsp hlen hTe hG
        go_wp2_with fail
        refine (HTR.out).mono ?_
        rintro e w4 ⟨g, go, c4, rfl, hoo, hb4⟩
        have hB4 := hB3.trans (hb4.mono hB3.size)
        cases hcs : s.2[T] with
        | none =>
          have hst : Kept (pathOk (R : Int) (N : Int) (U : Int) (T : Int) l = false ∧ pathW (R : Int) (N : Int) (U : Int) (T : Int) l = []) := ⟨path_none (by rw [HSP.out, HTE.out, hcs])⟩
          have d1 := hoo.none_ hTl hcs
          have n1 := eql_nil_yes w4
          clear hcs
          go_wp2
          go_ret2
          rw [hst.out.1, hst.out.2]
          exact ⟨_, rfl, HNIL.out _ hB4.size, hB4.alloc hB4.size _⟩
        | some lw =>
          have hst : Kept (pathOk (R : Int) (N : Int) (U : Int) (T : Int) l = true ∧ pathW (R : Int) (N : Int) (U : Int) (T : Int) l = lw) := ⟨path_some HC.out.symm (by rw [HSP.out, HTE.out, hcs])⟩
          obtain ⟨gi, ci, d1, d2, _, _⟩ := hoo.some_ hTl hcs
          have n1 := eql_nil_no ⟨gi, 0, none⟩ lw.length ci w4
          clear hcs
          go_wp2
          go_ret2
          rw [hst.out.1, hst.out.2]
          exact ⟨_, rfl, d2.base hB3.size, hB4⟩
end Go.Proofs.Ytpebiacdkfpnpaa
