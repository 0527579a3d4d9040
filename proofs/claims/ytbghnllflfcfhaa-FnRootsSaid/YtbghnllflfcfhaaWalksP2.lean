/- The walk of the law FnRoots. Conditions: none. -/
import Derived.Test.YtbghnllflfcfhaaDrawZ
import Derived.Test.YtbghnllflfcfhaaCycE
import Derived.Test.YtbghnllflfcfhaaWordC
import Derived.Test.YtbghnllflfcfhaaFreeC
namespace Go.Proofs.Ytbghnllflfcfhaa
open Go.RowKit

theorem sameInts_ne (v1 v2 : Value) (l1 l2 : List Int) (w : World) (h1 : Ints w v1 l1) (h2 : Ints w v2 l2) (hn : l1.length ≤ 134217728) (he : l1 ≠ l2) :
    Calls Try.prog 19 #[v1, v2] w (RetV w (.bool false)) := by
  have h := sameInts_any v1 v2 l1 l2 w h1 h2 hn
  have e : eqL l1 l2 = false := by simpa [eqL] using he
  rwa [e] at h
theorem doCommI_is (v1 v2 : Value) (l1 l2 : List Int) (B : Bool) (w : World) (h1 : Ints w v1 l1) (h2 : Ints w v2 l2) (n1 : l1.length ≤ 16777216) (n2 : l2.length ≤ 16777216) (hB : Kept (B = eqL (red (l1 ++ l2)) (red (l2 ++ l1)))) :
    Calls Try.prog 41 #[v1, v2] w (RetV w (.bool B)) := by
  rw [hB.out]; exact doCommute_any _ _ _ _ _ h1 h2 n1 n2
theorem doCommS_is (v1 v2 : Value) (l1 l2 : List Int) (B : Bool) (w : World) (h1 : Ints w v1 l1) (h2 : Ints w v2 l2) (n1 : l1.length ≤ 16777216) (n2 : l2.length ≤ 16777216) (hB : Kept (B = eqL (red (l1 ++ l2)) (red (l2 ++ l1)))) :
    Calls Try.prog 42 #[v1, v2] w (RetV w (.bool B)) := by
  rw [hB.out]; exact doCommuteS_any _ _ _ _ _ h1 h2 n1 n2
theorem comm_cases {la lb lx ly : List Int} {B : Bool} (hx : Kept (lx = red la)) (hy : Kept (ly = red lb)) (gx : Good lx) (gy : Good ly) (rx : Reduced lx) (ry : Reduced ly) (hB : Kept (B = eqL (red (la ++ lb)) (red (lb ++ la)))) :
    (lx = [] ∧ B = true) ∨ (((lx.length : Int) == 0) = false ∧ ly = [] ∧ B = true) ∨ (((lx.length : Int) == 0) = false ∧ ((ly.length : Int) == 0) = false ∧ rootW lx = rootW ly ∧ B = true) ∨
    (((lx.length : Int) == 0) = false ∧ ((ly.length : Int) == 0) = false ∧ rootW lx ≠ rootW ly ∧ rootW lx = invW (rootW ly) ∧ B = true) ∨ (((lx.length : Int) == 0) = false ∧ ((ly.length : Int) == 0) = false ∧ rootW lx ≠ rootW ly ∧ rootW lx ≠ invW (rootW ly) ∧ B = false) := by
  have hb : B = eqL (red (lx ++ ly)) (red (ly ++ lx)) := by
    rw [hB.out, hx.out, hy.out, red_red_append, red_append_red, red_red_append, red_append_red]
  clear hB hx hy
  by_cases h1 : lx = []
  · subst h1; left; exact ⟨rfl, by rw [hb]; simp [eqL]⟩
  have h1' : ((lx.length : Int) == 0) = false := by simpa using h1
  by_cases h2 : ly = []
  · subst h2; right; left; exact ⟨h1', rfl, by rw [hb]; simp [eqL]⟩
  have h2' : ((ly.length : Int) == 0) = false := by simpa using h2
  have hc := comm_root gx gy rx ry h1 h2
  by_cases e1 : rootW lx = rootW ly
  · right; right; left; exact ⟨h1', h2', e1, by rw [hb]; simpa [eqL] using hc.2 (.inl e1)⟩
  by_cases e2 : rootW lx = invW (rootW ly)
  · right; right; right; left; exact ⟨h1', h2', e1, e2, by rw [hb]; simpa [eqL] using hc.2 (.inr e2)⟩
  right; right; right; right
  refine ⟨h1', h2', e1, e2, ?_⟩
  rw [hb]
  have : ¬ red (lx ++ ly) = red (ly ++ lx) := fun h => (hc.1 h).elim e1 e2
  simpa [eqL] using this
theorem root_cases {lx : List Int} (gx : Good lx) (rx : Reduced lx) (nx : lx.length ≤ 4000) : ∃ (rW : List Int) (N : Nat), rW.length ≤ 3 * lx.length ∧
    Kept (∀ W v, Ints W v lx → Calls Try.prog 37 #[v] W (RetI2 W rW (.int .i64 N))) ∧ Kept (∀ W v, Ints W v lx → Calls Try.prog 38 #[v] W (RetI2 W rW (.int .i64 N))) ∧
    Kept (∀ W v, Ints W v lx → Calls Try.prog 39 #[v] W (RetV W (.bool (decide ((1 : Int) < (N : Int)))))) ∧ Kept (1 ≤ N → ∀ W v, Ints W v rW → Calls Try.prog 39 #[v] W (RetV W (.bool false))) ∧
    (N = 0 ∨ (1 ≤ N ∧ N ≤ 24 ∧ powW rW (N : Int) = lx) ∨ (1 ≤ N ∧ 24 < N)) := by
  refine ⟨rootW lx, rootN lx, rootW_length lx, ⟨fun W v h => rootOf_any v lx W h (by omega)⟩, ⟨fun W v h => rootOfS_any v lx W h (by omega)⟩, ⟨fun W v h => isProperPower_any v lx W h (by omega)⟩, ⟨fun h1 W v h => ?_⟩, ?_⟩
  · have hn : lx ≠ [] := fun e => by rw [e, root_nil.2] at h1; omega
    have h2 := isProperPower_any v _ W h (by have := rootW_length lx; omega)
    rw [(root_law gx rx hn).2.1] at h2
    simpa using h2
  · by_cases hn : lx = []
    · left; rw [hn]; exact root_nil.2
    obtain ⟨h1, h2, h3⟩ := root_law gx rx hn
    right
    by_cases h : rootN lx ≤ 24
    · left; exact ⟨h3, h, by rw [powW_nat h]; exact h1⟩
    · right; exact ⟨h3, by omega⟩

set_option maxHeartbeats 3200000 in
theorem walkFnRoots (w : World) (A : Option Addr) (len cap : Nat) (zs : List Int) (hz : IsRow .u8 w A len cap zs) :
    Calls Try.prog 5 #[.slice A len cap] w fun e w' => e = .returned (.bool true) ∧ Below w.heap.size w w' := by
  by_cases c0 : (len : Int) ≤ 1048576
  case neg =>
    go_enter Try.func5, Try.ntmps5
    go_wp2_with fail
    refine (big_over A len cap _ (by omega)).mono ?_
    rintro e w1 ⟨rfl, hb⟩
    go_wp2
    go_ret
    exact ⟨rfl, hb⟩
  have hl : len ≤ 1048576 := by omega
  have hC := codeArg_of_row hz
  have hcap := row_cap hz
  have hB := Below.refl w.heap.size w
  clear hz
  go_enter Try.func5, Try.ntmps5
  go_wp2_with fail
  refine (big_fits A len cap _ c0).mono ?_
  rintro e w1 ⟨rfl, hb⟩
  replace hC := hC.keep hb
  replace hB := hB.trans (hb.mono hB.size)
  clear hb
  go_wp2_with fail
  refine (drawRootOf_any A len cap _ hC hl).mono ?_
  rintro e w2 ⟨va, la, rfl, oa, fa, hb⟩
  replace hC := hC.keep hb
  replace hB := hB.trans (hb.mono hB.size)
  clear hb
  have Ia := oa.ints
  have na := fa.len
  clear oa
  go_wp2_with fail
  refine (reduceLettersS_any _ _ _ Ia (by omega)).mono ?_
  rintro e w3 ⟨vx, rfl, ox, hb⟩
  replace hC := hC.keep hb
  replace Ia := Ia.keep hb
  replace hB := hB.trans (hb.mono hB.size)
  clear hb
  have Ix := ox.ints
  clear ox
  clear Ia
  obtain ⟨lx, hx⟩ : ∃ R, R = red la := ⟨_, rfl⟩
  have gx : Good lx := by rw [hx]; exact fa.good.red
  have rx : Reduced lx := by rw [hx]; exact red_reduced _
  have nx : lx.length ≤ 100 := by rw [hx]; have := red_length la; omega
  rw [← hx] at Ix
  clear hx fa na
  obtain ⟨rW, N, nrW, CI, CS, CP, CQ, hcs⟩ := root_cases gx rx (by omega)
  clear gx rx
  rcases hcs with rfl | ⟨h1, h24, hpw⟩ | ⟨h1, h24⟩
  · go_wp2_with fail
    refine (CI.out _ _ Ix).mono ?_
    rintro e w4 ⟨vr, rfl, or, hb⟩
    replace hC := hC.keep hb
    replace Ix := Ix.keep hb
    replace hB := hB.trans (hb.mono hB.size)
    clear hb
    have Ir := or.ints
    clear or
    go_wp2_with fail
    refine (CS.out _ _ Ix).mono ?_
    rintro e w5 ⟨vs, rfl, os, hb⟩
    replace hC := hC.keep hb
    replace Ix := Ix.keep hb
    replace Ir := Ir.keep hb
    replace hB := hB.trans (hb.mono hB.size)
    clear hb
    have Is := os.ints
    clear os
    go_wp2_with fail
    refine (sameInts_eq _ _ _ _ _ Ir Is (by omega) rfl).mono ?_
    rintro e w6 ⟨rfl, hb⟩
    replace hC := hC.keep hb
    replace Ix := Ix.keep hb
    replace Ir := Ir.keep hb
    replace Is := Is.keep hb
    replace hB := hB.trans (hb.mono hB.size)
    clear hb
    clear Ir
    clear Is
    go_wp2_with fail
    refine (CP.out _ _ Ix).mono ?_
    rintro e w7 ⟨rfl, hb⟩
    replace hC := hC.keep hb
    replace Ix := Ix.keep hb
    replace hB := hB.trans (hb.mono hB.size)
    clear hb
    clear Ix nx nrW CI CS CP CQ
    go_wp2_with fail
    refine (drawDoCommute_any A len cap _ hC hl).mono ?_
    rintro e w8 ⟨va, la, vb, lb, rfl, oa, ob, fa, fb, hb⟩
    replace hC := hC.keep hb
    replace hB := hB.trans (hb.mono hB.size)
    clear hb
    have Ia := oa.ints
    have Ib := ob.ints
    have na := fa.len
    have nb := fb.len
    clear oa ob
    obtain ⟨B, hB2⟩ : ∃ B, B = eqL (red (la ++ lb)) (red (lb ++ la)) := ⟨_, rfl⟩
    have HB : Kept (B = eqL (red (la ++ lb)) (red (lb ++ la))) := ⟨hB2⟩
    clear hB2
    go_wp2_with fail
    refine (doCommI_is _ _ _ _ _ _ Ia Ib (by omega) (by omega) HB).mono ?_
    rintro e w9 ⟨rfl, hb⟩
    replace hC := hC.keep hb
    replace Ia := Ia.keep hb
    replace Ib := Ib.keep hb
    replace hB := hB.trans (hb.mono hB.size)
    clear hb
    go_wp2_with fail
    refine (doCommS_is _ _ _ _ _ _ Ia Ib (by omega) (by omega) HB).mono ?_
    rintro e w10 ⟨rfl, hb⟩
    replace hC := hC.keep hb
    replace Ia := Ia.keep hb
    replace Ib := Ib.keep hb
    replace hB := hB.trans (hb.mono hB.size)
    clear hb
    go_wp2_with fail
    refine (reduceLettersS_any _ _ _ Ia (by omega)).mono ?_
    rintro e w11 ⟨vx, rfl, ox, hb⟩
    replace hC := hC.keep hb
    replace Ia := Ia.keep hb
    replace Ib := Ib.keep hb
    replace hB := hB.trans (hb.mono hB.size)
    clear hb
    have Ix := ox.ints
    clear ox
    obtain ⟨lx, hx⟩ : ∃ R, R = red la := ⟨_, rfl⟩
    have gx : Good lx := by rw [hx]; exact fa.good.red
    have rx : Reduced lx := by rw [hx]; exact red_reduced _
    have nx : lx.length ≤ 7200 := by rw [hx]; have := red_length la; omega
    rw [← hx] at Ix
    have Hx : Kept (lx = red la) := ⟨hx⟩
    clear hx
    go_wp2_with fail
    refine (reduceLettersS_any _ _ _ Ib (by omega)).mono ?_
    rintro e w12 ⟨vy, rfl, oy, hb⟩
    replace hC := hC.keep hb
    replace Ia := Ia.keep hb
    replace Ib := Ib.keep hb
    replace Ix := Ix.keep hb
    replace hB := hB.trans (hb.mono hB.size)
    clear hb
    have Iy := oy.ints
    clear oy
    obtain ⟨ly, hy⟩ : ∃ R, R = red lb := ⟨_, rfl⟩
    have gy : Good ly := by rw [hy]; exact fb.good.red
    have ry : Reduced ly := by rw [hy]; exact red_reduced _
    have ny : ly.length ≤ 7200 := by rw [hy]; have := red_length lb; omega
    rw [← hy] at Iy
    have Hy : Kept (ly = red lb) := ⟨hy⟩
    clear hy
    have hcs := comm_cases Hx Hy gx gy rx ry HB
    clear HB Hx Hy gx gy rx ry fa fb Ia Ib
    obtain ⟨bx, offx, capx, rfl, _, _⟩ := Ix.form
    obtain ⟨by', offy, capy, rfl, _, _⟩ := Iy.form
    rcases hcs with ⟨rfl, rfl⟩ | ⟨hx, rfl, rfl⟩ | ⟨hx, hy, he, rfl⟩ | ⟨hx, hy, hn, he, rfl⟩ | ⟨hx, hy, hn, he, rfl⟩
    · go_wp2
      go_ret
      exact ⟨rfl, hB⟩
    · go_wp2
      go_ret
      exact ⟨rfl, hB⟩
    · have HE := Lib.hid he
      clear he
      have nr := rootW_length lx
      have ns := rootW_length ly
      go_wp2_with fail
      refine (rootOfS_any _ _ _ Ix (by omega)).mono ?_
      rintro e w13 ⟨vr, rfl, or, hb⟩
      replace hC := hC.keep hb
      replace Ix := Ix.keep hb
      replace Iy := Iy.keep hb
      replace hB := hB.trans (hb.mono hB.size)
      clear hb
      have Ir := or.ints
      clear or
      go_wp2_with fail
      refine (rootOfS_any _ _ _ Iy (by omega)).mono ?_
      rintro e w14 ⟨vs, rfl, os, hb⟩
      replace hC := hC.keep hb
      replace Ix := Ix.keep hb
      replace Iy := Iy.keep hb
      replace Ir := Ir.keep hb
      replace hB := hB.trans (hb.mono hB.size)
      clear hb
      have Is := os.ints
      clear os
      go_wp2_with fail
      refine (sameInts_eq _ _ _ _ _ Ir Is (by omega) HE.out).mono ?_
      rintro e w15 ⟨rfl, hb⟩
      replace hC := hC.keep hb
      replace Ix := Ix.keep hb
      replace Iy := Iy.keep hb
      replace Ir := Ir.keep hb
      replace Is := Is.keep hb
      replace hB := hB.trans (hb.mono hB.size)
      clear hb
      clear Ir
      clear Is
      go_wp2
      go_ret
      exact ⟨rfl, hB⟩
    · have HE := Lib.hid he
      have HN := Lib.hid hn
      clear he hn
      have nr := rootW_length lx
      have ns := rootW_length ly
      go_wp2_with fail
      refine (rootOfS_any _ _ _ Ix (by omega)).mono ?_
      rintro e w13 ⟨vr, rfl, or, hb⟩
      replace hC := hC.keep hb
      replace Ix := Ix.keep hb
      replace Iy := Iy.keep hb
      replace hB := hB.trans (hb.mono hB.size)
      clear hb
      have Ir := or.ints
      clear or
      go_wp2_with fail
      refine (rootOfS_any _ _ _ Iy (by omega)).mono ?_
      rintro e w14 ⟨vs, rfl, os, hb⟩
      replace hC := hC.keep hb
      replace Ix := Ix.keep hb
      replace Iy := Iy.keep hb
      replace Ir := Ir.keep hb
      replace hB := hB.trans (hb.mono hB.size)
      clear hb
      have Is := os.ints
      clear os
      go_wp2_with fail
      refine (sameInts_ne _ _ _ _ _ Ir Is (by omega) HN.out).mono ?_
      rintro e w15 ⟨rfl, hb⟩
      replace hC := hC.keep hb
      replace Ix := Ix.keep hb
      replace Iy := Iy.keep hb
      replace Ir := Ir.keep hb
      replace Is := Is.keep hb
      replace hB := hB.trans (hb.mono hB.size)
      clear hb
      go_wp2_with fail
      refine (invertWordS_any _ _ _ Is (by omega)).mono ?_
      rintro e w16 ⟨vt, rfl, ot, hb⟩
      replace hC := hC.keep hb
      replace Ix := Ix.keep hb
      replace Iy := Iy.keep hb
      replace Ir := Ir.keep hb
      replace Is := Is.keep hb
      replace hB := hB.trans (hb.mono hB.size)
      clear hb
      have It := ot.ints
      clear ot
      go_wp2_with fail
      refine (sameInts_eq _ _ _ _ _ Ir It (by omega) HE.out).mono ?_
      rintro e w17 ⟨rfl, hb⟩
      replace hC := hC.keep hb
      replace Ix := Ix.keep hb
      replace Iy := Iy.keep hb
      replace Ir := Ir.keep hb
      replace Is := Is.keep hb
      replace It := It.keep hb
      replace hB := hB.trans (hb.mono hB.size)
      clear hb
      clear Ir
      clear It
      go_wp2
      go_ret
      exact ⟨rfl, hB⟩
    · have HE := Lib.hid he
      have HN := Lib.hid hn
      clear he hn
      have nr := rootW_length lx
      have ns := rootW_length ly
      go_wp2_with fail
      refine (rootOfS_any _ _ _ Ix (by omega)).mono ?_
      rintro e w13 ⟨vr, rfl, or, hb⟩
      replace hC := hC.keep hb
      replace Ix := Ix.keep hb
      replace Iy := Iy.keep hb
      replace hB := hB.trans (hb.mono hB.size)
      clear hb
      have Ir := or.ints
      clear or
      go_wp2_with fail
      refine (rootOfS_any _ _ _ Iy (by omega)).mono ?_
      rintro e w14 ⟨vs, rfl, os, hb⟩
      replace hC := hC.keep hb
      replace Ix := Ix.keep hb
      replace Iy := Iy.keep hb
      replace Ir := Ir.keep hb
      replace hB := hB.trans (hb.mono hB.size)
      clear hb
      have Is := os.ints
      clear os
      go_wp2_with fail
      refine (sameInts_ne _ _ _ _ _ Ir Is (by omega) HN.out).mono ?_
      rintro e w15 ⟨rfl, hb⟩
      replace hC := hC.keep hb
      replace Ix := Ix.keep hb
      replace Iy := Iy.keep hb
      replace Ir := Ir.keep hb
      replace Is := Is.keep hb
      replace hB := hB.trans (hb.mono hB.size)
      clear hb
      go_wp2_with fail
      refine (invertWordS_any _ _ _ Is (by omega)).mono ?_
      rintro e w16 ⟨vt, rfl, ot, hb⟩
      replace hC := hC.keep hb
      replace Ix := Ix.keep hb
      replace Iy := Iy.keep hb
      replace Ir := Ir.keep hb
      replace Is := Is.keep hb
      replace hB := hB.trans (hb.mono hB.size)
      clear hb
      have It := ot.ints
      clear ot
      go_wp2_with fail
      refine (sameInts_ne _ _ _ _ _ Ir It (by omega) HE.out).mono ?_
      rintro e w17 ⟨rfl, hb⟩
      replace hC := hC.keep hb
      replace Ix := Ix.keep hb
      replace Iy := Iy.keep hb
      replace Ir := Ir.keep hb
      replace Is := Is.keep hb
      replace It := It.keep hb
      replace hB := hB.trans (hb.mono hB.size)
      clear hb
      go_wp2
      go_ret
      exact ⟨rfl, hB⟩
  · have h1I : (0 : Int) < (N : Int) := by omega
    have h24I : (N : Int) ≤ 24 := by omega
    have HPW := Lib.hid hpw
    clear hpw
    go_wp2_with fail
    refine (CI.out _ _ Ix).mono ?_
    rintro e w4 ⟨vr, rfl, or, hb⟩
    replace hC := hC.keep hb
    replace Ix := Ix.keep hb
    replace hB := hB.trans (hb.mono hB.size)
    clear hb
    have Ir := or.ints
    clear or
    go_wp2_with fail
    refine (CS.out _ _ Ix).mono ?_
    rintro e w5 ⟨vs, rfl, os, hb⟩
    replace hC := hC.keep hb
    replace Ix := Ix.keep hb
    replace Ir := Ir.keep hb
    replace hB := hB.trans (hb.mono hB.size)
    clear hb
    have Is := os.ints
    clear os
    go_wp2_with fail
    refine (sameInts_eq _ _ _ _ _ Ir Is (by omega) rfl).mono ?_
    rintro e w6 ⟨rfl, hb⟩
    replace hC := hC.keep hb
    replace Ix := Ix.keep hb
    replace Ir := Ir.keep hb
    replace Is := Is.keep hb
    replace hB := hB.trans (hb.mono hB.size)
    clear hb
    go_wp2_with fail
    refine (CP.out _ _ Ix).mono ?_
    rintro e w7 ⟨rfl, hb⟩
    replace hC := hC.keep hb
    replace Ix := Ix.keep hb
    replace Ir := Ir.keep hb
    replace Is := Is.keep hb
    replace hB := hB.trans (hb.mono hB.size)
    clear hb
    go_wp2_with fail
    refine (powerWordS_any _ _ (N : Int) _ Ir (by unfold I64; omega) (by omega)).mono ?_
    rintro e w8 ⟨vy, rfl, oy, hb⟩
    replace hC := hC.keep hb
    replace Ix := Ix.keep hb
    replace Ir := Ir.keep hb
    replace Is := Is.keep hb
    replace hB := hB.trans (hb.mono hB.size)
    clear hb
    have Iy := oy.ints
    clear oy
    go_wp2_with fail
    refine (sameInts_eq _ _ _ _ _ Iy Ix (by rw [HPW.out]; omega) HPW.out).mono ?_
    rintro e w9 ⟨rfl, hb⟩
    replace hC := hC.keep hb
    replace Ix := Ix.keep hb
    replace Ir := Ir.keep hb
    replace Is := Is.keep hb
    replace Iy := Iy.keep hb
    replace hB := hB.trans (hb.mono hB.size)
    clear hb
    clear Iy
    clear Ix
    go_wp2_with fail
    refine (CQ.out h1 _ _ Ir).mono ?_
    rintro e w10 ⟨rfl, hb⟩
    replace hC := hC.keep hb
    replace Ir := Ir.keep hb
    replace Is := Is.keep hb
    replace hB := hB.trans (hb.mono hB.size)
    clear hb
    clear Ir Is nx nrW CI CS CP CQ HPW h1I h24I h24
    go_wp2_with fail
    refine (drawDoCommute_any A len cap _ hC hl).mono ?_
    rintro e w11 ⟨va, la, vb, lb, rfl, oa, ob, fa, fb, hb⟩
    replace hC := hC.keep hb
    replace hB := hB.trans (hb.mono hB.size)
    clear hb
    have Ia := oa.ints
    have Ib := ob.ints
    have na := fa.len
    have nb := fb.len
    clear oa ob
    obtain ⟨B, hB2⟩ : ∃ B, B = eqL (red (la ++ lb)) (red (lb ++ la)) := ⟨_, rfl⟩
    have HB : Kept (B = eqL (red (la ++ lb)) (red (lb ++ la))) := ⟨hB2⟩
    clear hB2
    go_wp2_with fail
    refine (doCommI_is _ _ _ _ _ _ Ia Ib (by omega) (by omega) HB).mono ?_
    rintro e w12 ⟨rfl, hb⟩
    replace hC := hC.keep hb
    replace Ia := Ia.keep hb
    replace Ib := Ib.keep hb
    replace hB := hB.trans (hb.mono hB.size)
    clear hb
    go_wp2_with fail
    refine (doCommS_is _ _ _ _ _ _ Ia Ib (by omega) (by omega) HB).mono ?_
    rintro e w13 ⟨rfl, hb⟩
    replace hC := hC.keep hb
    replace Ia := Ia.keep hb
    replace Ib := Ib.keep hb
    replace hB := hB.trans (hb.mono hB.size)
    clear hb
    go_wp2_with fail
    refine (reduceLettersS_any _ _ _ Ia (by omega)).mono ?_
    rintro e w14 ⟨vx, rfl, ox, hb⟩
    replace hC := hC.keep hb
    replace Ia := Ia.keep hb
    replace Ib := Ib.keep hb
    replace hB := hB.trans (hb.mono hB.size)
    clear hb
    have Ix := ox.ints
    clear ox
    obtain ⟨lx, hx⟩ : ∃ R, R = red la := ⟨_, rfl⟩
    have gx : Good lx := by rw [hx]; exact fa.good.red
    have rx : Reduced lx := by rw [hx]; exact red_reduced _
    have nx : lx.length ≤ 7200 := by rw [hx]; have := red_length la; omega
    rw [← hx] at Ix
    have Hx : Kept (lx = red la) := ⟨hx⟩
    clear hx
    go_wp2_with fail
    refine (reduceLettersS_any _ _ _ Ib (by omega)).mono ?_
    rintro e w15 ⟨vy, rfl, oy, hb⟩
    replace hC := hC.keep hb
    replace Ia := Ia.keep hb
    replace Ib := Ib.keep hb
    replace Ix := Ix.keep hb
    replace hB := hB.trans (hb.mono hB.size)
    clear hb
    have Iy := oy.ints
    clear oy
    obtain ⟨ly, hy⟩ : ∃ R, R = red lb := ⟨_, rfl⟩
    have gy : Good ly := by rw [hy]; exact fb.good.red
    have ry : Reduced ly := by rw [hy]; exact red_reduced _
    have ny : ly.length ≤ 7200 := by rw [hy]; have := red_length lb; omega
    rw [← hy] at Iy
    have Hy : Kept (ly = red lb) := ⟨hy⟩
    clear hy
    have hcs := comm_cases Hx Hy gx gy rx ry HB
    clear HB Hx Hy gx gy rx ry fa fb Ia Ib
    obtain ⟨bx, offx, capx, rfl, _, _⟩ := Ix.form
    obtain ⟨by', offy, capy, rfl, _, _⟩ := Iy.form
    rcases hcs with ⟨rfl, rfl⟩ | ⟨hx, rfl, rfl⟩ | ⟨hx, hy, he, rfl⟩ | ⟨hx, hy, hn, he, rfl⟩ | ⟨hx, hy, hn, he, rfl⟩
    · go_wp2
      go_ret
      exact ⟨rfl, hB⟩
    · go_wp2
      go_ret
      exact ⟨rfl, hB⟩
    · have HE := Lib.hid he
      clear he
      have nr := rootW_length lx
      have ns := rootW_length ly
      go_wp2_with fail
      refine (rootOfS_any _ _ _ Ix (by omega)).mono ?_
      rintro e w16 ⟨vr, rfl, or, hb⟩
      replace hC := hC.keep hb
      replace Ix := Ix.keep hb
      replace Iy := Iy.keep hb
      replace hB := hB.trans (hb.mono hB.size)
      clear hb
      have Ir := or.ints
      clear or
      go_wp2_with fail
      refine (rootOfS_any _ _ _ Iy (by omega)).mono ?_
      rintro e w17 ⟨vs, rfl, os, hb⟩
      replace hC := hC.keep hb
      replace Ix := Ix.keep hb
      replace Iy := Iy.keep hb
      replace Ir := Ir.keep hb
      replace hB := hB.trans (hb.mono hB.size)
      clear hb
      have Is := os.ints
      clear os
      go_wp2_with fail
      refine (sameInts_eq _ _ _ _ _ Ir Is (by omega) HE.out).mono ?_
      rintro e w18 ⟨rfl, hb⟩
      replace hC := hC.keep hb
      replace Ix := Ix.keep hb
      replace Iy := Iy.keep hb
      replace Ir := Ir.keep hb
      replace Is := Is.keep hb
      replace hB := hB.trans (hb.mono hB.size)
      clear hb
      clear Ir
      clear Is
      go_wp2
      go_ret
      exact ⟨rfl, hB⟩
    · have HE := Lib.hid he
      have HN := Lib.hid hn
      clear he hn
      have nr := rootW_length lx
      have ns := rootW_length ly
      go_wp2_with fail
      refine (rootOfS_any _ _ _ Ix (by omega)).mono ?_
      rintro e w16 ⟨vr, rfl, or, hb⟩
      replace hC := hC.keep hb
      replace Ix := Ix.keep hb
      replace Iy := Iy.keep hb
      replace hB := hB.trans (hb.mono hB.size)
      clear hb
      have Ir := or.ints
      clear or
      go_wp2_with fail
      refine (rootOfS_any _ _ _ Iy (by omega)).mono ?_
      rintro e w17 ⟨vs, rfl, os, hb⟩
      replace hC := hC.keep hb
      replace Ix := Ix.keep hb
      replace Iy := Iy.keep hb
      replace Ir := Ir.keep hb
      replace hB := hB.trans (hb.mono hB.size)
      clear hb
      have Is := os.ints
      clear os
      go_wp2_with fail
      refine (sameInts_ne _ _ _ _ _ Ir Is (by omega) HN.out).mono ?_
      rintro e w18 ⟨rfl, hb⟩
      replace hC := hC.keep hb
      replace Ix := Ix.keep hb
      replace Iy := Iy.keep hb
      replace Ir := Ir.keep hb
      replace Is := Is.keep hb
      replace hB := hB.trans (hb.mono hB.size)
      clear hb
      go_wp2_with fail
      refine (invertWordS_any _ _ _ Is (by omega)).mono ?_
      rintro e w19 ⟨vt, rfl, ot, hb⟩
      replace hC := hC.keep hb
      replace Ix := Ix.keep hb
      replace Iy := Iy.keep hb
      replace Ir := Ir.keep hb
      replace Is := Is.keep hb
      replace hB := hB.trans (hb.mono hB.size)
      clear hb
      have It := ot.ints
      clear ot
      go_wp2_with fail
      refine (sameInts_eq _ _ _ _ _ Ir It (by omega) HE.out).mono ?_
      rintro e w20 ⟨rfl, hb⟩
      replace hC := hC.keep hb
      replace Ix := Ix.keep hb
      replace Iy := Iy.keep hb
      replace Ir := Ir.keep hb
      replace Is := Is.keep hb
      replace It := It.keep hb
      replace hB := hB.trans (hb.mono hB.size)
      clear hb
      clear Ir
      clear It
      go_wp2
      go_ret
      exact ⟨rfl, hB⟩
    · have HE := Lib.hid he
      have HN := Lib.hid hn
      clear he hn
      have nr := rootW_length lx
      have ns := rootW_length ly
      go_wp2_with fail
      refine (rootOfS_any _ _ _ Ix (by omega)).mono ?_
      rintro e w16 ⟨vr, rfl, or, hb⟩
      replace hC := hC.keep hb
      replace Ix := Ix.keep hb
      replace Iy := Iy.keep hb
      replace hB := hB.trans (hb.mono hB.size)
      clear hb
      have Ir := or.ints
      clear or
      go_wp2_with fail
      refine (rootOfS_any _ _ _ Iy (by omega)).mono ?_
      rintro e w17 ⟨vs, rfl, os, hb⟩
      replace hC := hC.keep hb
      replace Ix := Ix.keep hb
      replace Iy := Iy.keep hb
      replace Ir := Ir.keep hb
      replace hB := hB.trans (hb.mono hB.size)
      clear hb
      have Is := os.ints
      clear os
      go_wp2_with fail
      refine (sameInts_ne _ _ _ _ _ Ir Is (by omega) HN.out).mono ?_
      rintro e w18 ⟨rfl, hb⟩
      replace hC := hC.keep hb
      replace Ix := Ix.keep hb
      replace Iy := Iy.keep hb
      replace Ir := Ir.keep hb
      replace Is := Is.keep hb
      replace hB := hB.trans (hb.mono hB.size)
      clear hb
      go_wp2_with fail
      refine (invertWordS_any _ _ _ Is (by omega)).mono ?_
      rintro e w19 ⟨vt, rfl, ot, hb⟩
      replace hC := hC.keep hb
      replace Ix := Ix.keep hb
      replace Iy := Iy.keep hb
      replace Ir := Ir.keep hb
      replace Is := Is.keep hb
      replace hB := hB.trans (hb.mono hB.size)
      clear hb
      have It := ot.ints
      clear ot
      go_wp2_with fail
      refine (sameInts_ne _ _ _ _ _ Ir It (by omega) HE.out).mono ?_
      rintro e w20 ⟨rfl, hb⟩
      replace hC := hC.keep hb
      replace Ix := Ix.keep hb
      replace Iy := Iy.keep hb
      replace Ir := Ir.keep hb
      replace Is := Is.keep hb
      replace It := It.keep hb
      replace hB := hB.trans (hb.mono hB.size)
      clear hb
      go_wp2
      go_ret
      exact ⟨rfl, hB⟩
  · have h1I : (0 : Int) < (N : Int) := by omega
    have h24I : ¬ (N : Int) ≤ 24 := by omega
    go_wp2_with fail
    refine (CI.out _ _ Ix).mono ?_
    rintro e w4 ⟨vr, rfl, or, hb⟩
    replace hC := hC.keep hb
    replace Ix := Ix.keep hb
    replace hB := hB.trans (hb.mono hB.size)
    clear hb
    have Ir := or.ints
    clear or
    go_wp2_with fail
    refine (CS.out _ _ Ix).mono ?_
    rintro e w5 ⟨vs, rfl, os, hb⟩
    replace hC := hC.keep hb
    replace Ix := Ix.keep hb
    replace Ir := Ir.keep hb
    replace hB := hB.trans (hb.mono hB.size)
    clear hb
    have Is := os.ints
    clear os
    go_wp2_with fail
    refine (sameInts_eq _ _ _ _ _ Ir Is (by omega) rfl).mono ?_
    rintro e w6 ⟨rfl, hb⟩
    replace hC := hC.keep hb
    replace Ix := Ix.keep hb
    replace Ir := Ir.keep hb
    replace Is := Is.keep hb
    replace hB := hB.trans (hb.mono hB.size)
    clear hb
    go_wp2_with fail
    refine (CP.out _ _ Ix).mono ?_
    rintro e w7 ⟨rfl, hb⟩
    replace hC := hC.keep hb
    replace Ix := Ix.keep hb
    replace Ir := Ir.keep hb
    replace Is := Is.keep hb
    replace hB := hB.trans (hb.mono hB.size)
    clear hb
    go_wp2_with fail
    refine (CQ.out h1 _ _ Ir).mono ?_
    rintro e w8 ⟨rfl, hb⟩
    replace hC := hC.keep hb
    replace Ix := Ix.keep hb
    replace Ir := Ir.keep hb
    replace Is := Is.keep hb
    replace hB := hB.trans (hb.mono hB.size)
    clear hb
    clear Ir Is Ix nx nrW CI CS CP CQ h1I h24I h24
    go_wp2_with fail
    refine (drawDoCommute_any A len cap _ hC hl).mono ?_
    rintro e w9 ⟨va, la, vb, lb, rfl, oa, ob, fa, fb, hb⟩
    replace hC := hC.keep hb
    replace hB := hB.trans (hb.mono hB.size)
    clear hb
    have Ia := oa.ints
    have Ib := ob.ints
    have na := fa.len
    have nb := fb.len
    clear oa ob
    obtain ⟨B, hB2⟩ : ∃ B, B = eqL (red (la ++ lb)) (red (lb ++ la)) := ⟨_, rfl⟩
    have HB : Kept (B = eqL (red (la ++ lb)) (red (lb ++ la))) := ⟨hB2⟩
    clear hB2
    go_wp2_with fail
    refine (doCommI_is _ _ _ _ _ _ Ia Ib (by omega) (by omega) HB).mono ?_
    rintro e w10 ⟨rfl, hb⟩
    replace hC := hC.keep hb
    replace Ia := Ia.keep hb
    replace Ib := Ib.keep hb
    replace hB := hB.trans (hb.mono hB.size)
    clear hb
    go_wp2_with fail
    refine (doCommS_is _ _ _ _ _ _ Ia Ib (by omega) (by omega) HB).mono ?_
    rintro e w11 ⟨rfl, hb⟩
    replace hC := hC.keep hb
    replace Ia := Ia.keep hb
    replace Ib := Ib.keep hb
    replace hB := hB.trans (hb.mono hB.size)
    clear hb
    go_wp2_with fail
    refine (reduceLettersS_any _ _ _ Ia (by omega)).mono ?_
    rintro e w12 ⟨vx, rfl, ox, hb⟩
    replace hC := hC.keep hb
    replace Ia := Ia.keep hb
    replace Ib := Ib.keep hb
    replace hB := hB.trans (hb.mono hB.size)
    clear hb
    have Ix := ox.ints
    clear ox
    obtain ⟨lx, hx⟩ : ∃ R, R = red la := ⟨_, rfl⟩
    have gx : Good lx := by rw [hx]; exact fa.good.red
    have rx : Reduced lx := by rw [hx]; exact red_reduced _
    have nx : lx.length ≤ 7200 := by rw [hx]; have := red_length la; omega
    rw [← hx] at Ix
    have Hx : Kept (lx = red la) := ⟨hx⟩
    clear hx
    go_wp2_with fail
    refine (reduceLettersS_any _ _ _ Ib (by omega)).mono ?_
    rintro e w13 ⟨vy, rfl, oy, hb⟩
    replace hC := hC.keep hb
    replace Ia := Ia.keep hb
    replace Ib := Ib.keep hb
    replace Ix := Ix.keep hb
    replace hB := hB.trans (hb.mono hB.size)
    clear hb
    have Iy := oy.ints
    clear oy
    obtain ⟨ly, hy⟩ : ∃ R, R = red lb := ⟨_, rfl⟩
    have gy : Good ly := by rw [hy]; exact fb.good.red
    have ry : Reduced ly := by rw [hy]; exact red_reduced _
    have ny : ly.length ≤ 7200 := by rw [hy]; have := red_length lb; omega
    rw [← hy] at Iy
    have Hy : Kept (ly = red lb) := ⟨hy⟩
    clear hy
    have hcs := comm_cases Hx Hy gx gy rx ry HB
    clear HB Hx Hy gx gy rx ry fa fb Ia Ib
    obtain ⟨bx, offx, capx, rfl, _, _⟩ := Ix.form
    obtain ⟨by', offy, capy, rfl, _, _⟩ := Iy.form
    rcases hcs with ⟨rfl, rfl⟩ | ⟨hx, rfl, rfl⟩ | ⟨hx, hy, he, rfl⟩ | ⟨hx, hy, hn, he, rfl⟩ | ⟨hx, hy, hn, he, rfl⟩
    · go_wp2
      go_ret
      exact ⟨rfl, hB⟩
    · go_wp2
      go_ret
      exact ⟨rfl, hB⟩
    · have HE := Lib.hid he
      clear he
      have nr := rootW_length lx
      have ns := rootW_length ly
      go_wp2_with fail
      refine (rootOfS_any _ _ _ Ix (by omega)).mono ?_
      rintro e w14 ⟨vr, rfl, or, hb⟩
      replace hC := hC.keep hb
      replace Ix := Ix.keep hb
      replace Iy := Iy.keep hb
      replace hB := hB.trans (hb.mono hB.size)
      clear hb
      have Ir := or.ints
      clear or
      go_wp2_with fail
      refine (rootOfS_any _ _ _ Iy (by omega)).mono ?_
      rintro e w15 ⟨vs, rfl, os, hb⟩
      replace hC := hC.keep hb
      replace Ix := Ix.keep hb
      replace Iy := Iy.keep hb
      replace Ir := Ir.keep hb
      replace hB := hB.trans (hb.mono hB.size)
      clear hb
      have Is := os.ints
      clear os
      go_wp2_with fail
      refine (sameInts_eq _ _ _ _ _ Ir Is (by omega) HE.out).mono ?_
      rintro e w16 ⟨rfl, hb⟩
      replace hC := hC.keep hb
      replace Ix := Ix.keep hb
      replace Iy := Iy.keep hb
      replace Ir := Ir.keep hb
      replace Is := Is.keep hb
      replace hB := hB.trans (hb.mono hB.size)
      clear hb
      clear Ir
      clear Is
      go_wp2
      go_ret
      exact ⟨rfl, hB⟩
    · have HE := Lib.hid he
      have HN := Lib.hid hn
      clear he hn
      have nr := rootW_length lx
      have ns := rootW_length ly
      go_wp2_with fail
      refine (rootOfS_any _ _ _ Ix (by omega)).mono ?_
      rintro e w14 ⟨vr, rfl, or, hb⟩
      replace hC := hC.keep hb
      replace Ix := Ix.keep hb
      replace Iy := Iy.keep hb
      replace hB := hB.trans (hb.mono hB.size)
      clear hb
      have Ir := or.ints
      clear or
      go_wp2_with fail
      refine (rootOfS_any _ _ _ Iy (by omega)).mono ?_
      rintro e w15 ⟨vs, rfl, os, hb⟩
      replace hC := hC.keep hb
      replace Ix := Ix.keep hb
      replace Iy := Iy.keep hb
      replace Ir := Ir.keep hb
      replace hB := hB.trans (hb.mono hB.size)
      clear hb
      have Is := os.ints
      clear os
      go_wp2_with fail
      refine (sameInts_ne _ _ _ _ _ Ir Is (by omega) HN.out).mono ?_
      rintro e w16 ⟨rfl, hb⟩
      replace hC := hC.keep hb
      replace Ix := Ix.keep hb
      replace Iy := Iy.keep hb
      replace Ir := Ir.keep hb
      replace Is := Is.keep hb
      replace hB := hB.trans (hb.mono hB.size)
      clear hb
      go_wp2_with fail
      refine (invertWordS_any _ _ _ Is (by omega)).mono ?_
      rintro e w17 ⟨vt, rfl, ot, hb⟩
      replace hC := hC.keep hb
      replace Ix := Ix.keep hb
      replace Iy := Iy.keep hb
      replace Ir := Ir.keep hb
      replace Is := Is.keep hb
      replace hB := hB.trans (hb.mono hB.size)
      clear hb
      have It := ot.ints
      clear ot
      go_wp2_with fail
      refine (sameInts_eq _ _ _ _ _ Ir It (by omega) HE.out).mono ?_
      rintro e w18 ⟨rfl, hb⟩
      replace hC := hC.keep hb
      replace Ix := Ix.keep hb
      replace Iy := Iy.keep hb
      replace Ir := Ir.keep hb
      replace Is := Is.keep hb
      replace It := It.keep hb
      replace hB := hB.trans (hb.mono hB.size)
      clear hb
      clear Ir
      clear It
      go_wp2
      go_ret
      exact ⟨rfl, hB⟩
    · have HE := Lib.hid he
      have HN := Lib.hid hn
      clear he hn
      have nr := rootW_length lx
      have ns := rootW_length ly
      go_wp2_with fail
      refine (rootOfS_any _ _ _ Ix (by omega)).mono ?_
      rintro e w14 ⟨vr, rfl, or, hb⟩
      replace hC := hC.keep hb
      replace Ix := Ix.keep hb
      replace Iy := Iy.keep hb
      replace hB := hB.trans (hb.mono hB.size)
      clear hb
      have Ir := or.ints
      clear or
      go_wp2_with fail
      refine (rootOfS_any _ _ _ Iy (by omega)).mono ?_
      rintro e w15 ⟨vs, rfl, os, hb⟩
      replace hC := hC.keep hb
      replace Ix := Ix.keep hb
      replace Iy := Iy.keep hb
      replace Ir := Ir.keep hb
      replace hB := hB.trans (hb.mono hB.size)
      clear hb
      have Is := os.ints
      clear os
      go_wp2_with fail
      refine (sameInts_ne _ _ _ _ _ Ir Is (by omega) HN.out).mono ?_
      rintro e w16 ⟨rfl, hb⟩
      replace hC := hC.keep hb
      replace Ix := Ix.keep hb
      replace Iy := Iy.keep hb
      replace Ir := Ir.keep hb
      replace Is := Is.keep hb
      replace hB := hB.trans (hb.mono hB.size)
      clear hb
      go_wp2_with fail
      refine (invertWordS_any _ _ _ Is (by omega)).mono ?_
      rintro e w17 ⟨vt, rfl, ot, hb⟩
      replace hC := hC.keep hb
      replace Ix := Ix.keep hb
      replace Iy := Iy.keep hb
      replace Ir := Ir.keep hb
      replace Is := Is.keep hb
      replace hB := hB.trans (hb.mono hB.size)
      clear hb
      have It := ot.ints
      clear ot
      go_wp2_with fail
      refine (sameInts_ne _ _ _ _ _ Ir It (by omega) HE.out).mono ?_
      rintro e w18 ⟨rfl, hb⟩
      replace hC := hC.keep hb
      replace Ix := Ix.keep hb
      replace Iy := Iy.keep hb
      replace Ir := Ir.keep hb
      replace Is := Is.keep hb
      replace It := It.keep hb
      replace hB := hB.trans (hb.mono hB.size)
      clear hb
      go_wp2
      go_ret
      exact ⟨rfl, hB⟩
end Go.Proofs.Ytbghnllflfcfhaa
