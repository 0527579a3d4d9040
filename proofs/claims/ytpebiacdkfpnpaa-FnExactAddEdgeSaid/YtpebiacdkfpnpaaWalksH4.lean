/- The walk of the law on AddEdge. Conditions: none. -/
import Derived.Test.YtpebiacdkfpnpaaAddS
import Derived.Test.YtpebiacdkfpnpaaOpenE
import Derived.Deep.Cut
import Derived.Deep.RegionHeld3
namespace Go.Proofs.Ytpebiacdkfpnpaa
open Go.RowKit

theorem Box.put {w : World} {k i : Nat} {cs : Array Value} {t : TypeId} (h : Box w k (.cells cs t (0, 0))) (u : Value) : Box (w.setCell ⟨k, i, none⟩ u) k (.cells (cs.setIfInBounds i u) t (0, 0)) := heap_setCell_same w k i cs t u h
set_option maxRecDepth 20000 in
set_option maxHeartbeats 6400000 in
theorem walkFnExactAddEdge (w : World) (r0 n0 : Int) (a0 : Option Addr) (len0 cap0 : Nat) (L0 : List Ed) (wr0 : (Lit.int .i64 r0).wf = true) (wn0 : (Lit.int .i64 n0).wf = true) (A0 : ArgE w a0 len0 cap0 L0) (x1 y1 z1 : Int) (wx1 : (Lit.int .i64 x1).wf = true) (wy1 : (Lit.int .i64 y1).wf = true) (wz1 : (Lit.int .i64 z1).wf = true) :
    Calls Try.prog 5 #[graphV r0 n0 (.slice a0 len0 cap0), edgeV x1 y1 z1] w fun e w' => e = .returned (.bool true) ∧ Below w.heap.size w w' := by
  have ir0 := i64_of_wf wr0
  have in0 := i64_of_wf wn0
  have ix1 := i64_of_wf wx1
  have iy1 := i64_of_wf wy1
  have iz1 := i64_of_wf wz1
  clear wr0 wn0 wx1 wy1 wz1
  have mx0 : len0 ≤ 9223372036854775807 := A0.2.2
  obtain ⟨wP, hwP⟩ : ∃ z, z = (w.alloc (Obj.cells #[.int .i64 r0, .int .i64 n0, .slice a0 len0 cap0] 24)).alloc (Obj.cells #[.int .i64 x1, .int .i64 y1, .int .i64 z1] 39) := ⟨_, rfl⟩
  have hB := ((Below.refl w.heap.size w).alloc (Nat.le_refl _) (Obj.cells #[.int .i64 r0, .int .i64 n0, .slice a0 len0 cap0] 24)).alloc (by simp) (Obj.cells #[.int .i64 x1, .int .i64 y1, .int .i64 z1] 39)
  have bxg := Box.first w (Obj.cells #[.int .i64 r0, .int .i64 n0, .slice a0 len0 cap0] 24) (Obj.cells #[.int .i64 x1, .int .i64 y1, .int .i64 z1] 39)
  have bxe := Box.two w (Obj.cells #[.int .i64 r0, .int .i64 n0, .slice a0 len0 cap0] 24) (Obj.cells #[.int .i64 x1, .int .i64 y1, .int .i64 z1] 39)
  rw [← hwP] at hB bxg bxe
  have hP := Below.refl wP.heap.size wP
  have HP := Lib.hid hwP
  have BXG := Lib.hid bxg
  have BXE := Lib.hid bxe
  clear hwP bxg bxe
  obtain ⟨pg1, pg2, pg3⟩ := BXG.out.cells
  rw [HP.out] at pg1 pg2 pg3
  by_cases c0 : (len0 : Int) ≤ 1048576
  case neg =>
    have c0' : 1048576 < (len0 : Int) := by omega
    go_enter Try.func5, Try.ntmps5
    go_wp2_with fail
    rw [← HP.out]
    refine (szGraph_over r0 n0 _ a0 len0 cap0 _ c0' (by omega) mx0).mono ?_
    rintro e w1' ⟨rfl, hb⟩
    go_wp2
    go_ret
    exact ⟨rfl, hB.trans (hb.mono hB.size)⟩
  have nE0 : L0.length ≤ 1048576 := by rw [A0.len]; omega
  obtain ⟨Gr, hGr⟩ : ∃ z, z = r0 := ⟨_, rfl⟩
  obtain ⟨Gn, hGn⟩ : ∃ z, z = n0 := ⟨_, rfl⟩
  obtain ⟨R, hR⟩ : ∃ z, z = addEL r0 n0 L0 (x1, y1, z1) := ⟨_, rfl⟩
  obtain ⟨V, hV⟩ : ∃ z, z = addEOk r0 n0 L0 (x1, y1, z1) := ⟨_, rfl⟩
  have bR : R.length ≤ 134217728 := by rw [hR]; have := addEL_len r0 n0 L0 (x1, y1, z1); omega
  have cS : ∀ (W : World) (u0 : Value) (h0 : Edges W u0 L0) (k0 : NilOk u0), Calls Try.prog 21 #[graphV r0 n0 u0, edgeV x1 y1 z1] W (RetG2 W Gr Gn R (.bool V)) := fun W u0 h0 k0 => by rw [hGr, hGn, hR, hV]; exact addEdgeS_any _ _ _ _ (x1, y1, z1) ⟨ix1, iy1, iz1⟩ _ h0 k0 (by omega)
  have cI : ∀ (W : World) (u0 : Value) (h0 : Edges W u0 L0) (k0 : NilOk u0), Calls Try.prog 23 #[graphV r0 n0 u0, edgeV x1 y1 z1] W (RetG2 W Gr Gn R (.bool V)) := fun W u0 h0 k0 => by rw [hGr, hGn, hR, hV]; exact addEdge_any _ _ _ _ (x1, y1, z1) ⟨ix1, iy1, iz1⟩ _ h0 k0 (by omega)
  have CS := Lib.hid cS
  have CI := Lib.hid cI
  clear cS cI hGr hGn hR hV
  go_enter Try.func5, Try.ntmps5
  go_wp2_with fail
  rw [← HP.out]
  refine (szGraph_fits r0 n0 _ a0 len0 cap0 _ c0 (by omega)).mono ?_
  rintro e w1 ⟨rfl, hb⟩
  replace hP := hP.trans (hb.mono hP.size)
  clear pg1 pg2 pg3 hb
  have hBW := hB.trans (hP.mono hB.size)
  obtain ⟨pg1, pg2, pg3⟩ := (BXG.out.keep hP).cells
  obtain ⟨pe1, pe2, pe3⟩ := (BXE.out.keep hP).cells
  have nb1 := (BXG.out.keep hP).lt
  have nb2 := (BXE.out.keep hP).lt
  have nb3 := Nat.ne_of_lt nb1
  have nb4 := Nat.ne_of_lt nb2
  go_upto_region 5 with fail
  go_cut [6, 7] from 16 (fun s1 s2 X => ∃ (kb : Nat) (v : Value), s1 = .pointer (some ⟨kb, 0, none⟩) ∧ s2 = .bool V ∧ Box X kb (Obj.cells #[.int .i64 Gr, .int .i64 Gn, v] 29) ∧ OwnN X w1.heap.size v R ∧ w1.heap.size ≤ kb ∧ (∀ j, v.ownBlock = some j → j ≠ kb) ∧ Below w1.heap.size w1 X)
  case first =>
    refine wp_region_held_drew (S := fun X => Below w1.heap.size w1 X) (by kernel_rfl) ((Below.refl w1.heap.size w1).drew) (fun hHeld => ?_)
    refine wpAnyH_take (i := 0) (v := ?v1) rfl (by kernel_rfl) (by kernel_rfl) (by kernel_rfl) (fun _ _ _ h => h) (Or.inl ⟨by rfl, ?hy1⟩) (by assumption) ?rest1
    case hy1 => intro X hX; (try dsimp only at hX); obtain ⟨c1, c2, c3⟩ := (BXG.out.keep (hP.trans (hX.mono hP.size))).cells; go_simp <;> with_reducible rfl
    try simp only [List.getElem_toArray, List.getElem_cons_zero, Act.put, List.setIfInBounds_toArray, List.set_cons_zero, List.set_cons_succ]
    refine wpAnyH_take (i := 2) (v := ?v2) rfl (by kernel_rfl) (by kernel_rfl) (by kernel_rfl) (fun _ _ _ h => h) (Or.inl ⟨by rfl, ?hy2⟩) (by assumption) ?rest2
    case hy2 => intro X hX; (try dsimp only at hX); obtain ⟨c1, c2, c3⟩ := (BXE.out.keep (hP.trans (hX.mono hP.size))).cells; go_simp <;> with_reducible rfl
    try simp only [List.getElem_toArray, List.getElem_cons_succ, List.getElem_cons_zero, Act.put, List.setIfInBounds_toArray, List.set_cons_zero, List.set_cons_succ]
    refine wpAnyH_ready (rs := [1, 8]) (by kernel_rfl) (by simp) ?_
    refine AllReadyH.cons rfl (fun K hK => ?_) (AllReadyH.cons rfl (fun K hK => ?_) AllReadyH.nil)
    · go_simp
      go_at_call 12
      refine (toGraph_arg r0 n0 A0 (hBW.trans (hHeld.mono hBW.size)) (by omega)).mono ?_
      rintro e q1 ⟨vz, rfl, oz, hb⟩
      (try go_simp)
      have hHn := hHeld.trans (hb.mono hHeld.size)
      refine hK.out _ _ (hHn) (fun hHeld2 => ?_)
      replace hHeld := hHeld2
      clear hHeld2 hK K hHn hb
      try simp only [List.getElem_toArray, List.getElem_cons_succ, List.getElem_cons_zero, Act.put, List.setIfInBounds_toArray, List.set_cons_zero, List.set_cons_succ]
      refine wpAnyH_ready (rs := [3, 8]) (by kernel_rfl) (by simp) ?_
      refine AllReadyH.cons rfl (fun K hK => ?_) (AllReadyH.cons rfl (fun K hK => ?_) AllReadyH.nil)
      · go_simp
        go_at_call 22
        refine (toEdge_any x1 y1 z1 _).mono ?_
        rintro e q2 ⟨rfl, hb⟩
        replace oz := oz.keep hb
        (try go_simp)
        have hHn := hHeld.trans (hb.mono hHeld.size)
        refine hK.out _ _ (hHn) (fun hHeld2 => ?_)
        replace hHeld := hHeld2
        clear hHeld2 hK K hHn hb
        try simp only [List.getElem_toArray, List.getElem_cons_succ, List.getElem_cons_zero, Act.put, List.setIfInBounds_toArray, List.set_cons_zero, List.set_cons_succ]
        refine wpAnyH_ready (rs := [4, 8]) (by kernel_rfl) (by simp) ?_
        refine AllReadyH.cons rfl (fun K hK => ?_) (AllReadyH.cons rfl (fun K hK => ?_) AllReadyH.nil)
        · go_simp
          go_at_call 21
          refine (CS.out _ _ (OwnN.edges (.inr oz)) (OwnN.nilOk (.inr oz))).mono ?_
          rintro e q3 ⟨vr, rfl, orr, hb⟩
          obtain ⟨Ar, cr, rfl⟩ := orr.edges.form
          have olo := orr.lo
          have ohi := orr.hi
          have orr2 := orr.base hHeld.size
          clear orr
          (try go_simp)
          have hHn := hHeld.trans (hb.mono hHeld.size)
          have hsz3 := hHeld.size
          refine hK.out _ _ (hHn) (fun hHeld2 => ?_)
          replace hHeld := hHeld2
          clear hHeld2 hK K hHn hb
          try simp only [List.getElem_toArray, List.getElem_cons_succ, List.getElem_cons_zero, Act.put, List.setIfInBounds_toArray, List.set_cons_zero, List.set_cons_succ]
          refine wpAnyH_take (i := 5) (v := ?v3) rfl (by kernel_rfl) (by kernel_rfl) (by kernel_rfl) (fun _ _ _ h => h) (Or.inl ⟨by rfl, ?hy3⟩) (by assumption) ?rest3
          case hy3 => intro X hX; (try dsimp only at hX); go_simp <;> with_reducible rfl
          try simp only [List.getElem_toArray, List.getElem_cons_succ, List.getElem_cons_zero, Act.put, List.setIfInBounds_toArray, List.set_cons_zero, List.set_cons_succ]
          refine wpAnyH_take (i := 6) (v := ?v4) rfl (by kernel_rfl) (by kernel_rfl) (by kernel_rfl) (fun _ _ _ h => h) (Or.inl ⟨by rfl, ?hy4⟩) (by assumption) ?rest4
          case hy4 => intro X hX; (try dsimp only at hX); go_simp <;> with_reducible rfl
          try simp only [List.getElem_toArray, List.getElem_cons_succ, List.getElem_cons_zero, Act.put, List.setIfInBounds_toArray, List.set_cons_zero, List.set_cons_succ]
          refine wpAnyH_take (i := 7) (v := ?v5) rfl (by kernel_rfl) (by kernel_rfl) (by kernel_rfl) (fun _ _ _ h => h) (Or.inl ⟨by rfl, ?hy5⟩) (by assumption) ?rest5
          case hy5 => intro X hX; (try dsimp only at hX); go_simp <;> with_reducible rfl
          try simp only [List.getElem_toArray, List.getElem_cons_succ, List.getElem_cons_zero, Act.put, List.setIfInBounds_toArray, List.set_cons_zero, List.set_cons_succ]
          have hH0 := hHeld
          refine wpAnyH_ready (rs := [8]) (by kernel_rfl) (by simp) ?_
          refine AllReadyH.cons rfl (fun K hK => ?_) AllReadyH.nil
          go_simp
          have hHn := hHeld.alloc hHeld.size (Obj.cells #[.int .i64 0, .int .i64 0, .slice none 0 0] 29)
          have hkb : w1.heap.size ≤ q3.heap.size := hHeld.size
          have hne : ∀ j, (Value.slice Ar R.length cr).ownBlock = some j → j ≠ q3.heap.size := fun j hj => Nat.ne_of_lt (ohi j hj)
          refine hK.out _ _ (hHn) (fun hHeld2 => ?_)
          replace hHeld := hHeld2
          clear hHeld2 hK K hHn
          try simp only [List.getElem_toArray, List.getElem_cons_succ, List.getElem_cons_zero, Act.put, List.setIfInBounds_toArray, List.set_cons_zero, List.set_cons_succ]
          refine wpAnyH_ready (rs := [9]) (by kernel_rfl) (by simp) ?_
          refine AllReadyH.cons rfl (fun K hK => ?_) AllReadyH.nil
          go_simp
          refine hK.out _ _ (hH0.alloc hH0.size _) (fun hHeld2 => ?_)
          replace hHeld := hHeld2
          clear hHeld2 hK K
          try simp only [List.getElem_toArray, List.getElem_cons_succ, List.getElem_cons_zero, Act.put, List.setIfInBounds_toArray, List.set_cons_zero, List.set_cons_succ]
          refine wpAnyH_take (i := 10) (v := ?v6) rfl (by kernel_rfl) (by kernel_rfl) (by kernel_rfl) (fun _ _ _ h => h) (Or.inl ⟨by rfl, ?hy6⟩) (by assumption) ?rest6
          case hy6 => intro X hX; (try dsimp only at hX); go_simp <;> with_reducible rfl
          try simp only [List.getElem_toArray, List.getElem_cons_succ, List.getElem_cons_zero, Act.put, List.setIfInBounds_toArray, List.set_cons_zero, List.set_cons_succ]
          refine wpAnyH_done (by kernel_rfl) ?_ _
          go_wp2_with fail
          go_meet
          case rel => exact ⟨_, _, rfl, rfl, Box.new _ _, orr2.keep ((Below.refl _ _).alloc (Nat.le_refl _) _), hkb, hne, hHeld⟩
        · go_simp
          have bn : Box (World.alloc q2 (Obj.cells #[.int .i64 0, .int .i64 0, .slice none 0 0] 29)) (q2.heap.size) (Obj.cells #[.int .i64 0, .int .i64 0, .slice none 0 0] 29) := Box.new (q2) (Obj.cells #[.int .i64 0, .int .i64 0, .slice none 0 0] 29)
          have hkb : w1.heap.size ≤ q2.heap.size := hHeld.size
          have hHn := hHeld.alloc hHeld.size (Obj.cells #[.int .i64 0, .int .i64 0, .slice none 0 0] 29)
          replace oz := oz.keep ((Below.refl _ _).alloc (Nat.le_refl _) (Obj.cells #[.int .i64 0, .int .i64 0, .slice none 0 0] 29))
          refine hK.out _ _ (hHn) (fun hHeld2 => ?_)
          replace hHeld := hHeld2
          clear hHeld2 hK K hHn
          try simp only [List.getElem_toArray, List.getElem_cons_succ, List.getElem_cons_zero, Act.put, List.setIfInBounds_toArray, List.set_cons_zero, List.set_cons_succ]
          refine wpAnyH_ready (rs := [4]) (by kernel_rfl) (by simp) ?_
          refine AllReadyH.cons rfl (fun K hK => ?_) AllReadyH.nil
          have hlt : q2.heap.size < (q2.alloc (Obj.cells #[.int .i64 0, .int .i64 0, .slice none 0 0] 29)).heap.size := bn.lt
          go_simp
          go_at_call 21
          refine (CS.out _ _ (OwnN.edges (.inr oz)) (OwnN.nilOk (.inr oz))).mono ?_
          rintro e q3 ⟨vr, rfl, orr, hb⟩
          obtain ⟨Ar, cr, rfl⟩ := orr.edges.form
          have olo := orr.lo
          have ohi := orr.hi
          have orr2 := orr.base hHeld.size
          clear orr
          replace bn := bn.keep hb
          (try go_simp)
          have hHn := hHeld.trans (hb.mono hHeld.size)
          have hsz3 := hHeld.size
          refine hK.out _ _ (hHn) (fun hHeld2 => ?_)
          replace hHeld := hHeld2
          clear hHeld2 hK K hHn hb
          try simp only [List.getElem_toArray, List.getElem_cons_succ, List.getElem_cons_zero, Act.put, List.setIfInBounds_toArray, List.set_cons_zero, List.set_cons_succ]
          refine wpAnyH_take (i := 5) (v := ?v7) rfl (by kernel_rfl) (by kernel_rfl) (by kernel_rfl) (fun _ _ _ h => h) (Or.inl ⟨by rfl, ?hy7⟩) (by assumption) ?rest7
          case hy7 => intro X hX; (try dsimp only at hX); go_simp <;> with_reducible rfl
          try simp only [List.getElem_toArray, List.getElem_cons_succ, List.getElem_cons_zero, Act.put, List.setIfInBounds_toArray, List.set_cons_zero, List.set_cons_succ]
          refine wpAnyH_take (i := 6) (v := ?v8) rfl (by kernel_rfl) (by kernel_rfl) (by kernel_rfl) (fun _ _ _ h => h) (Or.inl ⟨by rfl, ?hy8⟩) (by assumption) ?rest8
          case hy8 => intro X hX; (try dsimp only at hX); go_simp <;> with_reducible rfl
          try simp only [List.getElem_toArray, List.getElem_cons_succ, List.getElem_cons_zero, Act.put, List.setIfInBounds_toArray, List.set_cons_zero, List.set_cons_succ]
          refine wpAnyH_take (i := 7) (v := ?v9) rfl (by kernel_rfl) (by kernel_rfl) (by kernel_rfl) (fun _ _ _ h => h) (Or.inl ⟨by rfl, ?hy9⟩) (by assumption) ?rest9
          case hy9 => intro X hX; (try dsimp only at hX); go_simp <;> with_reducible rfl
          try simp only [List.getElem_toArray, List.getElem_cons_succ, List.getElem_cons_zero, Act.put, List.setIfInBounds_toArray, List.set_cons_zero, List.set_cons_succ]
          have hne : ∀ j, (Value.slice Ar R.length cr).ownBlock = some j → j ≠ q2.heap.size := fun j hj => by have := olo j hj; have := hlt; omega
          obtain ⟨b1, b2, b3⟩ := bn.cells
          have b4 := Box.froz bn 0
          have b5 := Box.froz bn 1
          have b6 := Box.froz bn 2
          have bx9 : Box _ (q2.heap.size) (Obj.cells #[.int .i64 Gr, .int .i64 Gn, .slice Ar R.length cr] 29) := ((bn.put (i := 0) (.int .i64 Gr)).put (i := 1) (.int .i64 Gn)).put (i := 2) (.slice Ar R.length cr)
          have o9 := ((orr2.set_ (i := 0) hne (.int .i64 Gr)).set_ (i := 1) hne (.int .i64 Gn)).set_ (i := 2) hne (.slice Ar R.length cr)
          have h9 := ((hHeld.setCell (p := ⟨q2.heap.size, 0, none⟩) hkb (.int .i64 Gr)).setCell (p := ⟨q2.heap.size, 1, none⟩) hkb (.int .i64 Gn)).setCell (p := ⟨q2.heap.size, 2, none⟩) hkb (.slice Ar R.length cr)
          refine wpAnyH_ready (rs := [9]) (by kernel_rfl) (by simp) ?_
          refine AllReadyH.cons rfl (fun K hK => ?_) AllReadyH.nil
          go_simp
          refine hK.out _ _ (h9) (fun hHeld2 => ?_)
          replace hHeld := hHeld2
          clear hHeld2 hK K
          try simp only [List.getElem_toArray, List.getElem_cons_succ, List.getElem_cons_zero, Act.put, List.setIfInBounds_toArray, List.set_cons_zero, List.set_cons_succ]
          refine wpAnyH_take (i := 10) (v := ?v10) rfl (by kernel_rfl) (by kernel_rfl) (by kernel_rfl) (fun _ _ _ h => h) (Or.inl ⟨by rfl, ?hy10⟩) (by assumption) ?rest10
          case hy10 => intro X hX; (try dsimp only at hX); go_simp <;> with_reducible rfl
          try simp only [List.getElem_toArray, List.getElem_cons_succ, List.getElem_cons_zero, Act.put, List.setIfInBounds_toArray, List.set_cons_zero, List.set_cons_succ]
          refine wpAnyH_done (by kernel_rfl) ?_ _
          go_wp2_with fail
          go_meet
          case rel => exact ⟨_, _, rfl, rfl, bx9, o9, hkb, hne, hHeld⟩
      · go_simp
        have bn : Box (World.alloc q1 (Obj.cells #[.int .i64 0, .int .i64 0, .slice none 0 0] 29)) (q1.heap.size) (Obj.cells #[.int .i64 0, .int .i64 0, .slice none 0 0] 29) := Box.new (q1) (Obj.cells #[.int .i64 0, .int .i64 0, .slice none 0 0] 29)
        have hkb : w1.heap.size ≤ q1.heap.size := hHeld.size
        have hHn := hHeld.alloc hHeld.size (Obj.cells #[.int .i64 0, .int .i64 0, .slice none 0 0] 29)
        replace oz := oz.keep ((Below.refl _ _).alloc (Nat.le_refl _) (Obj.cells #[.int .i64 0, .int .i64 0, .slice none 0 0] 29))
        refine hK.out _ _ (hHn) (fun hHeld2 => ?_)
        replace hHeld := hHeld2
        clear hHeld2 hK K hHn
        try simp only [List.getElem_toArray, List.getElem_cons_succ, List.getElem_cons_zero, Act.put, List.setIfInBounds_toArray, List.set_cons_zero, List.set_cons_succ]
        refine wpAnyH_ready (rs := [3]) (by kernel_rfl) (by simp) ?_
        refine AllReadyH.cons rfl (fun K hK => ?_) AllReadyH.nil
        go_simp
        go_at_call 22
        refine (toEdge_any x1 y1 z1 _).mono ?_
        rintro e q2 ⟨rfl, hb⟩
        replace oz := oz.keep hb
        replace bn := bn.keep hb
        (try go_simp)
        have hHn := hHeld.trans (hb.mono hHeld.size)
        refine hK.out _ _ (hHn) (fun hHeld2 => ?_)
        replace hHeld := hHeld2
        clear hHeld2 hK K hHn hb
        try simp only [List.getElem_toArray, List.getElem_cons_succ, List.getElem_cons_zero, Act.put, List.setIfInBounds_toArray, List.set_cons_zero, List.set_cons_succ]
        refine wpAnyH_ready (rs := [4]) (by kernel_rfl) (by simp) ?_
        refine AllReadyH.cons rfl (fun K hK => ?_) AllReadyH.nil
        have hlt : q1.heap.size < q2.heap.size := bn.lt
        go_simp
        go_at_call 21
        refine (CS.out _ _ (OwnN.edges (.inr oz)) (OwnN.nilOk (.inr oz))).mono ?_
        rintro e q3 ⟨vr, rfl, orr, hb⟩
        obtain ⟨Ar, cr, rfl⟩ := orr.edges.form
        have olo := orr.lo
        have ohi := orr.hi
        have orr2 := orr.base hHeld.size
        clear orr
        replace bn := bn.keep hb
        (try go_simp)
        have hHn := hHeld.trans (hb.mono hHeld.size)
        have hsz3 := hHeld.size
        refine hK.out _ _ (hHn) (fun hHeld2 => ?_)
        replace hHeld := hHeld2
        clear hHeld2 hK K hHn hb
        try simp only [List.getElem_toArray, List.getElem_cons_succ, List.getElem_cons_zero, Act.put, List.setIfInBounds_toArray, List.set_cons_zero, List.set_cons_succ]
        refine wpAnyH_take (i := 5) (v := ?v11) rfl (by kernel_rfl) (by kernel_rfl) (by kernel_rfl) (fun _ _ _ h => h) (Or.inl ⟨by rfl, ?hy11⟩) (by assumption) ?rest11
        case hy11 => intro X hX; (try dsimp only at hX); go_simp <;> with_reducible rfl
        try simp only [List.getElem_toArray, List.getElem_cons_succ, List.getElem_cons_zero, Act.put, List.setIfInBounds_toArray, List.set_cons_zero, List.set_cons_succ]
        refine wpAnyH_take (i := 6) (v := ?v12) rfl (by kernel_rfl) (by kernel_rfl) (by kernel_rfl) (fun _ _ _ h => h) (Or.inl ⟨by rfl, ?hy12⟩) (by assumption) ?rest12
        case hy12 => intro X hX; (try dsimp only at hX); go_simp <;> with_reducible rfl
        try simp only [List.getElem_toArray, List.getElem_cons_succ, List.getElem_cons_zero, Act.put, List.setIfInBounds_toArray, List.set_cons_zero, List.set_cons_succ]
        refine wpAnyH_take (i := 7) (v := ?v13) rfl (by kernel_rfl) (by kernel_rfl) (by kernel_rfl) (fun _ _ _ h => h) (Or.inl ⟨by rfl, ?hy13⟩) (by assumption) ?rest13
        case hy13 => intro X hX; (try dsimp only at hX); go_simp <;> with_reducible rfl
        try simp only [List.getElem_toArray, List.getElem_cons_succ, List.getElem_cons_zero, Act.put, List.setIfInBounds_toArray, List.set_cons_zero, List.set_cons_succ]
        have hne : ∀ j, (Value.slice Ar R.length cr).ownBlock = some j → j ≠ q1.heap.size := fun j hj => by have := olo j hj; have := hlt; omega
        obtain ⟨b1, b2, b3⟩ := bn.cells
        have b4 := Box.froz bn 0
        have b5 := Box.froz bn 1
        have b6 := Box.froz bn 2
        have bx9 : Box _ (q1.heap.size) (Obj.cells #[.int .i64 Gr, .int .i64 Gn, .slice Ar R.length cr] 29) := ((bn.put (i := 0) (.int .i64 Gr)).put (i := 1) (.int .i64 Gn)).put (i := 2) (.slice Ar R.length cr)
        have o9 := ((orr2.set_ (i := 0) hne (.int .i64 Gr)).set_ (i := 1) hne (.int .i64 Gn)).set_ (i := 2) hne (.slice Ar R.length cr)
        have h9 := ((hHeld.setCell (p := ⟨q1.heap.size, 0, none⟩) hkb (.int .i64 Gr)).setCell (p := ⟨q1.heap.size, 1, none⟩) hkb (.int .i64 Gn)).setCell (p := ⟨q1.heap.size, 2, none⟩) hkb (.slice Ar R.length cr)
        refine wpAnyH_ready (rs := [9]) (by kernel_rfl) (by simp) ?_
        refine AllReadyH.cons rfl (fun K hK => ?_) AllReadyH.nil
        go_simp
        refine hK.out _ _ (h9) (fun hHeld2 => ?_)
        replace hHeld := hHeld2
        clear hHeld2 hK K
        try simp only [List.getElem_toArray, List.getElem_cons_succ, List.getElem_cons_zero, Act.put, List.setIfInBounds_toArray, List.set_cons_zero, List.set_cons_succ]
        refine wpAnyH_take (i := 10) (v := ?v14) rfl (by kernel_rfl) (by kernel_rfl) (by kernel_rfl) (fun _ _ _ h => h) (Or.inl ⟨by rfl, ?hy14⟩) (by assumption) ?rest14
        case hy14 => intro X hX; (try dsimp only at hX); go_simp <;> with_reducible rfl
        try simp only [List.getElem_toArray, List.getElem_cons_succ, List.getElem_cons_zero, Act.put, List.setIfInBounds_toArray, List.set_cons_zero, List.set_cons_succ]
        refine wpAnyH_done (by kernel_rfl) ?_ _
        go_wp2_with fail
        go_meet
        case rel => exact ⟨_, _, rfl, rfl, bx9, o9, hkb, hne, hHeld⟩
    · go_simp
      have bn : Box (World.alloc w1.drew (Obj.cells #[.int .i64 0, .int .i64 0, .slice none 0 0] 29)) (w1.heap.size) (Obj.cells #[.int .i64 0, .int .i64 0, .slice none 0 0] 29) := Box.new (w1.drew) (Obj.cells #[.int .i64 0, .int .i64 0, .slice none 0 0] 29)
      have hkb : w1.heap.size ≤ w1.heap.size := hHeld.size
      have hHn := hHeld.alloc hHeld.size (Obj.cells #[.int .i64 0, .int .i64 0, .slice none 0 0] 29)
      refine hK.out _ _ (hHn) (fun hHeld2 => ?_)
      replace hHeld := hHeld2
      clear hHeld2 hK K hHn
      try simp only [List.getElem_toArray, List.getElem_cons_succ, List.getElem_cons_zero, Act.put, List.setIfInBounds_toArray, List.set_cons_zero, List.set_cons_succ]
      refine wpAnyH_ready (rs := [1]) (by kernel_rfl) (by simp) ?_
      refine AllReadyH.cons rfl (fun K hK => ?_) AllReadyH.nil
      go_simp
      go_at_call 12
      refine (toGraph_arg r0 n0 A0 (hBW.trans (hHeld.mono hBW.size)) (by omega)).mono ?_
      rintro e q1 ⟨vz, rfl, oz, hb⟩
      replace bn := bn.keep hb
      (try go_simp)
      have hHn := hHeld.trans (hb.mono hHeld.size)
      refine hK.out _ _ (hHn) (fun hHeld2 => ?_)
      replace hHeld := hHeld2
      clear hHeld2 hK K hHn hb
      try simp only [List.getElem_toArray, List.getElem_cons_succ, List.getElem_cons_zero, Act.put, List.setIfInBounds_toArray, List.set_cons_zero, List.set_cons_succ]
      refine wpAnyH_ready (rs := [3]) (by kernel_rfl) (by simp) ?_
      refine AllReadyH.cons rfl (fun K hK => ?_) AllReadyH.nil
      go_simp
      go_at_call 22
      refine (toEdge_any x1 y1 z1 _).mono ?_
      rintro e q2 ⟨rfl, hb⟩
      replace oz := oz.keep hb
      replace bn := bn.keep hb
      (try go_simp)
      have hHn := hHeld.trans (hb.mono hHeld.size)
      refine hK.out _ _ (hHn) (fun hHeld2 => ?_)
      replace hHeld := hHeld2
      clear hHeld2 hK K hHn hb
      try simp only [List.getElem_toArray, List.getElem_cons_succ, List.getElem_cons_zero, Act.put, List.setIfInBounds_toArray, List.set_cons_zero, List.set_cons_succ]
      refine wpAnyH_ready (rs := [4]) (by kernel_rfl) (by simp) ?_
      refine AllReadyH.cons rfl (fun K hK => ?_) AllReadyH.nil
      have hlt : w1.heap.size < q2.heap.size := bn.lt
      go_simp
      go_at_call 21
      refine (CS.out _ _ (OwnN.edges (.inr oz)) (OwnN.nilOk (.inr oz))).mono ?_
      rintro e q3 ⟨vr, rfl, orr, hb⟩
      obtain ⟨Ar, cr, rfl⟩ := orr.edges.form
      have olo := orr.lo
      have ohi := orr.hi
      have orr2 := orr.base hHeld.size
      clear orr
      replace bn := bn.keep hb
      (try go_simp)
      have hHn := hHeld.trans (hb.mono hHeld.size)
      have hsz3 := hHeld.size
      refine hK.out _ _ (hHn) (fun hHeld2 => ?_)
      replace hHeld := hHeld2
      clear hHeld2 hK K hHn hb
      try simp only [List.getElem_toArray, List.getElem_cons_succ, List.getElem_cons_zero, Act.put, List.setIfInBounds_toArray, List.set_cons_zero, List.set_cons_succ]
      refine wpAnyH_take (i := 5) (v := ?v15) rfl (by kernel_rfl) (by kernel_rfl) (by kernel_rfl) (fun _ _ _ h => h) (Or.inl ⟨by rfl, ?hy15⟩) (by assumption) ?rest15
      case hy15 => intro X hX; (try dsimp only at hX); go_simp <;> with_reducible rfl
      try simp only [List.getElem_toArray, List.getElem_cons_succ, List.getElem_cons_zero, Act.put, List.setIfInBounds_toArray, List.set_cons_zero, List.set_cons_succ]
      refine wpAnyH_take (i := 6) (v := ?v16) rfl (by kernel_rfl) (by kernel_rfl) (by kernel_rfl) (fun _ _ _ h => h) (Or.inl ⟨by rfl, ?hy16⟩) (by assumption) ?rest16
      case hy16 => intro X hX; (try dsimp only at hX); go_simp <;> with_reducible rfl
      try simp only [List.getElem_toArray, List.getElem_cons_succ, List.getElem_cons_zero, Act.put, List.setIfInBounds_toArray, List.set_cons_zero, List.set_cons_succ]
      refine wpAnyH_take (i := 7) (v := ?v17) rfl (by kernel_rfl) (by kernel_rfl) (by kernel_rfl) (fun _ _ _ h => h) (Or.inl ⟨by rfl, ?hy17⟩) (by assumption) ?rest17
      case hy17 => intro X hX; (try dsimp only at hX); go_simp <;> with_reducible rfl
      try simp only [List.getElem_toArray, List.getElem_cons_succ, List.getElem_cons_zero, Act.put, List.setIfInBounds_toArray, List.set_cons_zero, List.set_cons_succ]
      have hne : ∀ j, (Value.slice Ar R.length cr).ownBlock = some j → j ≠ w1.heap.size := fun j hj => by have := olo j hj; have := hlt; omega
      obtain ⟨b1, b2, b3⟩ := bn.cells
      have b4 := Box.froz bn 0
      have b5 := Box.froz bn 1
      have b6 := Box.froz bn 2
      have bx9 : Box _ (w1.heap.size) (Obj.cells #[.int .i64 Gr, .int .i64 Gn, .slice Ar R.length cr] 29) := ((bn.put (i := 0) (.int .i64 Gr)).put (i := 1) (.int .i64 Gn)).put (i := 2) (.slice Ar R.length cr)
      have o9 := ((orr2.set_ (i := 0) hne (.int .i64 Gr)).set_ (i := 1) hne (.int .i64 Gn)).set_ (i := 2) hne (.slice Ar R.length cr)
      have h9 := ((hHeld.setCell (p := ⟨w1.heap.size, 0, none⟩) hkb (.int .i64 Gr)).setCell (p := ⟨w1.heap.size, 1, none⟩) hkb (.int .i64 Gn)).setCell (p := ⟨w1.heap.size, 2, none⟩) hkb (.slice Ar R.length cr)
      refine wpAnyH_ready (rs := [9]) (by kernel_rfl) (by simp) ?_
      refine AllReadyH.cons rfl (fun K hK => ?_) AllReadyH.nil
      go_simp
      refine hK.out _ _ (h9) (fun hHeld2 => ?_)
      replace hHeld := hHeld2
      clear hHeld2 hK K
      try simp only [List.getElem_toArray, List.getElem_cons_succ, List.getElem_cons_zero, Act.put, List.setIfInBounds_toArray, List.set_cons_zero, List.set_cons_succ]
      refine wpAnyH_take (i := 10) (v := ?v18) rfl (by kernel_rfl) (by kernel_rfl) (by kernel_rfl) (fun _ _ _ h => h) (Or.inl ⟨by rfl, ?hy18⟩) (by assumption) ?rest18
      case hy18 => intro X hX; (try dsimp only at hX); go_simp <;> with_reducible rfl
      try simp only [List.getElem_toArray, List.getElem_cons_succ, List.getElem_cons_zero, Act.put, List.setIfInBounds_toArray, List.set_cons_zero, List.set_cons_succ]
      refine wpAnyH_done (by kernel_rfl) ?_ _
      go_wp2_with fail
      go_meet
      case rel => exact ⟨_, _, rfl, rfl, bx9, o9, hkb, hne, hHeld⟩
  case rest =>
  obtain ⟨kw, vw, rfl, rfl, bw, ow, hkw, hnw, hb⟩ := hcut
  rename World => wA
  replace hP := hP.trans (hb.mono hP.size)
  clear pg1 pg2 pg3 pe1 pe2 pe3 nb1 nb2 nb3 nb4 hBW hb
  have hBW := hB.trans (hP.mono hB.size)
  have hA := Below.refl wA.heap.size wA
  have hPA := hP.size
  have BW := Lib.hid bw
  have OW := Lib.hid ow
  obtain ⟨Aw, cw, rfl⟩ := ow.edges.form
  clear bw ow
  obtain ⟨pg1, pg2, pg3⟩ := (BXG.out.keep hP).cells
  go_wp2_with fail
  refine (toGraph_arg r0 n0 A0 hBW (by omega)).mono ?_
  rintro e w4 ⟨vx, rfl, oex, hb⟩
  have ox : OwnN _ _ _ _ := .inr oex
  have xlo := ox.lo
  obtain ⟨Ax, cx, rfl⟩ := ox.edges.form
  have hal := (Below.refl w4.heap.size w4).alloc (Nat.le_refl _) (Obj.cells #[.int .i64 r0, .int .i64 n0, .slice Ax L0.length cx] 29)
  have bxx := Box.new w4 (Obj.cells #[.int .i64 r0, .int .i64 n0, .slice Ax L0.length cx] 29)
  replace ox := ox.keep hal
  have hb2 := hb.trans (hal.mono hb.size)
  replace hP := hP.trans (hb2.mono hP.size)
  replace hA := hA.trans (hb2.mono hA.size)
  obtain ⟨wX, hwX⟩ : ∃ z, z = w4.alloc (Obj.cells #[.int .i64 r0, .int .i64 n0, .slice Ax L0.length cx] 29) := ⟨_, rfl⟩
  have xhi := ox.hi
  rw [← hwX] at ox bxx hP hA xhi
  have HWX := Lib.hid hwX
  have OX := Lib.hid ox
  have BXX := Lib.hid bxx
  have hX := Below.refl wX.heap.size wX
  have hAX := hA.size
  obtain ⟨kx, hkx⟩ : ∃ z, z = w4.heap.size := ⟨_, rfl⟩
  have hBWX := hB.trans (hP.mono hB.size)
  clear hBW pg1 pg2 pg3 oex ox bxx hal hb hb2 hwX
  have hBW := hBWX
  clear hBWX
  go_wp2
  rw [← HWX.out]
  go_upto_region 7 with fail
  go_cut [9, 10] from 16 (fun s1 s2 X => ∃ (kb : Nat) (v : Value), s1 = .pointer (some ⟨kb, 0, none⟩) ∧ s2 = .bool V ∧ Box X kb (Obj.cells #[.int .i64 Gr, .int .i64 Gn, v] 29) ∧ OwnN X wX.heap.size v R ∧ wX.heap.size ≤ kb ∧ (∀ j, v.ownBlock = some j → j ≠ kb) ∧ Below wX.heap.size wX X)
  case first =>
    refine wp_region_held_drew (S := fun X => Below wX.heap.size wX X) (by kernel_rfl) ((Below.refl wX.heap.size wX).drew) (fun hHeld => ?_)
    refine wpAnyH_take (i := 0) (v := ?v19) rfl (by kernel_rfl) (by kernel_rfl) (by kernel_rfl) (fun _ _ _ h => h) (Or.inl ⟨by rfl, ?hy19⟩) (by assumption) ?rest19
    case hy19 => intro X hX; (try dsimp only at hX); obtain ⟨c1, c2, c3⟩ := (BXX.out.keep hX).cells; go_simp <;> with_reducible rfl
    try simp only [List.getElem_toArray, List.getElem_cons_zero, Act.put, List.setIfInBounds_toArray, List.set_cons_zero, List.set_cons_succ]
    refine wpAnyH_take (i := 1) (v := ?v20) rfl (by kernel_rfl) (by kernel_rfl) (by kernel_rfl) (fun _ _ _ h => h) (Or.inl ⟨by rfl, ?hy20⟩) (by assumption) ?rest20
    case hy20 => intro X hX; (try dsimp only at hX); obtain ⟨c1, c2, c3⟩ := (BXE.out.keep (hP.trans (hX.mono hP.size))).cells; go_simp <;> with_reducible rfl
    try simp only [List.getElem_toArray, List.getElem_cons_succ, List.getElem_cons_zero, Act.put, List.setIfInBounds_toArray, List.set_cons_zero, List.set_cons_succ]
    refine wpAnyH_ready (rs := [2, 7]) (by kernel_rfl) (by simp) ?_
    refine AllReadyH.cons rfl (fun K hK => ?_) (AllReadyH.cons rfl (fun K hK => ?_) AllReadyH.nil)
    · go_simp
      go_at_call 22
      refine (toEdge_any x1 y1 z1 _).mono ?_
      rintro e q2 ⟨rfl, hb⟩
      (try go_simp)
      have hHn := hHeld.trans (hb.mono hHeld.size)
      refine hK.out _ _ (hHn) (fun hHeld2 => ?_)
      replace hHeld := hHeld2
      clear hHeld2 hK K hHn hb
      try simp only [List.getElem_toArray, List.getElem_cons_succ, List.getElem_cons_zero, Act.put, List.setIfInBounds_toArray, List.set_cons_zero, List.set_cons_succ]
      refine wpAnyH_ready (rs := [3, 7]) (by kernel_rfl) (by simp) ?_
      refine AllReadyH.cons rfl (fun K hK => ?_) (AllReadyH.cons rfl (fun K hK => ?_) AllReadyH.nil)
      · go_simp
        go_at_call 23
        refine (CI.out _ _ (OX.out.keep hHeld).edges OX.out.nilOk).mono ?_
        rintro e q3 ⟨vr, rfl, orr, hb⟩
        obtain ⟨Ar, cr, rfl⟩ := orr.edges.form
        have olo := orr.lo
        have ohi := orr.hi
        have orr2 := orr.base hHeld.size
        clear orr
        (try go_simp)
        have hHn := hHeld.trans (hb.mono hHeld.size)
        have hsz3 := hHeld.size
        refine hK.out _ _ (hHn) (fun hHeld2 => ?_)
        replace hHeld := hHeld2
        clear hHeld2 hK K hHn hb
        try simp only [List.getElem_toArray, List.getElem_cons_succ, List.getElem_cons_zero, Act.put, List.setIfInBounds_toArray, List.set_cons_zero, List.set_cons_succ]
        refine wpAnyH_take (i := 4) (v := ?v21) rfl (by kernel_rfl) (by kernel_rfl) (by kernel_rfl) (fun _ _ _ h => h) (Or.inl ⟨by rfl, ?hy21⟩) (by assumption) ?rest21
        case hy21 => intro X hX; (try dsimp only at hX); go_simp <;> with_reducible rfl
        try simp only [List.getElem_toArray, List.getElem_cons_succ, List.getElem_cons_zero, Act.put, List.setIfInBounds_toArray, List.set_cons_zero, List.set_cons_succ]
        refine wpAnyH_take (i := 5) (v := ?v22) rfl (by kernel_rfl) (by kernel_rfl) (by kernel_rfl) (fun _ _ _ h => h) (Or.inl ⟨by rfl, ?hy22⟩) (by assumption) ?rest22
        case hy22 => intro X hX; (try dsimp only at hX); go_simp <;> with_reducible rfl
        try simp only [List.getElem_toArray, List.getElem_cons_succ, List.getElem_cons_zero, Act.put, List.setIfInBounds_toArray, List.set_cons_zero, List.set_cons_succ]
        refine wpAnyH_take (i := 6) (v := ?v23) rfl (by kernel_rfl) (by kernel_rfl) (by kernel_rfl) (fun _ _ _ h => h) (Or.inl ⟨by rfl, ?hy23⟩) (by assumption) ?rest23
        case hy23 => intro X hX; (try dsimp only at hX); go_simp <;> with_reducible rfl
        try simp only [List.getElem_toArray, List.getElem_cons_succ, List.getElem_cons_zero, Act.put, List.setIfInBounds_toArray, List.set_cons_zero, List.set_cons_succ]
        have hH0 := hHeld
        refine wpAnyH_ready (rs := [7]) (by kernel_rfl) (by simp) ?_
        refine AllReadyH.cons rfl (fun K hK => ?_) AllReadyH.nil
        go_simp
        have hHn := hHeld.alloc hHeld.size (Obj.cells #[.int .i64 0, .int .i64 0, .slice none 0 0] 29)
        have hkb : wX.heap.size ≤ q3.heap.size := hHeld.size
        have hne : ∀ j, (Value.slice Ar R.length cr).ownBlock = some j → j ≠ q3.heap.size := fun j hj => Nat.ne_of_lt (ohi j hj)
        refine hK.out _ _ (hHn) (fun hHeld2 => ?_)
        replace hHeld := hHeld2
        clear hHeld2 hK K hHn
        try simp only [List.getElem_toArray, List.getElem_cons_succ, List.getElem_cons_zero, Act.put, List.setIfInBounds_toArray, List.set_cons_zero, List.set_cons_succ]
        refine wpAnyH_ready (rs := [8]) (by kernel_rfl) (by simp) ?_
        refine AllReadyH.cons rfl (fun K hK => ?_) AllReadyH.nil
        go_simp
        refine hK.out _ _ (hH0.alloc hH0.size _) (fun hHeld2 => ?_)
        replace hHeld := hHeld2
        clear hHeld2 hK K
        try simp only [List.getElem_toArray, List.getElem_cons_succ, List.getElem_cons_zero, Act.put, List.setIfInBounds_toArray, List.set_cons_zero, List.set_cons_succ]
        refine wpAnyH_take (i := 9) (v := ?v24) rfl (by kernel_rfl) (by kernel_rfl) (by kernel_rfl) (fun _ _ _ h => h) (Or.inl ⟨by rfl, ?hy24⟩) (by assumption) ?rest24
        case hy24 => intro X hX; (try dsimp only at hX); go_simp <;> with_reducible rfl
        try simp only [List.getElem_toArray, List.getElem_cons_succ, List.getElem_cons_zero, Act.put, List.setIfInBounds_toArray, List.set_cons_zero, List.set_cons_succ]
        refine wpAnyH_done (by kernel_rfl) ?_ _
        go_wp2_with fail
        go_meet
        case rel => exact ⟨_, _, rfl, rfl, Box.new _ _, orr2.keep ((Below.refl _ _).alloc (Nat.le_refl _) _), hkb, hne, hHeld⟩
      · go_simp
        have bn : Box (World.alloc q2 (Obj.cells #[.int .i64 0, .int .i64 0, .slice none 0 0] 29)) (q2.heap.size) (Obj.cells #[.int .i64 0, .int .i64 0, .slice none 0 0] 29) := Box.new (q2) (Obj.cells #[.int .i64 0, .int .i64 0, .slice none 0 0] 29)
        have hkb : wX.heap.size ≤ q2.heap.size := hHeld.size
        have hHn := hHeld.alloc hHeld.size (Obj.cells #[.int .i64 0, .int .i64 0, .slice none 0 0] 29)
        refine hK.out _ _ (hHn) (fun hHeld2 => ?_)
        replace hHeld := hHeld2
        clear hHeld2 hK K hHn
        try simp only [List.getElem_toArray, List.getElem_cons_succ, List.getElem_cons_zero, Act.put, List.setIfInBounds_toArray, List.set_cons_zero, List.set_cons_succ]
        refine wpAnyH_ready (rs := [3]) (by kernel_rfl) (by simp) ?_
        refine AllReadyH.cons rfl (fun K hK => ?_) AllReadyH.nil
        have hlt : q2.heap.size < (q2.alloc (Obj.cells #[.int .i64 0, .int .i64 0, .slice none 0 0] 29)).heap.size := bn.lt
        go_simp
        go_at_call 23
        refine (CI.out _ _ (OX.out.keep hHeld).edges OX.out.nilOk).mono ?_
        rintro e q3 ⟨vr, rfl, orr, hb⟩
        obtain ⟨Ar, cr, rfl⟩ := orr.edges.form
        have olo := orr.lo
        have ohi := orr.hi
        have orr2 := orr.base hHeld.size
        clear orr
        replace bn := bn.keep hb
        (try go_simp)
        have hHn := hHeld.trans (hb.mono hHeld.size)
        have hsz3 := hHeld.size
        refine hK.out _ _ (hHn) (fun hHeld2 => ?_)
        replace hHeld := hHeld2
        clear hHeld2 hK K hHn hb
        try simp only [List.getElem_toArray, List.getElem_cons_succ, List.getElem_cons_zero, Act.put, List.setIfInBounds_toArray, List.set_cons_zero, List.set_cons_succ]
        refine wpAnyH_take (i := 4) (v := ?v25) rfl (by kernel_rfl) (by kernel_rfl) (by kernel_rfl) (fun _ _ _ h => h) (Or.inl ⟨by rfl, ?hy25⟩) (by assumption) ?rest25
        case hy25 => intro X hX; (try dsimp only at hX); go_simp <;> with_reducible rfl
        try simp only [List.getElem_toArray, List.getElem_cons_succ, List.getElem_cons_zero, Act.put, List.setIfInBounds_toArray, List.set_cons_zero, List.set_cons_succ]
        refine wpAnyH_take (i := 5) (v := ?v26) rfl (by kernel_rfl) (by kernel_rfl) (by kernel_rfl) (fun _ _ _ h => h) (Or.inl ⟨by rfl, ?hy26⟩) (by assumption) ?rest26
        case hy26 => intro X hX; (try dsimp only at hX); go_simp <;> with_reducible rfl
        try simp only [List.getElem_toArray, List.getElem_cons_succ, List.getElem_cons_zero, Act.put, List.setIfInBounds_toArray, List.set_cons_zero, List.set_cons_succ]
        refine wpAnyH_take (i := 6) (v := ?v27) rfl (by kernel_rfl) (by kernel_rfl) (by kernel_rfl) (fun _ _ _ h => h) (Or.inl ⟨by rfl, ?hy27⟩) (by assumption) ?rest27
        case hy27 => intro X hX; (try dsimp only at hX); go_simp <;> with_reducible rfl
        try simp only [List.getElem_toArray, List.getElem_cons_succ, List.getElem_cons_zero, Act.put, List.setIfInBounds_toArray, List.set_cons_zero, List.set_cons_succ]
        have hne : ∀ j, (Value.slice Ar R.length cr).ownBlock = some j → j ≠ q2.heap.size := fun j hj => by have := olo j hj; have := hlt; omega
        obtain ⟨b1, b2, b3⟩ := bn.cells
        have b4 := Box.froz bn 0
        have b5 := Box.froz bn 1
        have b6 := Box.froz bn 2
        have bx9 : Box _ (q2.heap.size) (Obj.cells #[.int .i64 Gr, .int .i64 Gn, .slice Ar R.length cr] 29) := ((bn.put (i := 0) (.int .i64 Gr)).put (i := 1) (.int .i64 Gn)).put (i := 2) (.slice Ar R.length cr)
        have o9 := ((orr2.set_ (i := 0) hne (.int .i64 Gr)).set_ (i := 1) hne (.int .i64 Gn)).set_ (i := 2) hne (.slice Ar R.length cr)
        have h9 := ((hHeld.setCell (p := ⟨q2.heap.size, 0, none⟩) hkb (.int .i64 Gr)).setCell (p := ⟨q2.heap.size, 1, none⟩) hkb (.int .i64 Gn)).setCell (p := ⟨q2.heap.size, 2, none⟩) hkb (.slice Ar R.length cr)
        refine wpAnyH_ready (rs := [8]) (by kernel_rfl) (by simp) ?_
        refine AllReadyH.cons rfl (fun K hK => ?_) AllReadyH.nil
        go_simp
        refine hK.out _ _ (h9) (fun hHeld2 => ?_)
        replace hHeld := hHeld2
        clear hHeld2 hK K
        try simp only [List.getElem_toArray, List.getElem_cons_succ, List.getElem_cons_zero, Act.put, List.setIfInBounds_toArray, List.set_cons_zero, List.set_cons_succ]
        refine wpAnyH_take (i := 9) (v := ?v28) rfl (by kernel_rfl) (by kernel_rfl) (by kernel_rfl) (fun _ _ _ h => h) (Or.inl ⟨by rfl, ?hy28⟩) (by assumption) ?rest28
        case hy28 => intro X hX; (try dsimp only at hX); go_simp <;> with_reducible rfl
        try simp only [List.getElem_toArray, List.getElem_cons_succ, List.getElem_cons_zero, Act.put, List.setIfInBounds_toArray, List.set_cons_zero, List.set_cons_succ]
        refine wpAnyH_done (by kernel_rfl) ?_ _
        go_wp2_with fail
        go_meet
        case rel => exact ⟨_, _, rfl, rfl, bx9, o9, hkb, hne, hHeld⟩
    · go_simp
      have bn : Box (World.alloc wX.drew (Obj.cells #[.int .i64 0, .int .i64 0, .slice none 0 0] 29)) (wX.heap.size) (Obj.cells #[.int .i64 0, .int .i64 0, .slice none 0 0] 29) := Box.new (wX.drew) (Obj.cells #[.int .i64 0, .int .i64 0, .slice none 0 0] 29)
      have hkb : wX.heap.size ≤ wX.heap.size := hHeld.size
      have hHn := hHeld.alloc hHeld.size (Obj.cells #[.int .i64 0, .int .i64 0, .slice none 0 0] 29)
      refine hK.out _ _ (hHn) (fun hHeld2 => ?_)
      replace hHeld := hHeld2
      clear hHeld2 hK K hHn
      try simp only [List.getElem_toArray, List.getElem_cons_succ, List.getElem_cons_zero, Act.put, List.setIfInBounds_toArray, List.set_cons_zero, List.set_cons_succ]
      refine wpAnyH_ready (rs := [2]) (by kernel_rfl) (by simp) ?_
      refine AllReadyH.cons rfl (fun K hK => ?_) AllReadyH.nil
      go_simp
      go_at_call 22
      refine (toEdge_any x1 y1 z1 _).mono ?_
      rintro e q2 ⟨rfl, hb⟩
      replace bn := bn.keep hb
      (try go_simp)
      have hHn := hHeld.trans (hb.mono hHeld.size)
      refine hK.out _ _ (hHn) (fun hHeld2 => ?_)
      replace hHeld := hHeld2
      clear hHeld2 hK K hHn hb
      try simp only [List.getElem_toArray, List.getElem_cons_succ, List.getElem_cons_zero, Act.put, List.setIfInBounds_toArray, List.set_cons_zero, List.set_cons_succ]
      refine wpAnyH_ready (rs := [3]) (by kernel_rfl) (by simp) ?_
      refine AllReadyH.cons rfl (fun K hK => ?_) AllReadyH.nil
      have hlt : wX.heap.size < q2.heap.size := bn.lt
      go_simp
      go_at_call 23
      refine (CI.out _ _ (OX.out.keep hHeld).edges OX.out.nilOk).mono ?_
      rintro e q3 ⟨vr, rfl, orr, hb⟩
      obtain ⟨Ar, cr, rfl⟩ := orr.edges.form
      have olo := orr.lo
      have ohi := orr.hi
      have orr2 := orr.base hHeld.size
      clear orr
      replace bn := bn.keep hb
      (try go_simp)
      have hHn := hHeld.trans (hb.mono hHeld.size)
      have hsz3 := hHeld.size
      refine hK.out _ _ (hHn) (fun hHeld2 => ?_)
      replace hHeld := hHeld2
      clear hHeld2 hK K hHn hb
      try simp only [List.getElem_toArray, List.getElem_cons_succ, List.getElem_cons_zero, Act.put, List.setIfInBounds_toArray, List.set_cons_zero, List.set_cons_succ]
      refine wpAnyH_take (i := 4) (v := ?v29) rfl (by kernel_rfl) (by kernel_rfl) (by kernel_rfl) (fun _ _ _ h => h) (Or.inl ⟨by rfl, ?hy29⟩) (by assumption) ?rest29
      case hy29 => intro X hX; (try dsimp only at hX); go_simp <;> with_reducible rfl
      try simp only [List.getElem_toArray, List.getElem_cons_succ, List.getElem_cons_zero, Act.put, List.setIfInBounds_toArray, List.set_cons_zero, List.set_cons_succ]
      refine wpAnyH_take (i := 5) (v := ?v30) rfl (by kernel_rfl) (by kernel_rfl) (by kernel_rfl) (fun _ _ _ h => h) (Or.inl ⟨by rfl, ?hy30⟩) (by assumption) ?rest30
      case hy30 => intro X hX; (try dsimp only at hX); go_simp <;> with_reducible rfl
      try simp only [List.getElem_toArray, List.getElem_cons_succ, List.getElem_cons_zero, Act.put, List.setIfInBounds_toArray, List.set_cons_zero, List.set_cons_succ]
      refine wpAnyH_take (i := 6) (v := ?v31) rfl (by kernel_rfl) (by kernel_rfl) (by kernel_rfl) (fun _ _ _ h => h) (Or.inl ⟨by rfl, ?hy31⟩) (by assumption) ?rest31
      case hy31 => intro X hX; (try dsimp only at hX); go_simp <;> with_reducible rfl
      try simp only [List.getElem_toArray, List.getElem_cons_succ, List.getElem_cons_zero, Act.put, List.setIfInBounds_toArray, List.set_cons_zero, List.set_cons_succ]
      have hne : ∀ j, (Value.slice Ar R.length cr).ownBlock = some j → j ≠ wX.heap.size := fun j hj => by have := olo j hj; have := hlt; omega
      obtain ⟨b1, b2, b3⟩ := bn.cells
      have b4 := Box.froz bn 0
      have b5 := Box.froz bn 1
      have b6 := Box.froz bn 2
      have bx9 : Box _ (wX.heap.size) (Obj.cells #[.int .i64 Gr, .int .i64 Gn, .slice Ar R.length cr] 29) := ((bn.put (i := 0) (.int .i64 Gr)).put (i := 1) (.int .i64 Gn)).put (i := 2) (.slice Ar R.length cr)
      have o9 := ((orr2.set_ (i := 0) hne (.int .i64 Gr)).set_ (i := 1) hne (.int .i64 Gn)).set_ (i := 2) hne (.slice Ar R.length cr)
      have h9 := ((hHeld.setCell (p := ⟨wX.heap.size, 0, none⟩) hkb (.int .i64 Gr)).setCell (p := ⟨wX.heap.size, 1, none⟩) hkb (.int .i64 Gn)).setCell (p := ⟨wX.heap.size, 2, none⟩) hkb (.slice Ar R.length cr)
      refine wpAnyH_ready (rs := [8]) (by kernel_rfl) (by simp) ?_
      refine AllReadyH.cons rfl (fun K hK => ?_) AllReadyH.nil
      go_simp
      refine hK.out _ _ (h9) (fun hHeld2 => ?_)
      replace hHeld := hHeld2
      clear hHeld2 hK K
      try simp only [List.getElem_toArray, List.getElem_cons_succ, List.getElem_cons_zero, Act.put, List.setIfInBounds_toArray, List.set_cons_zero, List.set_cons_succ]
      refine wpAnyH_take (i := 9) (v := ?v32) rfl (by kernel_rfl) (by kernel_rfl) (by kernel_rfl) (fun _ _ _ h => h) (Or.inl ⟨by rfl, ?hy32⟩) (by assumption) ?rest32
      case hy32 => intro X hX; (try dsimp only at hX); go_simp <;> with_reducible rfl
      try simp only [List.getElem_toArray, List.getElem_cons_succ, List.getElem_cons_zero, Act.put, List.setIfInBounds_toArray, List.set_cons_zero, List.set_cons_succ]
      refine wpAnyH_done (by kernel_rfl) ?_ _
      go_wp2_with fail
      go_meet
      case rel => exact ⟨_, _, rfl, rfl, bx9, o9, hkb, hne, hHeld⟩
  case rest =>
  obtain ⟨kg, vg, rfl, rfl, bg, og, hkg, hng, hb⟩ := hcut
  rename World => wG
  replace hP := hP.trans (hb.mono hP.size)
  replace hA := hA.trans (hb.mono hA.size)
  replace hX := hX.trans (hb.mono hX.size)
  have hBG := hB.trans (hP.mono hB.size)
  clear hBW hb
  have hBW := hBG
  clear hBG
  have glo := og.lo
  obtain ⟨Ag, cg, rfl⟩ := og.edges.form
  obtain ⟨b1, b2, b3⟩ := bg.cells
  obtain ⟨a1, a2, a3⟩ := (BW.out.keep hA).cells
  go_wp2_with fail
  refine (eqGraph_any Gr Gn _ _ R _ og.edges (OW.out.keep hA).edges (by omega)).mono ?_
  rintro e w10 ⟨rfl, hb⟩
  replace bg := bg.keep hb
  replace og := og.keep hb
  replace hP := hP.trans (hb.mono hP.size)
  replace hA := hA.trans (hb.mono hA.size)
  replace hX := hX.trans (hb.mono hX.size)
  replace hBW := hBW.trans (hb.mono hBW.size)
  clear b1 b2 b3 a1 a2 a3 hb
  obtain ⟨pg1, pg2, pg3⟩ := (BXG.out.keep hP).cells
  obtain ⟨xb1, xb2, xb3⟩ := (BXX.out.keep hX).cells
  have hd := (Below.refl w10.heap.size w10).drew
  go_upto_region 10 with fail
  go_cut [51] from 16 (fun s X => s = .bool false ∧ Below w10.heap.size w10 X)
  case first =>
    go_region_law (first
      | (go_simp; go_at_call 12; refine (toGraph_arg r0 n0 A0 (hBW.trans (hd.mono hBW.size)) (by omega)).mono ?_; rintro e q1 ⟨v_tt, rfl, o_tt, hb⟩; have hd2 := hd.trans (hb.mono hd.size); obtain ⟨s1, s2, s3⟩ := (BXX.out.keep (hX.trans (hd2.mono hX.size))).cells; obtain ⟨t1, t2, t3⟩ := (BXG.out.keep (hP.trans (hd2.mono hP.size))).cells)
      | (go_simp; go_at_call 14; refine (eqGraph_any r0 n0 _ _ L0 _ (OX.out.keep (hX.trans (hd2.mono hX.size))).edges o_tt.edges (by omega)).mono ?_; rintro e q2 ⟨rfl, hb3⟩; have hd3 := hd2.trans (hb3.mono hd2.size)))
    all_goals
      go_wp2_with fail
      go_meet
      case rel => exact ⟨rfl, hd3⟩
  case rest =>
  obtain ⟨rfl, hb⟩ := hcut
  rename World => w11
  replace bg := bg.keep hb
  replace og := og.keep hb
  replace hP := hP.trans (hb.mono hP.size)
  replace hA := hA.trans (hb.mono hA.size)
  replace hX := hX.trans (hb.mono hX.size)
  clear pg1 pg2 pg3 xb1 xb2 xb3 hb hd
  obtain ⟨xb1, xb2, xb3⟩ := (BXX.out.keep hX).cells
  go_wp2_with fail
  refine (markGraph_any r0 n0 _ _ _ (1) _ (OX.out.keep hX) (by omega) (by omega)).mono ?_
  rintro e w12 ⟨rfl, om, hg⟩
  replace bg := bg.grown hg (fun j hj => by have := xhi j hj; omega)
  replace og := og.apart hg (fun j h1 h2 => by have := glo j h1; have := xhi j h2; omega)
  replace hP := hP.grown hg hP.size (fun j hj => Nat.le_trans hPA (xlo j hj))
  replace hA := hA.grown hg hA.size xlo
  clear xb1 xb2 xb3 om hg hX
  obtain ⟨b1, b2, b3⟩ := bg.cells
  obtain ⟨a1, a2, a3⟩ := (BW.out.keep hA).cells
  go_wp2_with fail
  refine (eqGraph_any Gr Gn _ _ R _ og.edges (OW.out.keep hA).edges (by omega)).mono ?_
  rintro e w13 ⟨rfl, hb⟩
  replace bg := bg.keep hb
  replace og := og.keep hb
  replace hP := hP.trans (hb.mono hP.size)
  replace hA := hA.trans (hb.mono hA.size)
  clear b1 b2 b3 a1 a2 a3 hb
  obtain ⟨b1, b2, b3⟩ := bg.cells
  go_wp2_with fail
  refine (markGraph_any Gr Gn _ _ _ (1) _ og (by omega) (by omega)).mono ?_
  rintro e w14 ⟨rfl, om, hg⟩
  replace bg := bg.grown hg (fun j hj => (hng j hj).symm)
  replace hP := hP.grown hg hP.size (fun j hj => by have := glo j hj; omega)
  replace hA := hA.grown hg hA.size (fun j hj => by have := glo j hj; omega)
  clear b1 b2 b3 hg og
  obtain ⟨b1, b2, b3⟩ := bg.cells
  go_wp2_with fail
  refine (heldGraph_any Gr Gn _ R.length (1) _ om.edges (by omega) (by omega)).mono ?_
  rintro e w15 ⟨rfl, hb⟩
  replace bg := bg.keep hb
  replace om := om.keep hb
  replace hP := hP.trans (hb.mono hP.size)
  replace hA := hA.trans (hb.mono hA.size)
  clear b1 b2 b3 hb hBW
  have hBW := hB.trans (hP.mono hB.size)
  go_upto_region 24 with fail
  go_cut [14, 15] from 16 (fun s1 s2 X => ∃ (kb : Nat) (v : Value), s1 = .pointer (some ⟨kb, 0, none⟩) ∧ s2 = .bool V ∧ Box X kb (Obj.cells #[.int .i64 Gr, .int .i64 Gn, v] 29) ∧ OwnN X w15.heap.size v R ∧ w15.heap.size ≤ kb ∧ (∀ j, v.ownBlock = some j → j ≠ kb) ∧ Below w15.heap.size w15 X)
  case first =>
    refine wp_region_held_drew (S := fun X => Below w15.heap.size w15 X) (by kernel_rfl) ((Below.refl w15.heap.size w15).drew) (fun hHeld => ?_)
    refine wpAnyH_take (i := 0) (v := ?v33) rfl (by kernel_rfl) (by kernel_rfl) (by kernel_rfl) (fun _ _ _ h => h) (Or.inl ⟨by rfl, ?hy33⟩) (by assumption) ?rest33
    case hy33 => intro X hX; (try dsimp only at hX); obtain ⟨c1, c2, c3⟩ := (BXG.out.keep (hP.trans (hX.mono hP.size))).cells; go_simp <;> with_reducible rfl
    try simp only [List.getElem_toArray, List.getElem_cons_zero, Act.put, List.setIfInBounds_toArray, List.set_cons_zero, List.set_cons_succ]
    refine wpAnyH_take (i := 2) (v := ?v34) rfl (by kernel_rfl) (by kernel_rfl) (by kernel_rfl) (fun _ _ _ h => h) (Or.inl ⟨by rfl, ?hy34⟩) (by assumption) ?rest34
    case hy34 => intro X hX; (try dsimp only at hX); obtain ⟨c1, c2, c3⟩ := (BXE.out.keep (hP.trans (hX.mono hP.size))).cells; go_simp <;> with_reducible rfl
    try simp only [List.getElem_toArray, List.getElem_cons_succ, List.getElem_cons_zero, Act.put, List.setIfInBounds_toArray, List.set_cons_zero, List.set_cons_succ]
    refine wpAnyH_ready (rs := [1, 8]) (by kernel_rfl) (by simp) ?_
    refine AllReadyH.cons rfl (fun K hK => ?_) (AllReadyH.cons rfl (fun K hK => ?_) AllReadyH.nil)
    · go_simp
      go_at_call 12
      refine (toGraph_arg r0 n0 A0 (hBW.trans (hHeld.mono hBW.size)) (by omega)).mono ?_
      rintro e q1 ⟨vz, rfl, oz, hb⟩
      (try go_simp)
      have hHn := hHeld.trans (hb.mono hHeld.size)
      refine hK.out _ _ (hHn) (fun hHeld2 => ?_)
      replace hHeld := hHeld2
      clear hHeld2 hK K hHn hb
      try simp only [List.getElem_toArray, List.getElem_cons_succ, List.getElem_cons_zero, Act.put, List.setIfInBounds_toArray, List.set_cons_zero, List.set_cons_succ]
      refine wpAnyH_ready (rs := [3, 8]) (by kernel_rfl) (by simp) ?_
      refine AllReadyH.cons rfl (fun K hK => ?_) (AllReadyH.cons rfl (fun K hK => ?_) AllReadyH.nil)
      · go_simp
        go_at_call 22
        refine (toEdge_any x1 y1 z1 _).mono ?_
        rintro e q2 ⟨rfl, hb⟩
        replace oz := oz.keep hb
        (try go_simp)
        have hHn := hHeld.trans (hb.mono hHeld.size)
        refine hK.out _ _ (hHn) (fun hHeld2 => ?_)
        replace hHeld := hHeld2
        clear hHeld2 hK K hHn hb
        try simp only [List.getElem_toArray, List.getElem_cons_succ, List.getElem_cons_zero, Act.put, List.setIfInBounds_toArray, List.set_cons_zero, List.set_cons_succ]
        refine wpAnyH_ready (rs := [4, 8]) (by kernel_rfl) (by simp) ?_
        refine AllReadyH.cons rfl (fun K hK => ?_) (AllReadyH.cons rfl (fun K hK => ?_) AllReadyH.nil)
        · go_simp
          go_at_call 23
          refine (CI.out _ _ (OwnN.edges (.inr oz)) (OwnN.nilOk (.inr oz))).mono ?_
          rintro e q3 ⟨vr, rfl, orr, hb⟩
          obtain ⟨Ar, cr, rfl⟩ := orr.edges.form
          have olo := orr.lo
          have ohi := orr.hi
          have orr2 := orr.base hHeld.size
          clear orr
          (try go_simp)
          have hHn := hHeld.trans (hb.mono hHeld.size)
          have hsz3 := hHeld.size
          refine hK.out _ _ (hHn) (fun hHeld2 => ?_)
          replace hHeld := hHeld2
          clear hHeld2 hK K hHn hb
          try simp only [List.getElem_toArray, List.getElem_cons_succ, List.getElem_cons_zero, Act.put, List.setIfInBounds_toArray, List.set_cons_zero, List.set_cons_succ]
          refine wpAnyH_take (i := 5) (v := ?v35) rfl (by kernel_rfl) (by kernel_rfl) (by kernel_rfl) (fun _ _ _ h => h) (Or.inl ⟨by rfl, ?hy35⟩) (by assumption) ?rest35
          case hy35 => intro X hX; (try dsimp only at hX); go_simp <;> with_reducible rfl
          try simp only [List.getElem_toArray, List.getElem_cons_succ, List.getElem_cons_zero, Act.put, List.setIfInBounds_toArray, List.set_cons_zero, List.set_cons_succ]
          refine wpAnyH_take (i := 6) (v := ?v36) rfl (by kernel_rfl) (by kernel_rfl) (by kernel_rfl) (fun _ _ _ h => h) (Or.inl ⟨by rfl, ?hy36⟩) (by assumption) ?rest36
          case hy36 => intro X hX; (try dsimp only at hX); go_simp <;> with_reducible rfl
          try simp only [List.getElem_toArray, List.getElem_cons_succ, List.getElem_cons_zero, Act.put, List.setIfInBounds_toArray, List.set_cons_zero, List.set_cons_succ]
          refine wpAnyH_take (i := 7) (v := ?v37) rfl (by kernel_rfl) (by kernel_rfl) (by kernel_rfl) (fun _ _ _ h => h) (Or.inl ⟨by rfl, ?hy37⟩) (by assumption) ?rest37
          case hy37 => intro X hX; (try dsimp only at hX); go_simp <;> with_reducible rfl
          try simp only [List.getElem_toArray, List.getElem_cons_succ, List.getElem_cons_zero, Act.put, List.setIfInBounds_toArray, List.set_cons_zero, List.set_cons_succ]
          have hH0 := hHeld
          refine wpAnyH_ready (rs := [8]) (by kernel_rfl) (by simp) ?_
          refine AllReadyH.cons rfl (fun K hK => ?_) AllReadyH.nil
          go_simp
          have hHn := hHeld.alloc hHeld.size (Obj.cells #[.int .i64 0, .int .i64 0, .slice none 0 0] 29)
          have hkb : w15.heap.size ≤ q3.heap.size := hHeld.size
          have hne : ∀ j, (Value.slice Ar R.length cr).ownBlock = some j → j ≠ q3.heap.size := fun j hj => Nat.ne_of_lt (ohi j hj)
          refine hK.out _ _ (hHn) (fun hHeld2 => ?_)
          replace hHeld := hHeld2
          clear hHeld2 hK K hHn
          try simp only [List.getElem_toArray, List.getElem_cons_succ, List.getElem_cons_zero, Act.put, List.setIfInBounds_toArray, List.set_cons_zero, List.set_cons_succ]
          refine wpAnyH_ready (rs := [9]) (by kernel_rfl) (by simp) ?_
          refine AllReadyH.cons rfl (fun K hK => ?_) AllReadyH.nil
          go_simp
          refine hK.out _ _ (hH0.alloc hH0.size _) (fun hHeld2 => ?_)
          replace hHeld := hHeld2
          clear hHeld2 hK K
          try simp only [List.getElem_toArray, List.getElem_cons_succ, List.getElem_cons_zero, Act.put, List.setIfInBounds_toArray, List.set_cons_zero, List.set_cons_succ]
          refine wpAnyH_take (i := 10) (v := ?v38) rfl (by kernel_rfl) (by kernel_rfl) (by kernel_rfl) (fun _ _ _ h => h) (Or.inl ⟨by rfl, ?hy38⟩) (by assumption) ?rest38
          case hy38 => intro X hX; (try dsimp only at hX); go_simp <;> with_reducible rfl
          try simp only [List.getElem_toArray, List.getElem_cons_succ, List.getElem_cons_zero, Act.put, List.setIfInBounds_toArray, List.set_cons_zero, List.set_cons_succ]
          refine wpAnyH_done (by kernel_rfl) ?_ _
          go_wp2_with fail
          go_meet
          case rel => exact ⟨_, _, rfl, rfl, Box.new _ _, orr2.keep ((Below.refl _ _).alloc (Nat.le_refl _) _), hkb, hne, hHeld⟩
        · go_simp
          have bn : Box (World.alloc q2 (Obj.cells #[.int .i64 0, .int .i64 0, .slice none 0 0] 29)) (q2.heap.size) (Obj.cells #[.int .i64 0, .int .i64 0, .slice none 0 0] 29) := Box.new (q2) (Obj.cells #[.int .i64 0, .int .i64 0, .slice none 0 0] 29)
          have hkb : w15.heap.size ≤ q2.heap.size := hHeld.size
          have hHn := hHeld.alloc hHeld.size (Obj.cells #[.int .i64 0, .int .i64 0, .slice none 0 0] 29)
          replace oz := oz.keep ((Below.refl _ _).alloc (Nat.le_refl _) (Obj.cells #[.int .i64 0, .int .i64 0, .slice none 0 0] 29))
          refine hK.out _ _ (hHn) (fun hHeld2 => ?_)
          replace hHeld := hHeld2
          clear hHeld2 hK K hHn
          try simp only [List.getElem_toArray, List.getElem_cons_succ, List.getElem_cons_zero, Act.put, List.setIfInBounds_toArray, List.set_cons_zero, List.set_cons_succ]
          refine wpAnyH_ready (rs := [4]) (by kernel_rfl) (by simp) ?_
          refine AllReadyH.cons rfl (fun K hK => ?_) AllReadyH.nil
          have hlt : q2.heap.size < (q2.alloc (Obj.cells #[.int .i64 0, .int .i64 0, .slice none 0 0] 29)).heap.size := bn.lt
          go_simp
          go_at_call 23
          refine (CI.out _ _ (OwnN.edges (.inr oz)) (OwnN.nilOk (.inr oz))).mono ?_
          rintro e q3 ⟨vr, rfl, orr, hb⟩
          obtain ⟨Ar, cr, rfl⟩ := orr.edges.form
          have olo := orr.lo
          have ohi := orr.hi
          have orr2 := orr.base hHeld.size
          clear orr
          replace bn := bn.keep hb
          (try go_simp)
          have hHn := hHeld.trans (hb.mono hHeld.size)
          have hsz3 := hHeld.size
          refine hK.out _ _ (hHn) (fun hHeld2 => ?_)
          replace hHeld := hHeld2
          clear hHeld2 hK K hHn hb
          try simp only [List.getElem_toArray, List.getElem_cons_succ, List.getElem_cons_zero, Act.put, List.setIfInBounds_toArray, List.set_cons_zero, List.set_cons_succ]
          refine wpAnyH_take (i := 5) (v := ?v39) rfl (by kernel_rfl) (by kernel_rfl) (by kernel_rfl) (fun _ _ _ h => h) (Or.inl ⟨by rfl, ?hy39⟩) (by assumption) ?rest39
          case hy39 => intro X hX; (try dsimp only at hX); go_simp <;> with_reducible rfl
          try simp only [List.getElem_toArray, List.getElem_cons_succ, List.getElem_cons_zero, Act.put, List.setIfInBounds_toArray, List.set_cons_zero, List.set_cons_succ]
          refine wpAnyH_take (i := 6) (v := ?v40) rfl (by kernel_rfl) (by kernel_rfl) (by kernel_rfl) (fun _ _ _ h => h) (Or.inl ⟨by rfl, ?hy40⟩) (by assumption) ?rest40
          case hy40 => intro X hX; (try dsimp only at hX); go_simp <;> with_reducible rfl
          try simp only [List.getElem_toArray, List.getElem_cons_succ, List.getElem_cons_zero, Act.put, List.setIfInBounds_toArray, List.set_cons_zero, List.set_cons_succ]
          refine wpAnyH_take (i := 7) (v := ?v41) rfl (by kernel_rfl) (by kernel_rfl) (by kernel_rfl) (fun _ _ _ h => h) (Or.inl ⟨by rfl, ?hy41⟩) (by assumption) ?rest41
          case hy41 => intro X hX; (try dsimp only at hX); go_simp <;> with_reducible rfl
          try simp only [List.getElem_toArray, List.getElem_cons_succ, List.getElem_cons_zero, Act.put, List.setIfInBounds_toArray, List.set_cons_zero, List.set_cons_succ]
          have hne : ∀ j, (Value.slice Ar R.length cr).ownBlock = some j → j ≠ q2.heap.size := fun j hj => by have := olo j hj; have := hlt; omega
          obtain ⟨b1, b2, b3⟩ := bn.cells
          have b4 := Box.froz bn 0
          have b5 := Box.froz bn 1
          have b6 := Box.froz bn 2
          have bx9 : Box _ (q2.heap.size) (Obj.cells #[.int .i64 Gr, .int .i64 Gn, .slice Ar R.length cr] 29) := ((bn.put (i := 0) (.int .i64 Gr)).put (i := 1) (.int .i64 Gn)).put (i := 2) (.slice Ar R.length cr)
          have o9 := ((orr2.set_ (i := 0) hne (.int .i64 Gr)).set_ (i := 1) hne (.int .i64 Gn)).set_ (i := 2) hne (.slice Ar R.length cr)
          have h9 := ((hHeld.setCell (p := ⟨q2.heap.size, 0, none⟩) hkb (.int .i64 Gr)).setCell (p := ⟨q2.heap.size, 1, none⟩) hkb (.int .i64 Gn)).setCell (p := ⟨q2.heap.size, 2, none⟩) hkb (.slice Ar R.length cr)
          refine wpAnyH_ready (rs := [9]) (by kernel_rfl) (by simp) ?_
          refine AllReadyH.cons rfl (fun K hK => ?_) AllReadyH.nil
          go_simp
          refine hK.out _ _ (h9) (fun hHeld2 => ?_)
          replace hHeld := hHeld2
          clear hHeld2 hK K
          try simp only [List.getElem_toArray, List.getElem_cons_succ, List.getElem_cons_zero, Act.put, List.setIfInBounds_toArray, List.set_cons_zero, List.set_cons_succ]
          refine wpAnyH_take (i := 10) (v := ?v42) rfl (by kernel_rfl) (by kernel_rfl) (by kernel_rfl) (fun _ _ _ h => h) (Or.inl ⟨by rfl, ?hy42⟩) (by assumption) ?rest42
          case hy42 => intro X hX; (try dsimp only at hX); go_simp <;> with_reducible rfl
          try simp only [List.getElem_toArray, List.getElem_cons_succ, List.getElem_cons_zero, Act.put, List.setIfInBounds_toArray, List.set_cons_zero, List.set_cons_succ]
          refine wpAnyH_done (by kernel_rfl) ?_ _
          go_wp2_with fail
          go_meet
          case rel => exact ⟨_, _, rfl, rfl, bx9, o9, hkb, hne, hHeld⟩
      · go_simp
        have bn : Box (World.alloc q1 (Obj.cells #[.int .i64 0, .int .i64 0, .slice none 0 0] 29)) (q1.heap.size) (Obj.cells #[.int .i64 0, .int .i64 0, .slice none 0 0] 29) := Box.new (q1) (Obj.cells #[.int .i64 0, .int .i64 0, .slice none 0 0] 29)
        have hkb : w15.heap.size ≤ q1.heap.size := hHeld.size
        have hHn := hHeld.alloc hHeld.size (Obj.cells #[.int .i64 0, .int .i64 0, .slice none 0 0] 29)
        replace oz := oz.keep ((Below.refl _ _).alloc (Nat.le_refl _) (Obj.cells #[.int .i64 0, .int .i64 0, .slice none 0 0] 29))
        refine hK.out _ _ (hHn) (fun hHeld2 => ?_)
        replace hHeld := hHeld2
        clear hHeld2 hK K hHn
        try simp only [List.getElem_toArray, List.getElem_cons_succ, List.getElem_cons_zero, Act.put, List.setIfInBounds_toArray, List.set_cons_zero, List.set_cons_succ]
        refine wpAnyH_ready (rs := [3]) (by kernel_rfl) (by simp) ?_
        refine AllReadyH.cons rfl (fun K hK => ?_) AllReadyH.nil
        go_simp
        go_at_call 22
        refine (toEdge_any x1 y1 z1 _).mono ?_
        rintro e q2 ⟨rfl, hb⟩
        replace oz := oz.keep hb
        replace bn := bn.keep hb
        (try go_simp)
        have hHn := hHeld.trans (hb.mono hHeld.size)
        refine hK.out _ _ (hHn) (fun hHeld2 => ?_)
        replace hHeld := hHeld2
        clear hHeld2 hK K hHn hb
        try simp only [List.getElem_toArray, List.getElem_cons_succ, List.getElem_cons_zero, Act.put, List.setIfInBounds_toArray, List.set_cons_zero, List.set_cons_succ]
        refine wpAnyH_ready (rs := [4]) (by kernel_rfl) (by simp) ?_
        refine AllReadyH.cons rfl (fun K hK => ?_) AllReadyH.nil
        have hlt : q1.heap.size < q2.heap.size := bn.lt
        go_simp
        go_at_call 23
        refine (CI.out _ _ (OwnN.edges (.inr oz)) (OwnN.nilOk (.inr oz))).mono ?_
        rintro e q3 ⟨vr, rfl, orr, hb⟩
        obtain ⟨Ar, cr, rfl⟩ := orr.edges.form
        have olo := orr.lo
        have ohi := orr.hi
        have orr2 := orr.base hHeld.size
        clear orr
        replace bn := bn.keep hb
        (try go_simp)
        have hHn := hHeld.trans (hb.mono hHeld.size)
        have hsz3 := hHeld.size
        refine hK.out _ _ (hHn) (fun hHeld2 => ?_)
        replace hHeld := hHeld2
        clear hHeld2 hK K hHn hb
        try simp only [List.getElem_toArray, List.getElem_cons_succ, List.getElem_cons_zero, Act.put, List.setIfInBounds_toArray, List.set_cons_zero, List.set_cons_succ]
        refine wpAnyH_take (i := 5) (v := ?v43) rfl (by kernel_rfl) (by kernel_rfl) (by kernel_rfl) (fun _ _ _ h => h) (Or.inl ⟨by rfl, ?hy43⟩) (by assumption) ?rest43
        case hy43 => intro X hX; (try dsimp only at hX); go_simp <;> with_reducible rfl
        try simp only [List.getElem_toArray, List.getElem_cons_succ, List.getElem_cons_zero, Act.put, List.setIfInBounds_toArray, List.set_cons_zero, List.set_cons_succ]
        refine wpAnyH_take (i := 6) (v := ?v44) rfl (by kernel_rfl) (by kernel_rfl) (by kernel_rfl) (fun _ _ _ h => h) (Or.inl ⟨by rfl, ?hy44⟩) (by assumption) ?rest44
        case hy44 => intro X hX; (try dsimp only at hX); go_simp <;> with_reducible rfl
        try simp only [List.getElem_toArray, List.getElem_cons_succ, List.getElem_cons_zero, Act.put, List.setIfInBounds_toArray, List.set_cons_zero, List.set_cons_succ]
        refine wpAnyH_take (i := 7) (v := ?v45) rfl (by kernel_rfl) (by kernel_rfl) (by kernel_rfl) (fun _ _ _ h => h) (Or.inl ⟨by rfl, ?hy45⟩) (by assumption) ?rest45
        case hy45 => intro X hX; (try dsimp only at hX); go_simp <;> with_reducible rfl
        try simp only [List.getElem_toArray, List.getElem_cons_succ, List.getElem_cons_zero, Act.put, List.setIfInBounds_toArray, List.set_cons_zero, List.set_cons_succ]
        have hne : ∀ j, (Value.slice Ar R.length cr).ownBlock = some j → j ≠ q1.heap.size := fun j hj => by have := olo j hj; have := hlt; omega
        obtain ⟨b1, b2, b3⟩ := bn.cells
        have b4 := Box.froz bn 0
        have b5 := Box.froz bn 1
        have b6 := Box.froz bn 2
        have bx9 : Box _ (q1.heap.size) (Obj.cells #[.int .i64 Gr, .int .i64 Gn, .slice Ar R.length cr] 29) := ((bn.put (i := 0) (.int .i64 Gr)).put (i := 1) (.int .i64 Gn)).put (i := 2) (.slice Ar R.length cr)
        have o9 := ((orr2.set_ (i := 0) hne (.int .i64 Gr)).set_ (i := 1) hne (.int .i64 Gn)).set_ (i := 2) hne (.slice Ar R.length cr)
        have h9 := ((hHeld.setCell (p := ⟨q1.heap.size, 0, none⟩) hkb (.int .i64 Gr)).setCell (p := ⟨q1.heap.size, 1, none⟩) hkb (.int .i64 Gn)).setCell (p := ⟨q1.heap.size, 2, none⟩) hkb (.slice Ar R.length cr)
        refine wpAnyH_ready (rs := [9]) (by kernel_rfl) (by simp) ?_
        refine AllReadyH.cons rfl (fun K hK => ?_) AllReadyH.nil
        go_simp
        refine hK.out _ _ (h9) (fun hHeld2 => ?_)
        replace hHeld := hHeld2
        clear hHeld2 hK K
        try simp only [List.getElem_toArray, List.getElem_cons_succ, List.getElem_cons_zero, Act.put, List.setIfInBounds_toArray, List.set_cons_zero, List.set_cons_succ]
        refine wpAnyH_take (i := 10) (v := ?v46) rfl (by kernel_rfl) (by kernel_rfl) (by kernel_rfl) (fun _ _ _ h => h) (Or.inl ⟨by rfl, ?hy46⟩) (by assumption) ?rest46
        case hy46 => intro X hX; (try dsimp only at hX); go_simp <;> with_reducible rfl
        try simp only [List.getElem_toArray, List.getElem_cons_succ, List.getElem_cons_zero, Act.put, List.setIfInBounds_toArray, List.set_cons_zero, List.set_cons_succ]
        refine wpAnyH_done (by kernel_rfl) ?_ _
        go_wp2_with fail
        go_meet
        case rel => exact ⟨_, _, rfl, rfl, bx9, o9, hkb, hne, hHeld⟩
    · go_simp
      have bn : Box (World.alloc w15.drew (Obj.cells #[.int .i64 0, .int .i64 0, .slice none 0 0] 29)) (w15.heap.size) (Obj.cells #[.int .i64 0, .int .i64 0, .slice none 0 0] 29) := Box.new (w15.drew) (Obj.cells #[.int .i64 0, .int .i64 0, .slice none 0 0] 29)
      have hkb : w15.heap.size ≤ w15.heap.size := hHeld.size
      have hHn := hHeld.alloc hHeld.size (Obj.cells #[.int .i64 0, .int .i64 0, .slice none 0 0] 29)
      refine hK.out _ _ (hHn) (fun hHeld2 => ?_)
      replace hHeld := hHeld2
      clear hHeld2 hK K hHn
      try simp only [List.getElem_toArray, List.getElem_cons_succ, List.getElem_cons_zero, Act.put, List.setIfInBounds_toArray, List.set_cons_zero, List.set_cons_succ]
      refine wpAnyH_ready (rs := [1]) (by kernel_rfl) (by simp) ?_
      refine AllReadyH.cons rfl (fun K hK => ?_) AllReadyH.nil
      go_simp
      go_at_call 12
      refine (toGraph_arg r0 n0 A0 (hBW.trans (hHeld.mono hBW.size)) (by omega)).mono ?_
      rintro e q1 ⟨vz, rfl, oz, hb⟩
      replace bn := bn.keep hb
      (try go_simp)
      have hHn := hHeld.trans (hb.mono hHeld.size)
      refine hK.out _ _ (hHn) (fun hHeld2 => ?_)
      replace hHeld := hHeld2
      clear hHeld2 hK K hHn hb
      try simp only [List.getElem_toArray, List.getElem_cons_succ, List.getElem_cons_zero, Act.put, List.setIfInBounds_toArray, List.set_cons_zero, List.set_cons_succ]
      refine wpAnyH_ready (rs := [3]) (by kernel_rfl) (by simp) ?_
      refine AllReadyH.cons rfl (fun K hK => ?_) AllReadyH.nil
      go_simp
      go_at_call 22
      refine (toEdge_any x1 y1 z1 _).mono ?_
      rintro e q2 ⟨rfl, hb⟩
      replace oz := oz.keep hb
      replace bn := bn.keep hb
      (try go_simp)
      have hHn := hHeld.trans (hb.mono hHeld.size)
      refine hK.out _ _ (hHn) (fun hHeld2 => ?_)
      replace hHeld := hHeld2
      clear hHeld2 hK K hHn hb
      try simp only [List.getElem_toArray, List.getElem_cons_succ, List.getElem_cons_zero, Act.put, List.setIfInBounds_toArray, List.set_cons_zero, List.set_cons_succ]
      refine wpAnyH_ready (rs := [4]) (by kernel_rfl) (by simp) ?_
      refine AllReadyH.cons rfl (fun K hK => ?_) AllReadyH.nil
      have hlt : w15.heap.size < q2.heap.size := bn.lt
      go_simp
      go_at_call 23
      refine (CI.out _ _ (OwnN.edges (.inr oz)) (OwnN.nilOk (.inr oz))).mono ?_
      rintro e q3 ⟨vr, rfl, orr, hb⟩
      obtain ⟨Ar, cr, rfl⟩ := orr.edges.form
      have olo := orr.lo
      have ohi := orr.hi
      have orr2 := orr.base hHeld.size
      clear orr
      replace bn := bn.keep hb
      (try go_simp)
      have hHn := hHeld.trans (hb.mono hHeld.size)
      have hsz3 := hHeld.size
      refine hK.out _ _ (hHn) (fun hHeld2 => ?_)
      replace hHeld := hHeld2
      clear hHeld2 hK K hHn hb
      try simp only [List.getElem_toArray, List.getElem_cons_succ, List.getElem_cons_zero, Act.put, List.setIfInBounds_toArray, List.set_cons_zero, List.set_cons_succ]
      refine wpAnyH_take (i := 5) (v := ?v47) rfl (by kernel_rfl) (by kernel_rfl) (by kernel_rfl) (fun _ _ _ h => h) (Or.inl ⟨by rfl, ?hy47⟩) (by assumption) ?rest47
      case hy47 => intro X hX; (try dsimp only at hX); go_simp <;> with_reducible rfl
      try simp only [List.getElem_toArray, List.getElem_cons_succ, List.getElem_cons_zero, Act.put, List.setIfInBounds_toArray, List.set_cons_zero, List.set_cons_succ]
      refine wpAnyH_take (i := 6) (v := ?v48) rfl (by kernel_rfl) (by kernel_rfl) (by kernel_rfl) (fun _ _ _ h => h) (Or.inl ⟨by rfl, ?hy48⟩) (by assumption) ?rest48
      case hy48 => intro X hX; (try dsimp only at hX); go_simp <;> with_reducible rfl
      try simp only [List.getElem_toArray, List.getElem_cons_succ, List.getElem_cons_zero, Act.put, List.setIfInBounds_toArray, List.set_cons_zero, List.set_cons_succ]
      refine wpAnyH_take (i := 7) (v := ?v49) rfl (by kernel_rfl) (by kernel_rfl) (by kernel_rfl) (fun _ _ _ h => h) (Or.inl ⟨by rfl, ?hy49⟩) (by assumption) ?rest49
      case hy49 => intro X hX; (try dsimp only at hX); go_simp <;> with_reducible rfl
      try simp only [List.getElem_toArray, List.getElem_cons_succ, List.getElem_cons_zero, Act.put, List.setIfInBounds_toArray, List.set_cons_zero, List.set_cons_succ]
      have hne : ∀ j, (Value.slice Ar R.length cr).ownBlock = some j → j ≠ w15.heap.size := fun j hj => by have := olo j hj; have := hlt; omega
      obtain ⟨b1, b2, b3⟩ := bn.cells
      have b4 := Box.froz bn 0
      have b5 := Box.froz bn 1
      have b6 := Box.froz bn 2
      have bx9 : Box _ (w15.heap.size) (Obj.cells #[.int .i64 Gr, .int .i64 Gn, .slice Ar R.length cr] 29) := ((bn.put (i := 0) (.int .i64 Gr)).put (i := 1) (.int .i64 Gn)).put (i := 2) (.slice Ar R.length cr)
      have o9 := ((orr2.set_ (i := 0) hne (.int .i64 Gr)).set_ (i := 1) hne (.int .i64 Gn)).set_ (i := 2) hne (.slice Ar R.length cr)
      have h9 := ((hHeld.setCell (p := ⟨w15.heap.size, 0, none⟩) hkb (.int .i64 Gr)).setCell (p := ⟨w15.heap.size, 1, none⟩) hkb (.int .i64 Gn)).setCell (p := ⟨w15.heap.size, 2, none⟩) hkb (.slice Ar R.length cr)
      refine wpAnyH_ready (rs := [9]) (by kernel_rfl) (by simp) ?_
      refine AllReadyH.cons rfl (fun K hK => ?_) AllReadyH.nil
      go_simp
      refine hK.out _ _ (h9) (fun hHeld2 => ?_)
      replace hHeld := hHeld2
      clear hHeld2 hK K
      try simp only [List.getElem_toArray, List.getElem_cons_succ, List.getElem_cons_zero, Act.put, List.setIfInBounds_toArray, List.set_cons_zero, List.set_cons_succ]
      refine wpAnyH_take (i := 10) (v := ?v50) rfl (by kernel_rfl) (by kernel_rfl) (by kernel_rfl) (fun _ _ _ h => h) (Or.inl ⟨by rfl, ?hy50⟩) (by assumption) ?rest50
      case hy50 => intro X hX; (try dsimp only at hX); go_simp <;> with_reducible rfl
      try simp only [List.getElem_toArray, List.getElem_cons_succ, List.getElem_cons_zero, Act.put, List.setIfInBounds_toArray, List.set_cons_zero, List.set_cons_succ]
      refine wpAnyH_done (by kernel_rfl) ?_ _
      go_wp2_with fail
      go_meet
      case rel => exact ⟨_, _, rfl, rfl, bx9, o9, hkb, hne, hHeld⟩
  case rest =>
  obtain ⟨kh, vh, rfl, rfl, bh, oh, hkh, hnh, hb⟩ := hcut
  rename World => w16
  replace bg := bg.keep hb
  replace om := om.keep hb
  replace hP := hP.trans (hb.mono hP.size)
  replace hA := hA.trans (hb.mono hA.size)
  obtain ⟨Ah, ch, rfl⟩ := oh.edges.form
  clear hb
  obtain ⟨b1, b2, b3⟩ := bh.cells
  obtain ⟨a1, a2, a3⟩ := (BW.out.keep hA).cells
  go_wp2_with fail
  refine (eqGraph_any Gr Gn _ _ R _ oh.edges (OW.out.keep hA).edges (by omega)).mono ?_
  rintro e w17 ⟨rfl, hb⟩
  replace bg := bg.keep hb
  replace om := om.keep hb
  replace hP := hP.trans (hb.mono hP.size)
  clear b1 b2 b3 a1 a2 a3 hb
  obtain ⟨b1, b2, b3⟩ := bg.cells
  go_wp2_with fail
  refine (heldGraph_any Gr Gn _ R.length (1) _ om.edges (by omega) (by omega)).mono ?_
  rintro e w18 ⟨rfl, hb⟩
  replace hP := hP.trans (hb.mono hP.size)
  go_wp2
  go_ret
  exact ⟨rfl, hB.trans (hP.mono hB.size)⟩
end Go.Proofs.Ytpebiacdkfpnpaa
