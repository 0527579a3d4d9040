/- The walk of the law FnGraphs. Conditions: none. -/
import Derived.Test.YtpebiacdkfpnpaaGreatDrawR
import Derived.Test.YtpebiacdkfpnpaaGreatLeafG
import Derived.Test.YtpebiacdkfpnpaaGreatStepB
import Derived.Test.YtpebiacdkfpnpaaGreatPGraphS
import Derived.Deep.Cut
import Derived.Deep.CutRange
import Derived.Deep.RegionHeld3
namespace Go.Proofs.YtpebiacdkfpnpaaGreat
open Go.RowKit

section
variable {P : Program} {ops : Array Oper} {Q : Exit → Act → World → Prop} {md : Region.Mode} {S : World → Prop} {fuel : Nat} {listed listed2 : Array Bool} {a : Act} {w : World} {i : Nat} {o : Oper}
/-- The beginning, its counts written out. -/
theorem wp_region_held2 {id n : Nat} (hm : P.follows .mixedOrders = true) (hn : ops.size = n) (hl : Array.replicate n false = listed) (hS : S w.drew)
    (h : wpAnyH P .any ops Q S n listed a w.drew) : (Code.region id ops true).wp P Q a w := by
  subst hl
  subst hn
  exact wp_region_held_drew hm hS fun _ => h
/-- An operation is taken first, what is listed then written out. -/
theorem wpAnyH_take2 {v : Value} (hi : ops[i]? = some o) (hs : Region.noSelect ops = true) (hf : Region.free md ops listed i = true) (hr : (Region.ready md ops listed).contains i = true)
    (hQ : ∀ c a w, Q (.panic c) (a.put o.dst v) w → Q (.panic c) a w) (hy : YieldsIf P ops S o v a) (hS : S w) (hl : listed.setIfInBounds i true = listed2)
    (h : wpAnyH P md ops Q S fuel listed2 (a.put o.dst v) w) : wpAnyH P md ops Q S (fuel + 1) listed a w := by
  subst hl
  exact wpAnyH_take hi hs hf hr hQ hy hS h
/-- A call of a Go function comes up next, alone: what the kernel can say by itself (that it is ready, wanted, which arguments it takes) is left to the kernel. -/
theorem wpAnyH_fn {f : FuncId} {vs : Array Value} {post : Ending → World → Prop}
    (hr : Region.ready md ops listed = [i]) (ho : ops[i]? = some o) (hw : Region.wanted o (yielded ops a.tmps) = true) (hex : (execOp a.eval o).run P w = .ok (.enter f vs) w) (hl : listed.setIfInBounds i true = listed2) (hc : Calls P f vs w post)
    (h : ∀ e w', post e w' → ∃ v, e = .returned v ∧ S w' ∧ wpAnyH P md ops Q S fuel listed2 (a.put o.dst v) w') : wpAnyH P md ops Q S (fuel + 1) listed a w := by
  subst hl
  refine wpAnyH_ready hr (by simp) (AllReadyH.cons ho (fun K' hK => ?_) AllReadyH.nil)
  rw [if_pos hw]
  unfold Oper.wp
  rw [hex, Oper.upon_enter]
  refine hc.mono fun e w' hp => ?_
  obtain ⟨v, rfl, hS, hn⟩ := h e w' hp
  exact hK.out _ _ hS (fun _ => hn)
end
theorem World.cell?_lt {w : World} {b o : Nat} {v : Value} (h : w.cell? ⟨b, o, none⟩ = some v) : b < w.heap.size := by
  by_cases hb : b < w.heap.size
  · exact hb
  · simp [World.cell?, Array.getElem?_eq_none (Nat.le_of_not_lt hb)] at h
set_option maxRecDepth 20000 in
set_option maxHeartbeats 16000000 in
theorem walkFnGraphs (w : World) (A : Option Addr) (len cap : Nat) (zs : List Int) (hz : IsRow .u8 w A len cap zs) :
    Calls Tryz.prog 3 #[.slice A len cap] w fun e w' => e = .returned (.bool true) ∧ Below w.heap.size w w' := by
  by_cases c0 : (len : Int) ≤ 1048576
  case neg =>
    go_enter Tryz.func3, Tryz.ntmps3
    go_wp2_with fail
    refine (big_over A len cap _ (by omega)).mono ?_
    rintro e w1 ⟨rfl, hb⟩
    go_wp2
    go_ret
    exact ⟨rfl, hb⟩
  have hl : len ≤ 1048576 := by omega
  have hC := codeArg_of_row hz
  have hB := Below.refl w.heap.size w
  clear hz
  go_enter Tryz.func3, Tryz.ntmps3
  go_wp2_with fail
  refine (big_fits A len cap _ c0).mono ?_
  rintro e w1 ⟨rfl, hb⟩
  replace hC := hC.keep hb
  replace hB := hB.trans (hb.mono hB.size)
  clear hb c0
  go_wp2_with fail
  refine (drawAddEdge_any A len cap w1 hC hl).mono ?_
  rintro e w2 ⟨r, n, v, l, a, b, c, rfl, ho, hq, hsm, hb⟩
  obtain ⟨Ad, cp, rfl⟩ := id ho.edges.form
  have hb2 := (hb.alloc hb.size (Obj.cells #[.int .i64 r, .int .i64 n, .slice Ad l.length cp] 26 (0, 0))).alloc (hb.alloc hb.size (Obj.cells #[.int .i64 r, .int .i64 n, .slice Ad l.length cp] 26 (0, 0))).size (Obj.cells #[.int .i64 a, .int .i64 b, .int .i64 c] 28 (0, 0))
  replace hC := hC.keep hb2
  replace hB := hB.trans (hb2.mono hB.size)
  have gG := (GBox.new r n ho).keep ((Below.refl _ _).alloc (Nat.le_refl _) (Obj.cells #[.int .i64 a, .int .i64 b, .int .i64 c] 28 (0, 0)))
  have gE := Box.two w2 (Obj.cells #[.int .i64 r, .int .i64 n, .slice Ad l.length cp] 26 (0, 0)) (Obj.cells #[.int .i64 a, .int .i64 b, .int .i64 c] 28 (0, 0))
  have hl9 : l.length ≤ 9 := hq.2.2.1
  have hfl : (fmtG r n l).length ≤ 150 := fmt_short hq
  have hi : I64E (a, b, c) := hsm.i64
  obtain ⟨L3, hL3⟩ : ∃ z, z = addEL r n l (a, b, c) := ⟨_, rfl⟩
  obtain ⟨ok, hok⟩ : ∃ z, z = addEOk r n l (a, b, c) := ⟨_, rfl⟩
  obtain ⟨Gd, hGd⟩ : ∃ z, z = isG r n l := ⟨_, rfl⟩
  obtain ⟨F, hF⟩ : ∃ z, z = fmtG r n l := ⟨_, rfl⟩
  have ai : ∀ (W : World) (u : Value) (h : Edges W u l) (hk : NilOk u), Calls Tryz.prog 6 #[graphV r n u, edgeV a b c] W (RetG2 W r n L3 (.bool ok)) := fun W u h hk => by rw [hL3, hok]; exact addEdge_any r n u l (a, b, c) hi W h hk (by omega)
  have as_ : ∀ (W : World) (u : Value) (h : Edges W u l) (hk : NilOk u), Calls Tryz.prog 7 #[graphV r n u, edgeV a b c] W (RetG2 W r n L3 (.bool ok)) := fun W u h hk => by rw [hL3, hok]; exact addEdgeS_any r n u l (a, b, c) hi W h hk (by omega)
  have ii : ∀ (W : World) (u : Value) (h : Edges W u l), Calls Tryz.prog 9 #[graphV r n u] W (RetV W (.bool Gd)) := fun W u h => by rw [hGd]; exact isGraph_any r n u l W h (by omega)
  have is_ : ∀ (W : World) (u : Value) (h : Edges W u l), Calls Tryz.prog 10 #[graphV r n u] W (RetV W (.bool Gd)) := fun W u h => by rw [hGd]; exact isGraphS_any r n u l W h (by omega)
  have fi : ∀ (W : World) (u : Value) (h : Edges W u l), Calls Tryz.prog 11 #[graphV r n u] W (RetV W (.string ⟨F.toArray⟩)) := fun W u h => by rw [hF]; exact formatGraph_any r n u l W h (by omega)
  have fs : ∀ (W : World) (u : Value) (h : Edges W u l), Calls Tryz.prog 13 #[graphV r n u] W (RetV W (.string ⟨F.toArray⟩)) := fun W u h => by rw [hF]; exact formatGraphS_any r n u l W h (by omega)
  have pb : ∀ (W : World), Calls Tryz.prog 12 #[.string ⟨F.toArray⟩] W (RetPB W r n l Gd) := fun W => by rw [hF, hGd]; exact parseBack_any r n l W (by omega)
  have al : (ok = true → isG r n L3 = true ∧ L3.length = l.length + 1) ∧ L3.length ≤ 10 := by
    rw [hL3, hok]
    exact ⟨fun h => addE_isG h, by have := addEL_len r n l (a, b, c); omega⟩
  have AI := Lib.hid ai
  have AS := Lib.hid as_
  have II := Lib.hid ii
  have IS := Lib.hid is_
  have FI := Lib.hid fi
  have FS := Lib.hid fs
  have PB := Lib.hid pb
  have AL := Lib.hid al
  clear hb hb2 ho hq hsm hfl hi ai as_ ii is_ fi fs pb al hL3 hok hGd hF
  obtain ⟨pz1, pz2, pz3⟩ := gG.cells
  obtain ⟨qz1, qz2, qz3⟩ := gE.cells
  go_wp2_with fail
  refine (AI.out _ _ gG.row gG.nil).mono ?_
  rintro e w3 ⟨v3, rfl, o3, hb⟩
  clear pz1 pz2 pz3 qz1 qz2 qz3
  obtain ⟨A3, c3, rfl⟩ := id o3.edges.form
  have hb2 := hb.alloc hb.size (Obj.cells #[.int .i64 r, .int .i64 n, .slice A3 L3.length c3] 26 (0, 0))
  replace hC := hC.keep hb2
  replace gG := gG.keep hb2
  replace gE := gE.keep hb2
  replace hB := hB.trans (hb2.mono hB.size)
  have gX := GBox.new r n o3
  clear hb hb2 o3
  obtain ⟨pz1, pz2, pz3⟩ := gG.cells
  obtain ⟨qz1, qz2, qz3⟩ := gE.cells
  go_wp2_with fail
  refine (AS.out _ _ gG.row gG.nil).mono ?_
  rintro e w4 ⟨v4, rfl, o4, hb⟩
  clear pz1 pz2 pz3 qz1 qz2 qz3
  obtain ⟨A4, c4, rfl⟩ := id o4.edges.form
  have hb2 := hb.alloc hb.size (Obj.cells #[.int .i64 r, .int .i64 n, .slice A4 L3.length c4] 26 (0, 0))
  replace hC := hC.keep hb2
  replace gG := gG.keep hb2
  replace gE := gE.keep hb2
  replace gX := gX.keep hb2
  replace hB := hB.trans (hb2.mono hB.size)
  have gY := GBox.new r n o4
  clear hb hb2 o4
  obtain ⟨M4, hM4⟩ : ∃ z, z = w4.alloc (Obj.cells #[.int .i64 r, .int .i64 n, .slice A4 L3.length c4] 26 (0, 0)) := ⟨_, rfl⟩
  rw [← hM4] at hB hC gG gE gX gY
  have HM4 := Lib.hid hM4
  clear hM4
  clear AI AS
  go_upto_region 6 with fail
  rw [← HM4.out]
  go_cut [90] from 38 (fun s X => s = .bool false ∧ Below M4.heap.size M4 X)
  case first =>
    have hL10 : L3.length ≤ 1048576 := by have := AL.out.2; omega
    cases ok with
    | true =>
      as_aux_lemma =>
        have iy : ∀ (W : World) (u : Value) (h : Edges W u L3), Calls Tryz.prog 9 #[graphV r n u] W (RetV W (.bool true)) := fun W u h => by have h9 := isGraph_any r n u L3 W h hL10; rwa [(AL.out.1 rfl).1] at h9
        have IY := Lib.hid iy
        have hlen : ((L3.length : Nat) : Int) = (l.length : Int) + 1 := by have := (AL.out.1 rfl).2; omega
        have hwl : IntKind.i64.wrap ((l.length : Int) + 1) = (l.length : Int) + 1 := IntWalk.i64_in _ (by omega)
        clear iy
        have hHeld := (Below.refl M4.heap.size M4).drew
        refine wp_region_held2 (n := 34) (listed := (false :: false :: false :: false :: false :: false :: false :: false :: false :: false :: false :: false :: false :: false :: false :: false :: false :: false :: false :: false :: false :: false :: false :: false :: false :: false :: false :: false :: false :: false :: false :: false :: false :: false :: []).toArray) (S := fun X => Below M4.heap.size M4 X) (by kernel_rfl) (by kernel_rfl) (by kernel_rfl) hHeld ?_
        refine wpAnyH_take2 (i := 0) (fuel := 33) (v := ?v1) rfl (by kernel_rfl) (by kernel_rfl) (by kernel_rfl) (fun _ _ _ h => h) (Or.inl ⟨by kernel_rfl, ?hy1⟩) hHeld (show _ = (true :: false :: false :: false :: false :: false :: false :: false :: false :: false :: false :: false :: false :: false :: false :: false :: false :: false :: false :: false :: false :: false :: false :: false :: false :: false :: false :: false :: false :: false :: false :: false :: false :: false :: []).toArray by kernel_rfl) ?rest1
        case hy1 => intro X hX; (try dsimp only at hX); go_simp <;> with_reducible rfl
        try dsimp only [List.getElem_toArray, List.getElem_cons_succ, List.getElem_cons_zero]
        try simp only [Act.put, List.setIfInBounds_toArray]
        try dsimp only [List.set_cons_zero, List.set_cons_succ]
        refine wpAnyH_take2 (i := 1) (fuel := 32) (v := ?v2) rfl (by kernel_rfl) (by kernel_rfl) (by kernel_rfl) (fun _ _ _ h => h) (Or.inl ⟨by kernel_rfl, ?hy2⟩) hHeld (show _ = (true :: true :: false :: false :: false :: false :: false :: false :: false :: false :: false :: false :: false :: false :: false :: false :: false :: false :: false :: false :: false :: false :: false :: false :: false :: false :: false :: false :: false :: false :: false :: false :: false :: false :: []).toArray by kernel_rfl) ?rest2
        case hy2 => intro X hX; (try dsimp only at hX); go_simp <;> with_reducible rfl
        try dsimp only [List.getElem_toArray, List.getElem_cons_succ, List.getElem_cons_zero]
        try simp only [Act.put, List.setIfInBounds_toArray]
        try dsimp only [List.set_cons_zero, List.set_cons_succ]
        refine wpAnyH_take2 (i := 2) (fuel := 31) (v := ?v3) rfl (by kernel_rfl) (by kernel_rfl) (by kernel_rfl) (fun _ _ _ h => h) (Or.inl ⟨by kernel_rfl, ?hy3⟩) hHeld (show _ = (true :: true :: true :: false :: false :: false :: false :: false :: false :: false :: false :: false :: false :: false :: false :: false :: false :: false :: false :: false :: false :: false :: false :: false :: false :: false :: false :: false :: false :: false :: false :: false :: false :: false :: []).toArray by kernel_rfl) ?rest3
        case hy3 => intro X hX; (try dsimp only at hX); go_simp <;> with_reducible rfl
        try dsimp only [List.getElem_toArray, List.getElem_cons_succ, List.getElem_cons_zero]
        try simp only [Act.put, List.setIfInBounds_toArray]
        try dsimp only [List.set_cons_zero, List.set_cons_succ]
        refine wpAnyH_take2 (i := 3) (fuel := 30) (v := ?v4) rfl (by kernel_rfl) (by kernel_rfl) (by kernel_rfl) (fun _ _ _ h => h) (Or.inl ⟨by kernel_rfl, ?hy4⟩) hHeld (show _ = (true :: true :: true :: true :: false :: false :: false :: false :: false :: false :: false :: false :: false :: false :: false :: false :: false :: false :: false :: false :: false :: false :: false :: false :: false :: false :: false :: false :: false :: false :: false :: false :: false :: false :: []).toArray by kernel_rfl) ?rest4
        case hy4 => intro X hX; (try dsimp only at hX); go_simp <;> with_reducible rfl
        try dsimp only [List.getElem_toArray, List.getElem_cons_succ, List.getElem_cons_zero]
        try simp only [Act.put, List.setIfInBounds_toArray]
        try dsimp only [List.set_cons_zero, List.set_cons_succ]
        refine wpAnyH_take2 (i := 4) (fuel := 29) (v := ?v5) rfl (by kernel_rfl) (by kernel_rfl) (by kernel_rfl) (fun _ _ _ h => h) (Or.inl ⟨by kernel_rfl, ?hy5⟩) hHeld (show _ = (true :: true :: true :: true :: true :: false :: false :: false :: false :: false :: false :: false :: false :: false :: false :: false :: false :: false :: false :: false :: false :: false :: false :: false :: false :: false :: false :: false :: false :: false :: false :: false :: false :: false :: []).toArray by kernel_rfl) ?rest5
        case hy5 => intro X hX; (try dsimp only at hX); obtain ⟨z1, z2, z3⟩ := (gX.keep hX).cells; go_simp <;> with_reducible rfl
        try dsimp only [List.getElem_toArray, List.getElem_cons_succ, List.getElem_cons_zero]
        try simp only [Act.put, List.setIfInBounds_toArray]
        try dsimp only [List.set_cons_zero, List.set_cons_succ]
        refine wpAnyH_take2 (i := 5) (fuel := 28) (v := ?v6) rfl (by kernel_rfl) (by kernel_rfl) (by kernel_rfl) (fun _ _ _ h => h) (Or.inl ⟨by kernel_rfl, ?hy6⟩) hHeld (show _ = (true :: true :: true :: true :: true :: true :: false :: false :: false :: false :: false :: false :: false :: false :: false :: false :: false :: false :: false :: false :: false :: false :: false :: false :: false :: false :: false :: false :: false :: false :: false :: false :: false :: false :: []).toArray by kernel_rfl) ?rest6
        case hy6 => intro X hX; (try dsimp only at hX); obtain ⟨z1, z2, z3⟩ := (gY.keep hX).cells; go_simp <;> with_reducible rfl
        try dsimp only [List.getElem_toArray, List.getElem_cons_succ, List.getElem_cons_zero]
        try simp only [Act.put, List.setIfInBounds_toArray]
        try dsimp only [List.set_cons_zero, List.set_cons_succ]
        refine wpAnyH_fn (i := 6) (fuel := 27) (by kernel_rfl) rfl (by kernel_rfl) (by kernel_rfl) (show _ = (true :: true :: true :: true :: true :: true :: true :: false :: false :: false :: false :: false :: false :: false :: false :: false :: false :: false :: false :: false :: false :: false :: false :: false :: false :: false :: false :: false :: false :: false :: false :: false :: false :: false :: []).toArray by kernel_rfl) (sameG_any r n _ _ L3 _ (gX.keep hHeld).row (gY.keep hHeld).row hL10) ?_
        rintro e q1 ⟨rfl, hb⟩
        refine ⟨_, rfl, hHeld.trans (hb.mono hHeld.size), ?_⟩
        replace hHeld := hHeld.trans (hb.mono hHeld.size)
        clear hb
        try dsimp only [List.getElem_toArray, List.getElem_cons_succ, List.getElem_cons_zero]
        try simp only [Act.put, List.setIfInBounds_toArray]
        try dsimp only [List.set_cons_zero, List.set_cons_succ]
        refine wpAnyH_take2 (i := 7) (fuel := 26) (v := ?v7) rfl (by kernel_rfl) (by kernel_rfl) (by kernel_rfl) (fun _ _ _ h => h) (Or.inl ⟨by kernel_rfl, ?hy7⟩) hHeld (show _ = (true :: true :: true :: true :: true :: true :: true :: true :: false :: false :: false :: false :: false :: false :: false :: false :: false :: false :: false :: false :: false :: false :: false :: false :: false :: false :: false :: false :: false :: false :: false :: false :: false :: false :: []).toArray by kernel_rfl) ?rest7
        case hy7 => intro X hX; (try dsimp only at hX); go_simp <;> with_reducible rfl
        try dsimp only [List.getElem_toArray, List.getElem_cons_succ, List.getElem_cons_zero]
        try simp only [Act.put, List.setIfInBounds_toArray]
        try dsimp only [List.set_cons_zero, List.set_cons_succ]
        refine wpAnyH_take2 (i := 8) (fuel := 25) (v := ?v8) rfl (by kernel_rfl) (by kernel_rfl) (by kernel_rfl) (fun _ _ _ h => h) (Or.inl ⟨by kernel_rfl, ?hy8⟩) hHeld (show _ = (true :: true :: true :: true :: true :: true :: true :: true :: true :: false :: false :: false :: false :: false :: false :: false :: false :: false :: false :: false :: false :: false :: false :: false :: false :: false :: false :: false :: false :: false :: false :: false :: false :: false :: []).toArray by kernel_rfl) ?rest8
        case hy8 => intro X hX; (try dsimp only at hX); go_simp <;> with_reducible rfl
        try dsimp only [List.getElem_toArray, List.getElem_cons_succ, List.getElem_cons_zero]
        try simp only [Act.put, List.setIfInBounds_toArray]
        try dsimp only [List.set_cons_zero, List.set_cons_succ]
        refine wpAnyH_take2 (i := 9) (fuel := 24) (v := ?v9) rfl (by kernel_rfl) (by kernel_rfl) (by kernel_rfl) (fun _ _ _ h => h) (Or.inl ⟨by kernel_rfl, ?hy9⟩) hHeld (show _ = (true :: true :: true :: true :: true :: true :: true :: true :: true :: true :: false :: false :: false :: false :: false :: false :: false :: false :: false :: false :: false :: false :: false :: false :: false :: false :: false :: false :: false :: false :: false :: false :: false :: false :: []).toArray by kernel_rfl) ?rest9
        case hy9 => intro X hX; (try dsimp only at hX); go_simp <;> with_reducible rfl
        try dsimp only [List.getElem_toArray, List.getElem_cons_succ, List.getElem_cons_zero]
        try simp only [Act.put, List.setIfInBounds_toArray]
        try dsimp only [List.set_cons_zero, List.set_cons_succ]
        refine wpAnyH_take2 (i := 10) (fuel := 23) (v := ?v10) rfl (by kernel_rfl) (by kernel_rfl) (by kernel_rfl) (fun _ _ _ h => h) (Or.inl ⟨by kernel_rfl, ?hy10⟩) hHeld (show _ = (true :: true :: true :: true :: true :: true :: true :: true :: true :: true :: true :: false :: false :: false :: false :: false :: false :: false :: false :: false :: false :: false :: false :: false :: false :: false :: false :: false :: false :: false :: false :: false :: false :: false :: []).toArray by kernel_rfl) ?rest10
        case hy10 => intro X hX; (try dsimp only at hX); go_simp <;> with_reducible rfl
        try dsimp only [List.getElem_toArray, List.getElem_cons_succ, List.getElem_cons_zero]
        try simp only [Act.put, List.setIfInBounds_toArray]
        try dsimp only [List.set_cons_zero, List.set_cons_succ]
        refine wpAnyH_take2 (i := 11) (fuel := 22) (v := ?v11) rfl (by kernel_rfl) (by kernel_rfl) (by kernel_rfl) (fun _ _ _ h => h) (Or.inl ⟨by kernel_rfl, ?hy11⟩) hHeld (show _ = (true :: true :: true :: true :: true :: true :: true :: true :: true :: true :: true :: true :: false :: false :: false :: false :: false :: false :: false :: false :: false :: false :: false :: false :: false :: false :: false :: false :: false :: false :: false :: false :: false :: false :: []).toArray by kernel_rfl) ?rest11
        case hy11 => intro X hX; (try dsimp only at hX); go_simp <;> with_reducible rfl
        try dsimp only [List.getElem_toArray, List.getElem_cons_succ, List.getElem_cons_zero]
        try simp only [Act.put, List.setIfInBounds_toArray]
        try dsimp only [List.set_cons_zero, List.set_cons_succ]
        refine wpAnyH_take2 (i := 12) (fuel := 21) (v := ?v12) rfl (by kernel_rfl) (by kernel_rfl) (by kernel_rfl) (fun _ _ _ h => h) (Or.inl ⟨by kernel_rfl, ?hy12⟩) hHeld (show _ = (true :: true :: true :: true :: true :: true :: true :: true :: true :: true :: true :: true :: true :: false :: false :: false :: false :: false :: false :: false :: false :: false :: false :: false :: false :: false :: false :: false :: false :: false :: false :: false :: false :: false :: []).toArray by kernel_rfl) ?rest12
        case hy12 => intro X hX; (try dsimp only at hX); obtain ⟨z1, z2, z3⟩ := (gY.keep hX).cells; go_simp <;> with_reducible rfl
        try dsimp only [List.getElem_toArray, List.getElem_cons_succ, List.getElem_cons_zero]
        try simp only [Act.put, List.setIfInBounds_toArray]
        try dsimp only [List.set_cons_zero, List.set_cons_succ]
        refine wpAnyH_fn (i := 13) (fuel := 20) (by kernel_rfl) rfl (by kernel_rfl) (by kernel_rfl) (show _ = (true :: true :: true :: true :: true :: true :: true :: true :: true :: true :: true :: true :: true :: true :: false :: false :: false :: false :: false :: false :: false :: false :: false :: false :: false :: false :: false :: false :: false :: false :: false :: false :: false :: false :: []).toArray by kernel_rfl) (IY.out _ _ (gY.keep hHeld).row) ?_
        rintro e q2 ⟨rfl, hb⟩
        refine ⟨_, rfl, hHeld.trans (hb.mono hHeld.size), ?_⟩
        replace hHeld := hHeld.trans (hb.mono hHeld.size)
        clear hb
        try dsimp only [List.getElem_toArray, List.getElem_cons_succ, List.getElem_cons_zero]
        try simp only [Act.put, List.setIfInBounds_toArray]
        try dsimp only [List.set_cons_zero, List.set_cons_succ]
        refine wpAnyH_take2 (i := 14) (fuel := 19) (v := ?v13) rfl (by kernel_rfl) (by kernel_rfl) (by kernel_rfl) (fun _ _ _ h => h) (Or.inl ⟨by kernel_rfl, ?hy13⟩) hHeld (show _ = (true :: true :: true :: true :: true :: true :: true :: true :: true :: true :: true :: true :: true :: true :: true :: false :: false :: false :: false :: false :: false :: false :: false :: false :: false :: false :: false :: false :: false :: false :: false :: false :: false :: false :: []).toArray by kernel_rfl) ?rest13
        case hy13 => intro X hX; (try dsimp only at hX); go_simp <;> with_reducible rfl
        try dsimp only [List.getElem_toArray, List.getElem_cons_succ, List.getElem_cons_zero]
        try simp only [Act.put, List.setIfInBounds_toArray]
        try dsimp only [List.set_cons_zero, List.set_cons_succ]
        refine wpAnyH_take2 (i := 15) (fuel := 18) (v := ?v14) rfl (by kernel_rfl) (by kernel_rfl) (by kernel_rfl) (fun _ _ _ h => h) (Or.inl ⟨by kernel_rfl, ?hy14⟩) hHeld (show _ = (true :: true :: true :: true :: true :: true :: true :: true :: true :: true :: true :: true :: true :: true :: true :: true :: false :: false :: false :: false :: false :: false :: false :: false :: false :: false :: false :: false :: false :: false :: false :: false :: false :: false :: []).toArray by kernel_rfl) ?rest14
        case hy14 => intro X hX; (try dsimp only at hX); go_simp <;> with_reducible rfl
        try dsimp only [List.getElem_toArray, List.getElem_cons_succ, List.getElem_cons_zero]
        try simp only [Act.put, List.setIfInBounds_toArray]
        try dsimp only [List.set_cons_zero, List.set_cons_succ]
        refine wpAnyH_take2 (i := 16) (fuel := 17) (v := ?v15) rfl (by kernel_rfl) (by kernel_rfl) (by kernel_rfl) (fun _ _ _ h => h) (Or.inl ⟨by kernel_rfl, ?hy15⟩) hHeld (show _ = (true :: true :: true :: true :: true :: true :: true :: true :: true :: true :: true :: true :: true :: true :: true :: true :: true :: false :: false :: false :: false :: false :: false :: false :: false :: false :: false :: false :: false :: false :: false :: false :: false :: false :: []).toArray by kernel_rfl) ?rest15
        case hy15 => intro X hX; (try dsimp only at hX); go_simp <;> with_reducible rfl
        try dsimp only [List.getElem_toArray, List.getElem_cons_succ, List.getElem_cons_zero]
        try simp only [Act.put, List.setIfInBounds_toArray]
        try dsimp only [List.set_cons_zero, List.set_cons_succ]
        refine wpAnyH_take2 (i := 17) (fuel := 16) (v := ?v16) rfl (by kernel_rfl) (by kernel_rfl) (by kernel_rfl) (fun _ _ _ h => h) (Or.inl ⟨by kernel_rfl, ?hy16⟩) hHeld (show _ = (true :: true :: true :: true :: true :: true :: true :: true :: true :: true :: true :: true :: true :: true :: true :: true :: true :: true :: false :: false :: false :: false :: false :: false :: false :: false :: false :: false :: false :: false :: false :: false :: false :: false :: []).toArray by kernel_rfl) ?rest16
        case hy16 => intro X hX; (try dsimp only at hX); obtain ⟨z1, z2, z3⟩ := (gY.keep hX).cells; go_simp <;> with_reducible rfl
        try dsimp only [List.getElem_toArray, List.getElem_cons_succ, List.getElem_cons_zero]
        try simp only [Act.put, List.setIfInBounds_toArray]
        try dsimp only [List.set_cons_zero, List.set_cons_succ]
        refine wpAnyH_take2 (i := 18) (fuel := 15) (v := ?v17) rfl (by kernel_rfl) (by kernel_rfl) (by kernel_rfl) (fun _ _ _ h => h) (Or.inl ⟨by kernel_rfl, ?hy17⟩) hHeld (show _ = (true :: true :: true :: true :: true :: true :: true :: true :: true :: true :: true :: true :: true :: true :: true :: true :: true :: true :: true :: false :: false :: false :: false :: false :: false :: false :: false :: false :: false :: false :: false :: false :: false :: false :: []).toArray by kernel_rfl) ?rest17
        case hy17 => intro X hX; (try dsimp only at hX); go_simp <;> with_reducible rfl
        try dsimp only [List.getElem_toArray, List.getElem_cons_succ, List.getElem_cons_zero]
        try simp only [Act.put, List.setIfInBounds_toArray]
        try dsimp only [List.set_cons_zero, List.set_cons_succ]
        refine wpAnyH_take2 (i := 19) (fuel := 14) (v := ?v18) rfl (by kernel_rfl) (by kernel_rfl) (by kernel_rfl) (fun _ _ _ h => h) (Or.inl ⟨by kernel_rfl, ?hy18⟩) hHeld (show _ = (true :: true :: true :: true :: true :: true :: true :: true :: true :: true :: true :: true :: true :: true :: true :: true :: true :: true :: true :: true :: false :: false :: false :: false :: false :: false :: false :: false :: false :: false :: false :: false :: false :: false :: []).toArray by kernel_rfl) ?rest18
        case hy18 => intro X hX; (try dsimp only at hX); go_simp <;> with_reducible rfl
        try dsimp only [List.getElem_toArray, List.getElem_cons_succ, List.getElem_cons_zero]
        try simp only [Act.put, List.setIfInBounds_toArray]
        try dsimp only [List.set_cons_zero, List.set_cons_succ]
        refine wpAnyH_take2 (i := 20) (fuel := 13) (v := ?v19) rfl (by kernel_rfl) (by kernel_rfl) (by kernel_rfl) (fun _ _ _ h => h) (Or.inl ⟨by kernel_rfl, ?hy19⟩) hHeld (show _ = (true :: true :: true :: true :: true :: true :: true :: true :: true :: true :: true :: true :: true :: true :: true :: true :: true :: true :: true :: true :: true :: false :: false :: false :: false :: false :: false :: false :: false :: false :: false :: false :: false :: false :: []).toArray by kernel_rfl) ?rest19
        case hy19 => intro X hX; (try dsimp only at hX); obtain ⟨z1, z2, z3⟩ := (gG.keep hX).cells; go_simp <;> with_reducible rfl
        try dsimp only [List.getElem_toArray, List.getElem_cons_succ, List.getElem_cons_zero]
        try simp only [Act.put, List.setIfInBounds_toArray]
        try dsimp only [List.set_cons_zero, List.set_cons_succ]
        refine wpAnyH_take2 (i := 21) (fuel := 12) (v := ?v20) rfl (by kernel_rfl) (by kernel_rfl) (by kernel_rfl) (fun _ _ _ h => h) (Or.inl ⟨by kernel_rfl, ?hy20⟩) hHeld (show _ = (true :: true :: true :: true :: true :: true :: true :: true :: true :: true :: true :: true :: true :: true :: true :: true :: true :: true :: true :: true :: true :: true :: false :: false :: false :: false :: false :: false :: false :: false :: false :: false :: false :: false :: []).toArray by kernel_rfl) ?rest20
        case hy20 => intro X hX; (try dsimp only at hX); go_simp <;> with_reducible rfl
        try dsimp only [List.getElem_toArray, List.getElem_cons_succ, List.getElem_cons_zero]
        try simp only [Act.put, List.setIfInBounds_toArray]
        try dsimp only [List.set_cons_zero, List.set_cons_succ]
        refine wpAnyH_take2 (i := 22) (fuel := 11) (v := ?v21) rfl (by kernel_rfl) (by kernel_rfl) (by kernel_rfl) (fun _ _ _ h => h) (Or.inl ⟨by kernel_rfl, ?hy21⟩) hHeld (show _ = (true :: true :: true :: true :: true :: true :: true :: true :: true :: true :: true :: true :: true :: true :: true :: true :: true :: true :: true :: true :: true :: true :: true :: false :: false :: false :: false :: false :: false :: false :: false :: false :: false :: false :: []).toArray by kernel_rfl) ?rest21
        case hy21 => intro X hX; (try dsimp only at hX); go_simp <;> with_reducible rfl
        try dsimp only [List.getElem_toArray, List.getElem_cons_succ, List.getElem_cons_zero]
        try simp only [Act.put, List.setIfInBounds_toArray]
        try dsimp only [List.set_cons_zero, List.set_cons_succ]
        refine wpAnyH_take2 (i := 23) (fuel := 10) (v := ?v22) rfl (by kernel_rfl) (by kernel_rfl) (by kernel_rfl) (fun _ _ _ h => h) (Or.inl ⟨by kernel_rfl, ?hy22⟩) hHeld (show _ = (true :: true :: true :: true :: true :: true :: true :: true :: true :: true :: true :: true :: true :: true :: true :: true :: true :: true :: true :: true :: true :: true :: true :: true :: false :: false :: false :: false :: false :: false :: false :: false :: false :: false :: []).toArray by kernel_rfl) ?rest22
        case hy22 => intro X hX; (try dsimp only at hX); go_simp <;> with_reducible rfl
        try dsimp only [List.getElem_toArray, List.getElem_cons_succ, List.getElem_cons_zero]
        try simp only [Act.put, List.setIfInBounds_toArray]
        try dsimp only [List.set_cons_zero, List.set_cons_succ]
        refine wpAnyH_take2 (i := 24) (fuel := 9) (v := ?v23) rfl (by kernel_rfl) (by kernel_rfl) (by kernel_rfl) (fun _ _ _ h => h) (Or.inl ⟨by kernel_rfl, ?hy23⟩) hHeld (show _ = (true :: true :: true :: true :: true :: true :: true :: true :: true :: true :: true :: true :: true :: true :: true :: true :: true :: true :: true :: true :: true :: true :: true :: true :: true :: false :: false :: false :: false :: false :: false :: false :: false :: false :: []).toArray by kernel_rfl) ?rest23
        case hy23 => intro X hX; (try dsimp only at hX); go_simp <;> with_reducible rfl
        try dsimp only [List.getElem_toArray, List.getElem_cons_succ, List.getElem_cons_zero]
        try simp only [Act.put, List.setIfInBounds_toArray]
        try dsimp only [List.set_cons_zero, List.set_cons_succ]
        refine wpAnyH_take2 (i := 25) (fuel := 8) (v := ?v24) rfl (by kernel_rfl) (by kernel_rfl) (by kernel_rfl) (fun _ _ _ h => h) (Or.inl ⟨by kernel_rfl, ?hy24⟩) hHeld (show _ = (true :: true :: true :: true :: true :: true :: true :: true :: true :: true :: true :: true :: true :: true :: true :: true :: true :: true :: true :: true :: true :: true :: true :: true :: true :: true :: false :: false :: false :: false :: false :: false :: false :: false :: []).toArray by kernel_rfl) ?rest24
        case hy24 => intro X hX; (try dsimp only at hX); go_simp <;> with_reducible rfl
        try dsimp only [List.getElem_toArray, List.getElem_cons_succ, List.getElem_cons_zero]
        try simp only [Act.put, List.setIfInBounds_toArray]
        try dsimp only [List.set_cons_zero, List.set_cons_succ]
        refine wpAnyH_take2 (i := 26) (fuel := 7) (v := ?v25) rfl (by kernel_rfl) (by kernel_rfl) (by kernel_rfl) (fun _ _ _ h => h) (Or.inl ⟨by kernel_rfl, ?hy25⟩) hHeld (show _ = (true :: true :: true :: true :: true :: true :: true :: true :: true :: true :: true :: true :: true :: true :: true :: true :: true :: true :: true :: true :: true :: true :: true :: true :: true :: true :: true :: false :: false :: false :: false :: false :: false :: false :: []).toArray by kernel_rfl) ?rest25
        case hy25 => intro X hX; (try dsimp only at hX); go_simp <;> with_reducible rfl
        try dsimp only [List.getElem_toArray, List.getElem_cons_succ, List.getElem_cons_zero]
        try simp only [Act.put, List.setIfInBounds_toArray]
        try dsimp only [List.set_cons_zero, List.set_cons_succ]
        refine wpAnyH_take2 (i := 27) (fuel := 6) (v := ?v26) rfl (by kernel_rfl) (by kernel_rfl) (by kernel_rfl) (fun _ _ _ h => h) (Or.inl ⟨by kernel_rfl, ?hy26⟩) hHeld (show _ = (true :: true :: true :: true :: true :: true :: true :: true :: true :: true :: true :: true :: true :: true :: true :: true :: true :: true :: true :: true :: true :: true :: true :: true :: true :: true :: true :: true :: false :: false :: false :: false :: false :: false :: []).toArray by kernel_rfl) ?rest26
        case hy26 => intro X hX; (try dsimp only at hX); go_simp <;> with_reducible rfl
        try dsimp only [List.getElem_toArray, List.getElem_cons_succ, List.getElem_cons_zero]
        try simp only [Act.put, List.setIfInBounds_toArray]
        try dsimp only [List.set_cons_zero, List.set_cons_succ]
        refine wpAnyH_take2 (i := 28) (fuel := 5) (v := ?v27) rfl (by kernel_rfl) (by kernel_rfl) (by kernel_rfl) (fun _ _ _ h => h) (Or.inl ⟨by kernel_rfl, ?hy27⟩) hHeld (show _ = (true :: true :: true :: true :: true :: true :: true :: true :: true :: true :: true :: true :: true :: true :: true :: true :: true :: true :: true :: true :: true :: true :: true :: true :: true :: true :: true :: true :: true :: false :: false :: false :: false :: false :: []).toArray by kernel_rfl) ?rest27
        case hy27 => intro X hX; (try dsimp only at hX); obtain ⟨z1, z2, z3⟩ := (gG.keep hX).cells; go_simp <;> with_reducible rfl
        try dsimp only [List.getElem_toArray, List.getElem_cons_succ, List.getElem_cons_zero]
        try simp only [Act.put, List.setIfInBounds_toArray]
        try dsimp only [List.set_cons_zero, List.set_cons_succ]
        refine wpAnyH_take2 (i := 30) (fuel := 4) (v := ?v28) rfl (by kernel_rfl) (by kernel_rfl) (by kernel_rfl) (fun _ _ _ h => h) (Or.inl ⟨by kernel_rfl, ?hy28⟩) hHeld (show _ = (true :: true :: true :: true :: true :: true :: true :: true :: true :: true :: true :: true :: true :: true :: true :: true :: true :: true :: true :: true :: true :: true :: true :: true :: true :: true :: true :: true :: true :: false :: true :: false :: false :: false :: []).toArray by kernel_rfl) ?rest28
        case hy28 => intro X hX; (try dsimp only at hX); obtain ⟨z1, z2, z3⟩ := (gG.keep hX).cells; go_simp <;> with_reducible rfl
        try dsimp only [List.getElem_toArray, List.getElem_cons_succ, List.getElem_cons_zero]
        try simp only [Act.put, List.setIfInBounds_toArray]
        try dsimp only [List.set_cons_zero, List.set_cons_succ]
        refine wpAnyH_fn (i := 29) (fuel := 3) (by kernel_rfl) rfl (by kernel_rfl) (by kernel_rfl) (show _ = (true :: true :: true :: true :: true :: true :: true :: true :: true :: true :: true :: true :: true :: true :: true :: true :: true :: true :: true :: true :: true :: true :: true :: true :: true :: true :: true :: true :: true :: true :: true :: false :: false :: false :: []).toArray by kernel_rfl) (II.out _ _ (gG.keep hHeld).row) ?_
        rintro e q3 ⟨rfl, hb⟩
        refine ⟨_, rfl, hHeld.trans (hb.mono hHeld.size), ?_⟩
        replace hHeld := hHeld.trans (hb.mono hHeld.size)
        clear hb
        try dsimp only [List.getElem_toArray, List.getElem_cons_succ, List.getElem_cons_zero]
        try simp only [Act.put, List.setIfInBounds_toArray]
        try dsimp only [List.set_cons_zero, List.set_cons_succ]
        refine wpAnyH_fn (i := 31) (fuel := 2) (by kernel_rfl) rfl (by kernel_rfl) (by kernel_rfl) (show _ = (true :: true :: true :: true :: true :: true :: true :: true :: true :: true :: true :: true :: true :: true :: true :: true :: true :: true :: true :: true :: true :: true :: true :: true :: true :: true :: true :: true :: true :: true :: true :: true :: false :: false :: []).toArray by kernel_rfl) (IS.out _ _ (gG.keep hHeld).row) ?_
        rintro e q4 ⟨rfl, hb⟩
        refine ⟨_, rfl, hHeld.trans (hb.mono hHeld.size), ?_⟩
        replace hHeld := hHeld.trans (hb.mono hHeld.size)
        clear hb
        try dsimp only [List.getElem_toArray, List.getElem_cons_succ, List.getElem_cons_zero]
        try simp only [Act.put, List.setIfInBounds_toArray]
        try dsimp only [List.set_cons_zero, List.set_cons_succ]
        refine wpAnyH_take2 (i := 32) (fuel := 1) (v := ?v29) rfl (by kernel_rfl) (by kernel_rfl) (by kernel_rfl) (fun _ _ _ h => h) (Or.inl ⟨by kernel_rfl, ?hy29⟩) hHeld (show _ = (true :: true :: true :: true :: true :: true :: true :: true :: true :: true :: true :: true :: true :: true :: true :: true :: true :: true :: true :: true :: true :: true :: true :: true :: true :: true :: true :: true :: true :: true :: true :: true :: true :: false :: []).toArray by kernel_rfl) ?rest29
        case hy29 => intro X hX; (try dsimp only at hX); go_simp <;> with_reducible rfl
        try dsimp only [List.getElem_toArray, List.getElem_cons_succ, List.getElem_cons_zero]
        try simp only [Act.put, List.setIfInBounds_toArray]
        try dsimp only [List.set_cons_zero, List.set_cons_succ]
        refine wpAnyH_take2 (i := 33) (fuel := 0) (v := ?v30) rfl (by kernel_rfl) (by kernel_rfl) (by kernel_rfl) (fun _ _ _ h => h) (Or.inl ⟨by kernel_rfl, ?hy30⟩) hHeld (show _ = (true :: true :: true :: true :: true :: true :: true :: true :: true :: true :: true :: true :: true :: true :: true :: true :: true :: true :: true :: true :: true :: true :: true :: true :: true :: true :: true :: true :: true :: true :: true :: true :: true :: true :: []).toArray by kernel_rfl) ?rest30
        case hy30 => intro X hX; (try dsimp only at hX); go_simp <;> with_reducible rfl
        try dsimp only [List.getElem_toArray, List.getElem_cons_succ, List.getElem_cons_zero]
        try simp only [Act.put, List.setIfInBounds_toArray]
        try dsimp only [List.set_cons_zero, List.set_cons_succ]
        refine wpAnyH_done (by kernel_rfl) ?_ _
        go_wp2_with fail
        go_meet
        case rel => exact ⟨rfl, hHeld⟩
    | false =>
      as_aux_lemma =>
        have hHeld := (Below.refl M4.heap.size M4).drew
        refine wp_region_held2 (n := 34) (listed := (false :: false :: false :: false :: false :: false :: false :: false :: false :: false :: false :: false :: false :: false :: false :: false :: false :: false :: false :: false :: false :: false :: false :: false :: false :: false :: false :: false :: false :: false :: false :: false :: false :: false :: []).toArray) (S := fun X => Below M4.heap.size M4 X) (by kernel_rfl) (by kernel_rfl) (by kernel_rfl) hHeld ?_
        refine wpAnyH_take2 (i := 0) (fuel := 33) (v := ?v31) rfl (by kernel_rfl) (by kernel_rfl) (by kernel_rfl) (fun _ _ _ h => h) (Or.inl ⟨by kernel_rfl, ?hy31⟩) hHeld (show _ = (true :: false :: false :: false :: false :: false :: false :: false :: false :: false :: false :: false :: false :: false :: false :: false :: false :: false :: false :: false :: false :: false :: false :: false :: false :: false :: false :: false :: false :: false :: false :: false :: false :: false :: []).toArray by kernel_rfl) ?rest31
        case hy31 => intro X hX; (try dsimp only at hX); go_simp <;> with_reducible rfl
        try dsimp only [List.getElem_toArray, List.getElem_cons_succ, List.getElem_cons_zero]
        try simp only [Act.put, List.setIfInBounds_toArray]
        try dsimp only [List.set_cons_zero, List.set_cons_succ]
        refine wpAnyH_take2 (i := 1) (fuel := 32) (v := ?v32) rfl (by kernel_rfl) (by kernel_rfl) (by kernel_rfl) (fun _ _ _ h => h) (Or.inl ⟨by kernel_rfl, ?hy32⟩) hHeld (show _ = (true :: true :: false :: false :: false :: false :: false :: false :: false :: false :: false :: false :: false :: false :: false :: false :: false :: false :: false :: false :: false :: false :: false :: false :: false :: false :: false :: false :: false :: false :: false :: false :: false :: false :: []).toArray by kernel_rfl) ?rest32
        case hy32 => intro X hX; (try dsimp only at hX); go_simp <;> with_reducible rfl
        try dsimp only [List.getElem_toArray, List.getElem_cons_succ, List.getElem_cons_zero]
        try simp only [Act.put, List.setIfInBounds_toArray]
        try dsimp only [List.set_cons_zero, List.set_cons_succ]
        refine wpAnyH_take2 (i := 2) (fuel := 31) (v := ?v33) rfl (by kernel_rfl) (by kernel_rfl) (by kernel_rfl) (fun _ _ _ h => h) (Or.inl ⟨by kernel_rfl, ?hy33⟩) hHeld (show _ = (true :: true :: true :: false :: false :: false :: false :: false :: false :: false :: false :: false :: false :: false :: false :: false :: false :: false :: false :: false :: false :: false :: false :: false :: false :: false :: false :: false :: false :: false :: false :: false :: false :: false :: []).toArray by kernel_rfl) ?rest33
        case hy33 => intro X hX; (try dsimp only at hX); go_simp <;> with_reducible rfl
        try dsimp only [List.getElem_toArray, List.getElem_cons_succ, List.getElem_cons_zero]
        try simp only [Act.put, List.setIfInBounds_toArray]
        try dsimp only [List.set_cons_zero, List.set_cons_succ]
        refine wpAnyH_take2 (i := 3) (fuel := 30) (v := ?v34) rfl (by kernel_rfl) (by kernel_rfl) (by kernel_rfl) (fun _ _ _ h => h) (Or.inl ⟨by kernel_rfl, ?hy34⟩) hHeld (show _ = (true :: true :: true :: true :: false :: false :: false :: false :: false :: false :: false :: false :: false :: false :: false :: false :: false :: false :: false :: false :: false :: false :: false :: false :: false :: false :: false :: false :: false :: false :: false :: false :: false :: false :: []).toArray by kernel_rfl) ?rest34
        case hy34 => intro X hX; (try dsimp only at hX); go_simp <;> with_reducible rfl
        try dsimp only [List.getElem_toArray, List.getElem_cons_succ, List.getElem_cons_zero]
        try simp only [Act.put, List.setIfInBounds_toArray]
        try dsimp only [List.set_cons_zero, List.set_cons_succ]
        refine wpAnyH_take2 (i := 4) (fuel := 29) (v := ?v35) rfl (by kernel_rfl) (by kernel_rfl) (by kernel_rfl) (fun _ _ _ h => h) (Or.inl ⟨by kernel_rfl, ?hy35⟩) hHeld (show _ = (true :: true :: true :: true :: true :: false :: false :: false :: false :: false :: false :: false :: false :: false :: false :: false :: false :: false :: false :: false :: false :: false :: false :: false :: false :: false :: false :: false :: false :: false :: false :: false :: false :: false :: []).toArray by kernel_rfl) ?rest35
        case hy35 => intro X hX; (try dsimp only at hX); obtain ⟨z1, z2, z3⟩ := (gX.keep hX).cells; go_simp <;> with_reducible rfl
        try dsimp only [List.getElem_toArray, List.getElem_cons_succ, List.getElem_cons_zero]
        try simp only [Act.put, List.setIfInBounds_toArray]
        try dsimp only [List.set_cons_zero, List.set_cons_succ]
        refine wpAnyH_take2 (i := 5) (fuel := 28) (v := ?v36) rfl (by kernel_rfl) (by kernel_rfl) (by kernel_rfl) (fun _ _ _ h => h) (Or.inl ⟨by kernel_rfl, ?hy36⟩) hHeld (show _ = (true :: true :: true :: true :: true :: true :: false :: false :: false :: false :: false :: false :: false :: false :: false :: false :: false :: false :: false :: false :: false :: false :: false :: false :: false :: false :: false :: false :: false :: false :: false :: false :: false :: false :: []).toArray by kernel_rfl) ?rest36
        case hy36 => intro X hX; (try dsimp only at hX); obtain ⟨z1, z2, z3⟩ := (gY.keep hX).cells; go_simp <;> with_reducible rfl
        try dsimp only [List.getElem_toArray, List.getElem_cons_succ, List.getElem_cons_zero]
        try simp only [Act.put, List.setIfInBounds_toArray]
        try dsimp only [List.set_cons_zero, List.set_cons_succ]
        refine wpAnyH_fn (i := 6) (fuel := 27) (by kernel_rfl) rfl (by kernel_rfl) (by kernel_rfl) (show _ = (true :: true :: true :: true :: true :: true :: true :: false :: false :: false :: false :: false :: false :: false :: false :: false :: false :: false :: false :: false :: false :: false :: false :: false :: false :: false :: false :: false :: false :: false :: false :: false :: false :: false :: []).toArray by kernel_rfl) (sameG_any r n _ _ L3 _ (gX.keep hHeld).row (gY.keep hHeld).row hL10) ?_
        rintro e q1 ⟨rfl, hb⟩
        refine ⟨_, rfl, hHeld.trans (hb.mono hHeld.size), ?_⟩
        replace hHeld := hHeld.trans (hb.mono hHeld.size)
        clear hb
        try dsimp only [List.getElem_toArray, List.getElem_cons_succ, List.getElem_cons_zero]
        try simp only [Act.put, List.setIfInBounds_toArray]
        try dsimp only [List.set_cons_zero, List.set_cons_succ]
        refine wpAnyH_take2 (i := 7) (fuel := 26) (v := ?v37) rfl (by kernel_rfl) (by kernel_rfl) (by kernel_rfl) (fun _ _ _ h => h) (Or.inl ⟨by kernel_rfl, ?hy37⟩) hHeld (show _ = (true :: true :: true :: true :: true :: true :: true :: true :: false :: false :: false :: false :: false :: false :: false :: false :: false :: false :: false :: false :: false :: false :: false :: false :: false :: false :: false :: false :: false :: false :: false :: false :: false :: false :: []).toArray by kernel_rfl) ?rest37
        case hy37 => intro X hX; (try dsimp only at hX); go_simp <;> with_reducible rfl
        try dsimp only [List.getElem_toArray, List.getElem_cons_succ, List.getElem_cons_zero]
        try simp only [Act.put, List.setIfInBounds_toArray]
        try dsimp only [List.set_cons_zero, List.set_cons_succ]
        refine wpAnyH_take2 (i := 8) (fuel := 25) (v := ?v38) rfl (by kernel_rfl) (by kernel_rfl) (by kernel_rfl) (fun _ _ _ h => h) (Or.inl ⟨by kernel_rfl, ?hy38⟩) hHeld (show _ = (true :: true :: true :: true :: true :: true :: true :: true :: true :: false :: false :: false :: false :: false :: false :: false :: false :: false :: false :: false :: false :: false :: false :: false :: false :: false :: false :: false :: false :: false :: false :: false :: false :: false :: []).toArray by kernel_rfl) ?rest38
        case hy38 => intro X hX; (try dsimp only at hX); go_simp <;> with_reducible rfl
        try dsimp only [List.getElem_toArray, List.getElem_cons_succ, List.getElem_cons_zero]
        try simp only [Act.put, List.setIfInBounds_toArray]
        try dsimp only [List.set_cons_zero, List.set_cons_succ]
        refine wpAnyH_take2 (i := 9) (fuel := 24) (v := ?v39) rfl (by kernel_rfl) (by kernel_rfl) (by kernel_rfl) (fun _ _ _ h => h) (Or.inl ⟨by kernel_rfl, ?hy39⟩) hHeld (show _ = (true :: true :: true :: true :: true :: true :: true :: true :: true :: true :: false :: false :: false :: false :: false :: false :: false :: false :: false :: false :: false :: false :: false :: false :: false :: false :: false :: false :: false :: false :: false :: false :: false :: false :: []).toArray by kernel_rfl) ?rest39
        case hy39 => intro X hX; (try dsimp only at hX); go_simp <;> with_reducible rfl
        try dsimp only [List.getElem_toArray, List.getElem_cons_succ, List.getElem_cons_zero]
        try simp only [Act.put, List.setIfInBounds_toArray]
        try dsimp only [List.set_cons_zero, List.set_cons_succ]
        refine wpAnyH_take2 (i := 10) (fuel := 23) (v := ?v40) rfl (by kernel_rfl) (by kernel_rfl) (by kernel_rfl) (fun _ _ _ h => h) (Or.inl ⟨by kernel_rfl, ?hy40⟩) hHeld (show _ = (true :: true :: true :: true :: true :: true :: true :: true :: true :: true :: true :: false :: false :: false :: false :: false :: false :: false :: false :: false :: false :: false :: false :: false :: false :: false :: false :: false :: false :: false :: false :: false :: false :: false :: []).toArray by kernel_rfl) ?rest40
        case hy40 => intro X hX; (try dsimp only at hX); go_simp <;> with_reducible rfl
        try dsimp only [List.getElem_toArray, List.getElem_cons_succ, List.getElem_cons_zero]
        try simp only [Act.put, List.setIfInBounds_toArray]
        try dsimp only [List.set_cons_zero, List.set_cons_succ]
        refine wpAnyH_take2 (i := 11) (fuel := 22) (v := ?v41) rfl (by kernel_rfl) (by kernel_rfl) (by kernel_rfl) (fun _ _ _ h => h) (Or.inl ⟨by kernel_rfl, ?hy41⟩) hHeld (show _ = (true :: true :: true :: true :: true :: true :: true :: true :: true :: true :: true :: true :: false :: false :: false :: false :: false :: false :: false :: false :: false :: false :: false :: false :: false :: false :: false :: false :: false :: false :: false :: false :: false :: false :: []).toArray by kernel_rfl) ?rest41
        case hy41 => intro X hX; (try dsimp only at hX); go_simp <;> with_reducible rfl
        try dsimp only [List.getElem_toArray, List.getElem_cons_succ, List.getElem_cons_zero]
        try simp only [Act.put, List.setIfInBounds_toArray]
        try dsimp only [List.set_cons_zero, List.set_cons_succ]
        refine wpAnyH_take2 (i := 12) (fuel := 21) (v := undef) rfl (by kernel_rfl) (by kernel_rfl) (by kernel_rfl) (fun _ _ _ h => h) (Or.inr ⟨by kernel_rfl, rfl⟩) hHeld (show _ = (true :: true :: true :: true :: true :: true :: true :: true :: true :: true :: true :: true :: true :: false :: false :: false :: false :: false :: false :: false :: false :: false :: false :: false :: false :: false :: false :: false :: false :: false :: false :: false :: false :: false :: []).toArray by kernel_rfl) ?_
        try dsimp only [List.getElem_toArray, List.getElem_cons_succ, List.getElem_cons_zero]
        try simp only [Act.put, List.setIfInBounds_toArray]
        try dsimp only [List.set_cons_zero, List.set_cons_succ]
        refine wpAnyH_take2 (i := 13) (fuel := 20) (v := undef) rfl (by kernel_rfl) (by kernel_rfl) (by kernel_rfl) (fun _ _ _ h => h) (Or.inr ⟨by kernel_rfl, rfl⟩) hHeld (show _ = (true :: true :: true :: true :: true :: true :: true :: true :: true :: true :: true :: true :: true :: true :: false :: false :: false :: false :: false :: false :: false :: false :: false :: false :: false :: false :: false :: false :: false :: false :: false :: false :: false :: false :: []).toArray by kernel_rfl) ?_
        try dsimp only [List.getElem_toArray, List.getElem_cons_succ, List.getElem_cons_zero]
        try simp only [Act.put, List.setIfInBounds_toArray]
        try dsimp only [List.set_cons_zero, List.set_cons_succ]
        refine wpAnyH_take2 (i := 14) (fuel := 19) (v := undef) rfl (by kernel_rfl) (by kernel_rfl) (by kernel_rfl) (fun _ _ _ h => h) (Or.inr ⟨by kernel_rfl, rfl⟩) hHeld (show _ = (true :: true :: true :: true :: true :: true :: true :: true :: true :: true :: true :: true :: true :: true :: true :: false :: false :: false :: false :: false :: false :: false :: false :: false :: false :: false :: false :: false :: false :: false :: false :: false :: false :: false :: []).toArray by kernel_rfl) ?_
        try dsimp only [List.getElem_toArray, List.getElem_cons_succ, List.getElem_cons_zero]
        try simp only [Act.put, List.setIfInBounds_toArray]
        try dsimp only [List.set_cons_zero, List.set_cons_succ]
        refine wpAnyH_take2 (i := 15) (fuel := 18) (v := undef) rfl (by kernel_rfl) (by kernel_rfl) (by kernel_rfl) (fun _ _ _ h => h) (Or.inr ⟨by kernel_rfl, rfl⟩) hHeld (show _ = (true :: true :: true :: true :: true :: true :: true :: true :: true :: true :: true :: true :: true :: true :: true :: true :: false :: false :: false :: false :: false :: false :: false :: false :: false :: false :: false :: false :: false :: false :: false :: false :: false :: false :: []).toArray by kernel_rfl) ?_
        try dsimp only [List.getElem_toArray, List.getElem_cons_succ, List.getElem_cons_zero]
        try simp only [Act.put, List.setIfInBounds_toArray]
        try dsimp only [List.set_cons_zero, List.set_cons_succ]
        refine wpAnyH_take2 (i := 16) (fuel := 17) (v := undef) rfl (by kernel_rfl) (by kernel_rfl) (by kernel_rfl) (fun _ _ _ h => h) (Or.inr ⟨by kernel_rfl, rfl⟩) hHeld (show _ = (true :: true :: true :: true :: true :: true :: true :: true :: true :: true :: true :: true :: true :: true :: true :: true :: true :: false :: false :: false :: false :: false :: false :: false :: false :: false :: false :: false :: false :: false :: false :: false :: false :: false :: []).toArray by kernel_rfl) ?_
        try dsimp only [List.getElem_toArray, List.getElem_cons_succ, List.getElem_cons_zero]
        try simp only [Act.put, List.setIfInBounds_toArray]
        try dsimp only [List.set_cons_zero, List.set_cons_succ]
        refine wpAnyH_take2 (i := 17) (fuel := 16) (v := undef) rfl (by kernel_rfl) (by kernel_rfl) (by kernel_rfl) (fun _ _ _ h => h) (Or.inr ⟨by kernel_rfl, rfl⟩) hHeld (show _ = (true :: true :: true :: true :: true :: true :: true :: true :: true :: true :: true :: true :: true :: true :: true :: true :: true :: true :: false :: false :: false :: false :: false :: false :: false :: false :: false :: false :: false :: false :: false :: false :: false :: false :: []).toArray by kernel_rfl) ?_
        try dsimp only [List.getElem_toArray, List.getElem_cons_succ, List.getElem_cons_zero]
        try simp only [Act.put, List.setIfInBounds_toArray]
        try dsimp only [List.set_cons_zero, List.set_cons_succ]
        refine wpAnyH_take2 (i := 18) (fuel := 15) (v := undef) rfl (by kernel_rfl) (by kernel_rfl) (by kernel_rfl) (fun _ _ _ h => h) (Or.inr ⟨by kernel_rfl, rfl⟩) hHeld (show _ = (true :: true :: true :: true :: true :: true :: true :: true :: true :: true :: true :: true :: true :: true :: true :: true :: true :: true :: true :: false :: false :: false :: false :: false :: false :: false :: false :: false :: false :: false :: false :: false :: false :: false :: []).toArray by kernel_rfl) ?_
        try dsimp only [List.getElem_toArray, List.getElem_cons_succ, List.getElem_cons_zero]
        try simp only [Act.put, List.setIfInBounds_toArray]
        try dsimp only [List.set_cons_zero, List.set_cons_succ]
        refine wpAnyH_take2 (i := 19) (fuel := 14) (v := undef) rfl (by kernel_rfl) (by kernel_rfl) (by kernel_rfl) (fun _ _ _ h => h) (Or.inr ⟨by kernel_rfl, rfl⟩) hHeld (show _ = (true :: true :: true :: true :: true :: true :: true :: true :: true :: true :: true :: true :: true :: true :: true :: true :: true :: true :: true :: true :: false :: false :: false :: false :: false :: false :: false :: false :: false :: false :: false :: false :: false :: false :: []).toArray by kernel_rfl) ?_
        try dsimp only [List.getElem_toArray, List.getElem_cons_succ, List.getElem_cons_zero]
        try simp only [Act.put, List.setIfInBounds_toArray]
        try dsimp only [List.set_cons_zero, List.set_cons_succ]
        refine wpAnyH_take2 (i := 20) (fuel := 13) (v := undef) rfl (by kernel_rfl) (by kernel_rfl) (by kernel_rfl) (fun _ _ _ h => h) (Or.inr ⟨by kernel_rfl, rfl⟩) hHeld (show _ = (true :: true :: true :: true :: true :: true :: true :: true :: true :: true :: true :: true :: true :: true :: true :: true :: true :: true :: true :: true :: true :: false :: false :: false :: false :: false :: false :: false :: false :: false :: false :: false :: false :: false :: []).toArray by kernel_rfl) ?_
        try dsimp only [List.getElem_toArray, List.getElem_cons_succ, List.getElem_cons_zero]
        try simp only [Act.put, List.setIfInBounds_toArray]
        try dsimp only [List.set_cons_zero, List.set_cons_succ]
        refine wpAnyH_take2 (i := 21) (fuel := 12) (v := undef) rfl (by kernel_rfl) (by kernel_rfl) (by kernel_rfl) (fun _ _ _ h => h) (Or.inr ⟨by kernel_rfl, rfl⟩) hHeld (show _ = (true :: true :: true :: true :: true :: true :: true :: true :: true :: true :: true :: true :: true :: true :: true :: true :: true :: true :: true :: true :: true :: true :: false :: false :: false :: false :: false :: false :: false :: false :: false :: false :: false :: false :: []).toArray by kernel_rfl) ?_
        try dsimp only [List.getElem_toArray, List.getElem_cons_succ, List.getElem_cons_zero]
        try simp only [Act.put, List.setIfInBounds_toArray]
        try dsimp only [List.set_cons_zero, List.set_cons_succ]
        refine wpAnyH_take2 (i := 22) (fuel := 11) (v := undef) rfl (by kernel_rfl) (by kernel_rfl) (by kernel_rfl) (fun _ _ _ h => h) (Or.inr ⟨by kernel_rfl, rfl⟩) hHeld (show _ = (true :: true :: true :: true :: true :: true :: true :: true :: true :: true :: true :: true :: true :: true :: true :: true :: true :: true :: true :: true :: true :: true :: true :: false :: false :: false :: false :: false :: false :: false :: false :: false :: false :: false :: []).toArray by kernel_rfl) ?_
        try dsimp only [List.getElem_toArray, List.getElem_cons_succ, List.getElem_cons_zero]
        try simp only [Act.put, List.setIfInBounds_toArray]
        try dsimp only [List.set_cons_zero, List.set_cons_succ]
        refine wpAnyH_take2 (i := 23) (fuel := 10) (v := undef) rfl (by kernel_rfl) (by kernel_rfl) (by kernel_rfl) (fun _ _ _ h => h) (Or.inr ⟨by kernel_rfl, rfl⟩) hHeld (show _ = (true :: true :: true :: true :: true :: true :: true :: true :: true :: true :: true :: true :: true :: true :: true :: true :: true :: true :: true :: true :: true :: true :: true :: true :: false :: false :: false :: false :: false :: false :: false :: false :: false :: false :: []).toArray by kernel_rfl) ?_
        try dsimp only [List.getElem_toArray, List.getElem_cons_succ, List.getElem_cons_zero]
        try simp only [Act.put, List.setIfInBounds_toArray]
        try dsimp only [List.set_cons_zero, List.set_cons_succ]
        refine wpAnyH_take2 (i := 24) (fuel := 9) (v := undef) rfl (by kernel_rfl) (by kernel_rfl) (by kernel_rfl) (fun _ _ _ h => h) (Or.inr ⟨by kernel_rfl, rfl⟩) hHeld (show _ = (true :: true :: true :: true :: true :: true :: true :: true :: true :: true :: true :: true :: true :: true :: true :: true :: true :: true :: true :: true :: true :: true :: true :: true :: true :: false :: false :: false :: false :: false :: false :: false :: false :: false :: []).toArray by kernel_rfl) ?_
        try dsimp only [List.getElem_toArray, List.getElem_cons_succ, List.getElem_cons_zero]
        try simp only [Act.put, List.setIfInBounds_toArray]
        try dsimp only [List.set_cons_zero, List.set_cons_succ]
        refine wpAnyH_take2 (i := 25) (fuel := 8) (v := ?v42) rfl (by kernel_rfl) (by kernel_rfl) (by kernel_rfl) (fun _ _ _ h => h) (Or.inl ⟨by kernel_rfl, ?hy42⟩) hHeld (show _ = (true :: true :: true :: true :: true :: true :: true :: true :: true :: true :: true :: true :: true :: true :: true :: true :: true :: true :: true :: true :: true :: true :: true :: true :: true :: true :: false :: false :: false :: false :: false :: false :: false :: false :: []).toArray by kernel_rfl) ?rest42
        case hy42 => intro X hX; (try dsimp only at hX); go_simp <;> with_reducible rfl
        try dsimp only [List.getElem_toArray, List.getElem_cons_succ, List.getElem_cons_zero]
        try simp only [Act.put, List.setIfInBounds_toArray]
        try dsimp only [List.set_cons_zero, List.set_cons_succ]
        refine wpAnyH_take2 (i := 26) (fuel := 7) (v := ?v43) rfl (by kernel_rfl) (by kernel_rfl) (by kernel_rfl) (fun _ _ _ h => h) (Or.inl ⟨by kernel_rfl, ?hy43⟩) hHeld (show _ = (true :: true :: true :: true :: true :: true :: true :: true :: true :: true :: true :: true :: true :: true :: true :: true :: true :: true :: true :: true :: true :: true :: true :: true :: true :: true :: true :: false :: false :: false :: false :: false :: false :: false :: []).toArray by kernel_rfl) ?rest43
        case hy43 => intro X hX; (try dsimp only at hX); go_simp <;> with_reducible rfl
        try dsimp only [List.getElem_toArray, List.getElem_cons_succ, List.getElem_cons_zero]
        try simp only [Act.put, List.setIfInBounds_toArray]
        try dsimp only [List.set_cons_zero, List.set_cons_succ]
        refine wpAnyH_take2 (i := 27) (fuel := 6) (v := ?v44) rfl (by kernel_rfl) (by kernel_rfl) (by kernel_rfl) (fun _ _ _ h => h) (Or.inl ⟨by kernel_rfl, ?hy44⟩) hHeld (show _ = (true :: true :: true :: true :: true :: true :: true :: true :: true :: true :: true :: true :: true :: true :: true :: true :: true :: true :: true :: true :: true :: true :: true :: true :: true :: true :: true :: true :: false :: false :: false :: false :: false :: false :: []).toArray by kernel_rfl) ?rest44
        case hy44 => intro X hX; (try dsimp only at hX); go_simp <;> with_reducible rfl
        try dsimp only [List.getElem_toArray, List.getElem_cons_succ, List.getElem_cons_zero]
        try simp only [Act.put, List.setIfInBounds_toArray]
        try dsimp only [List.set_cons_zero, List.set_cons_succ]
        refine wpAnyH_take2 (i := 28) (fuel := 5) (v := ?v45) rfl (by kernel_rfl) (by kernel_rfl) (by kernel_rfl) (fun _ _ _ h => h) (Or.inl ⟨by kernel_rfl, ?hy45⟩) hHeld (show _ = (true :: true :: true :: true :: true :: true :: true :: true :: true :: true :: true :: true :: true :: true :: true :: true :: true :: true :: true :: true :: true :: true :: true :: true :: true :: true :: true :: true :: true :: false :: false :: false :: false :: false :: []).toArray by kernel_rfl) ?rest45
        case hy45 => intro X hX; (try dsimp only at hX); obtain ⟨z1, z2, z3⟩ := (gG.keep hX).cells; go_simp <;> with_reducible rfl
        try dsimp only [List.getElem_toArray, List.getElem_cons_succ, List.getElem_cons_zero]
        try simp only [Act.put, List.setIfInBounds_toArray]
        try dsimp only [List.set_cons_zero, List.set_cons_succ]
        refine wpAnyH_take2 (i := 30) (fuel := 4) (v := ?v46) rfl (by kernel_rfl) (by kernel_rfl) (by kernel_rfl) (fun _ _ _ h => h) (Or.inl ⟨by kernel_rfl, ?hy46⟩) hHeld (show _ = (true :: true :: true :: true :: true :: true :: true :: true :: true :: true :: true :: true :: true :: true :: true :: true :: true :: true :: true :: true :: true :: true :: true :: true :: true :: true :: true :: true :: true :: false :: true :: false :: false :: false :: []).toArray by kernel_rfl) ?rest46
        case hy46 => intro X hX; (try dsimp only at hX); obtain ⟨z1, z2, z3⟩ := (gG.keep hX).cells; go_simp <;> with_reducible rfl
        try dsimp only [List.getElem_toArray, List.getElem_cons_succ, List.getElem_cons_zero]
        try simp only [Act.put, List.setIfInBounds_toArray]
        try dsimp only [List.set_cons_zero, List.set_cons_succ]
        refine wpAnyH_fn (i := 29) (fuel := 3) (by kernel_rfl) rfl (by kernel_rfl) (by kernel_rfl) (show _ = (true :: true :: true :: true :: true :: true :: true :: true :: true :: true :: true :: true :: true :: true :: true :: true :: true :: true :: true :: true :: true :: true :: true :: true :: true :: true :: true :: true :: true :: true :: true :: false :: false :: false :: []).toArray by kernel_rfl) (II.out _ _ (gG.keep hHeld).row) ?_
        rintro e q3 ⟨rfl, hb⟩
        refine ⟨_, rfl, hHeld.trans (hb.mono hHeld.size), ?_⟩
        replace hHeld := hHeld.trans (hb.mono hHeld.size)
        clear hb
        try dsimp only [List.getElem_toArray, List.getElem_cons_succ, List.getElem_cons_zero]
        try simp only [Act.put, List.setIfInBounds_toArray]
        try dsimp only [List.set_cons_zero, List.set_cons_succ]
        refine wpAnyH_fn (i := 31) (fuel := 2) (by kernel_rfl) rfl (by kernel_rfl) (by kernel_rfl) (show _ = (true :: true :: true :: true :: true :: true :: true :: true :: true :: true :: true :: true :: true :: true :: true :: true :: true :: true :: true :: true :: true :: true :: true :: true :: true :: true :: true :: true :: true :: true :: true :: true :: false :: false :: []).toArray by kernel_rfl) (IS.out _ _ (gG.keep hHeld).row) ?_
        rintro e q4 ⟨rfl, hb⟩
        refine ⟨_, rfl, hHeld.trans (hb.mono hHeld.size), ?_⟩
        replace hHeld := hHeld.trans (hb.mono hHeld.size)
        clear hb
        try dsimp only [List.getElem_toArray, List.getElem_cons_succ, List.getElem_cons_zero]
        try simp only [Act.put, List.setIfInBounds_toArray]
        try dsimp only [List.set_cons_zero, List.set_cons_succ]
        refine wpAnyH_take2 (i := 32) (fuel := 1) (v := ?v47) rfl (by kernel_rfl) (by kernel_rfl) (by kernel_rfl) (fun _ _ _ h => h) (Or.inl ⟨by kernel_rfl, ?hy47⟩) hHeld (show _ = (true :: true :: true :: true :: true :: true :: true :: true :: true :: true :: true :: true :: true :: true :: true :: true :: true :: true :: true :: true :: true :: true :: true :: true :: true :: true :: true :: true :: true :: true :: true :: true :: true :: false :: []).toArray by kernel_rfl) ?rest47
        case hy47 => intro X hX; (try dsimp only at hX); go_simp <;> with_reducible rfl
        try dsimp only [List.getElem_toArray, List.getElem_cons_succ, List.getElem_cons_zero]
        try simp only [Act.put, List.setIfInBounds_toArray]
        try dsimp only [List.set_cons_zero, List.set_cons_succ]
        refine wpAnyH_take2 (i := 33) (fuel := 0) (v := ?v48) rfl (by kernel_rfl) (by kernel_rfl) (by kernel_rfl) (fun _ _ _ h => h) (Or.inl ⟨by kernel_rfl, ?hy48⟩) hHeld (show _ = (true :: true :: true :: true :: true :: true :: true :: true :: true :: true :: true :: true :: true :: true :: true :: true :: true :: true :: true :: true :: true :: true :: true :: true :: true :: true :: true :: true :: true :: true :: true :: true :: true :: true :: []).toArray by kernel_rfl) ?rest48
        case hy48 => intro X hX; (try dsimp only at hX); go_simp <;> with_reducible rfl
        try dsimp only [List.getElem_toArray, List.getElem_cons_succ, List.getElem_cons_zero]
        try simp only [Act.put, List.setIfInBounds_toArray]
        try dsimp only [List.set_cons_zero, List.set_cons_succ]
        refine wpAnyH_done (by kernel_rfl) ?_ _
        go_wp2_with fail
        go_meet
        case rel => exact ⟨rfl, hHeld⟩
  case rest =>
  obtain ⟨rfl, hb⟩ := hcut
  rename World => w5
  replace hC := hC.keep hb
  replace gG := gG.keep hb
  replace gE := gE.keep hb
  replace gX := gX.keep hb
  replace gY := gY.keep hb
  replace hB := hB.trans (hb.mono hB.size)
  clear hb II AL HM4
  clear gX gY gE
  obtain ⟨pz1, pz2, pz3⟩ := gG.cells
  go_wp2_with fail
  refine (FI.out _ _ gG.row).mono ?_
  rintro e w6 ⟨rfl, hb⟩
  clear pz1 pz2 pz3
  replace hC := hC.keep hb
  replace gG := gG.keep hb
  replace hB := hB.trans (hb.mono hB.size)
  clear hb FI
  go_wp2_with fail
  refine (PB.out _).mono ?_
  rintro e w7 ⟨r7, n7, v7, l7, rfl, o7, hk7, hb⟩
  obtain ⟨A7, c7, rfl⟩ := id o7.edges.form
  have hb2 := hb.alloc hb.size (Obj.cells #[.int .i64 r7, .int .i64 n7, .slice A7 l7.length c7] 26 (0, 0))
  replace hC := hC.keep hb2
  replace gG := gG.keep hb2
  replace hB := hB.trans (hb2.mono hB.size)
  have gH := GBox.new r7 n7 o7
  clear hb hb2 o7
  obtain ⟨M7, hM7⟩ : ∃ z, z = w7.alloc (Obj.cells #[.int .i64 r7, .int .i64 n7, .slice A7 l7.length c7] 26 (0, 0)) := ⟨_, rfl⟩
  rw [← hM7] at hB hC gG gH
  have HM7 := Lib.hid hM7
  clear hM7
  clear PB
  go_upto_region 10 with fail
  rw [← HM7.out]
  go_cut [116] from 38 (fun s X => s = .bool false ∧ Below M7.heap.size M7 X)
  case first =>
    cases Gd with
    | true =>
      as_aux_lemma =>
        obtain ⟨rfl, rfl, rfl⟩ := hk7.out.2 rfl
        have hHeld := Below.refl M7.heap.size M7
        obtain ⟨pz1, pz2, pz3⟩ := (gG.keep hHeld).cells
        go_wp2_with fail
        refine (FS.out _ _ (gG.keep hHeld).row).mono ?_
        rintro e q1 ⟨rfl, hb⟩
        clear pz1 pz2 pz3
        replace hHeld := hHeld.trans (hb.mono hHeld.size)
        clear hb
        obtain ⟨pz1, pz2, pz3⟩ := (gG.keep hHeld).cells
        go_wp2_with fail
        refine (IS.out _ _ (gG.keep hHeld).row).mono ?_
        rintro e q2 ⟨rfl, hb⟩
        clear pz1 pz2 pz3
        replace hHeld := hHeld.trans (hb.mono hHeld.size)
        clear hb
        obtain ⟨pz1, pz2, pz3⟩ := (gH.keep hHeld).cells
        obtain ⟨qz1, qz2, qz3⟩ := (gG.keep hHeld).cells
        go_wp2_with fail
        refine (sameG_any _ _ _ _ _ _ (gH.keep hHeld).row (gG.keep hHeld).row (by omega)).mono ?_
        rintro e q3 ⟨rfl, hb⟩
        clear pz1 pz2 pz3 qz1 qz2 qz3
        replace hHeld := hHeld.trans (hb.mono hHeld.size)
        clear hb
        go_wp2_with fail
        go_meet
        case rel => exact ⟨rfl, hHeld⟩
    | false =>
      as_aux_lemma =>
        have hHeld := Below.refl M7.heap.size M7
        obtain ⟨pz1, pz2, pz3⟩ := (gG.keep hHeld).cells
        go_wp2_with fail
        refine (FS.out _ _ (gG.keep hHeld).row).mono ?_
        rintro e q1 ⟨rfl, hb⟩
        clear pz1 pz2 pz3
        replace hHeld := hHeld.trans (hb.mono hHeld.size)
        clear hb
        obtain ⟨pz1, pz2, pz3⟩ := (gG.keep hHeld).cells
        go_wp2_with fail
        refine (IS.out _ _ (gG.keep hHeld).row).mono ?_
        rintro e q2 ⟨rfl, hb⟩
        clear pz1 pz2 pz3
        replace hHeld := hHeld.trans (hb.mono hHeld.size)
        clear hb
        go_wp2_with fail
        go_meet
        case rel => exact ⟨rfl, hHeld⟩
  case rest =>
  obtain ⟨rfl, hb⟩ := hcut
  rename World => w8
  replace hC := hC.keep hb
  replace gG := gG.keep hb
  replace gH := gH.keep hb
  replace hB := hB.trans (hb.mono hB.size)
  clear hb IS FS HM7 hk7 hl9
  clear gH gG
  go_wp2_with fail
  refine (drawParseGraph_any A len cap _ hC hl).mono ?_
  rintro e w9 ⟨s, rfl, hs, hb⟩
  replace hC := hC.keep hb
  replace hB := hB.trans (hb.mono hB.size)
  clear hb
  obtain ⟨R9, hR9⟩ : ∃ z, z = pgR s.data.toList := ⟨_, rfl⟩
  obtain ⟨N9, hN9⟩ : ∃ z, z = pgN s.data.toList := ⟨_, rfl⟩
  obtain ⟨L9, hL9⟩ : ∃ z, z = pgL s.data.toList := ⟨_, rfl⟩
  obtain ⟨K9, hK9⟩ : ∃ z, z = pgOk s.data.toList := ⟨_, rfl⟩
  have pi : ∀ (W : World), Calls Tryz.prog 12 #[.string s] W (RetG2 W R9 N9 L9 (.bool K9)) := fun W => by rw [hR9, hN9, hL9, hK9]; exact parseGraph_any s (by omega) W
  have ps : ∀ (W : World), Calls Tryz.prog 15 #[.string s] W (RetG2 W R9 N9 L9 (.bool K9)) := fun W => by rw [hR9, hN9, hL9, hK9]; exact parseGraphS_any s (by omega) W
  have PI := Lib.hid pi
  have PS := Lib.hid ps
  clear pi ps hR9 hN9 hL9 hK9 hs
  go_wp2_with fail
  refine (PI.out _).mono ?_
  rintro e w10 ⟨v10, rfl, o10, hb⟩
  obtain ⟨A10, c10, rfl⟩ := id o10.edges.form
  have hb2 := hb.alloc hb.size (Obj.cells #[.int .i64 R9, .int .i64 N9, .slice A10 L9.length c10] 26 (0, 0))
  replace hC := hC.keep hb2
  replace hB := hB.trans (hb2.mono hB.size)
  clear hb hb2 o10 PI
  go_wp2_with fail
  refine (PS.out _).mono ?_
  rintro e w11 ⟨v11, rfl, o11, hb⟩
  obtain ⟨A11, c11, rfl⟩ := id o11.edges.form
  have hb2 := hb.alloc hb.size (Obj.cells #[.int .i64 R9, .int .i64 N9, .slice A11 L9.length c11] 26 (0, 0))
  replace hC := hC.keep hb2
  replace hB := hB.trans (hb2.mono hB.size)
  clear hb hb2 o11 PS
  go_wp2_with fail
  refine (drawStepsFrom_any A len cap _ hC hl).mono ?_
  rintro e w12 ⟨r12, n12, v12, l12, x, y, rfl, o12, hq, hx, hy, hb⟩
  obtain ⟨A12, c12, rfl⟩ := id o12.edges.form
  have hl12 : l12.length ≤ 9 := hq.2.2.1
  have hL12 : ∀ e ∈ l12, e.2.1 ≠ -9223372036854775808 := fun e he => by have h9 := hq.2.2.2 e he; unfold SmE at h9; omega
  obtain ⟨st, hst⟩ : ∃ z, z = stepsL l12 x y := ⟨_, rfl⟩
  have si : ∀ (W : World) (u : Value) (h : Edges W u l12), Calls Tryz.prog 17 #[graphV r12 n12 u, .int .i64 x, .int .i64 y] W (RetI W st) := fun W u h => by rw [hst]; exact stepsFrom_any r12 n12 x y u l12 W h (by omega) (by unfold I64; omega) hL12
  have ss : ∀ (W : World) (u : Value) (h : Edges W u l12), Calls Tryz.prog 19 #[graphV r12 n12 u, .int .i64 x, .int .i64 y] W (RetI W st) := fun W u h => by rw [hst]; exact stepsFromS_any r12 n12 x y u l12 W h (by omega) (by unfold I64; omega) hL12
  have sb : ∀ (W : World) (u : Value) (t : Int) (h : Edges W u l12), Calls Tryz.prog 19 #[graphV r12 n12 u, .int .i64 t, .int .i64 (-y)] W (RetI W (stepsL l12 t (-y))) := fun W u t h => stepsFromS_any r12 n12 t (-y) u l12 W h (by omega) (by unfold I64; omega) hL12
  have bk : ∀ t, t ∈ st → (x ∈ stepsL l12 t (-y)) := fun t ht => by rw [hst] at ht; exact steps_back ht
  have sl : st.length ≤ 9 ∧ ∀ t, (stepsL l12 t (-y)).length ≤ 9 := ⟨by rw [hst]; have := stepsL_len l12 x y; omega, fun t => by have := stepsL_len l12 t (-y); omega⟩
  have SI := Lib.hid si
  have SS := Lib.hid ss
  have SB := Lib.hid sb
  have BK := Lib.hid bk
  have SL := Lib.hid sl
  have hs9 := sl.1
  have hwy : IntKind.i64.wrap (-y) = -y := IntWalk.i64_in _ (by omega)
  clear si ss sb bk sl hst hL12 hq
  have hb2 := hb.alloc hb.size (Obj.cells #[.int .i64 r12, .int .i64 n12, .slice A12 l12.length c12] 26 (0, 0))
  replace hC := hC.keep hb2
  replace hB := hB.trans (hb2.mono hB.size)
  have gU := GBox.new r12 n12 o12
  clear hb hb2 o12
  obtain ⟨pz1, pz2, pz3⟩ := gU.cells
  go_wp2_with fail
  refine (SI.out _ _ gU.row).mono ?_
  rintro e w13 ⟨v13, rfl, o13, hb⟩
  clear pz1 pz2 pz3
  replace hC := hC.keep hb
  replace gU := gU.keep hb
  replace hB := hB.trans (hb.mono hB.size)
  have iS := o13.ints
  clear o13 hb SI
  obtain ⟨bS, oS, cS, rfl, hcS, hbS, hcell, hrS⟩ := id iS
  have HS := Lib.hid hcell
  clear hcell hrS
  go_wp2
  go_loopw [21] (fun i wr => ∃ k : Nat, k ≤ st.length ∧ i = .int .i64 k ∧ Below w13.heap.size w13 wr) (fun i _ => st.length - (intOf i).toNat)
  case atStart => exact ⟨0, by omega, rfl, Below.refl _ _⟩
  case round =>
    obtain ⟨k, hk, rfl, hW⟩ := hrel
    by_cases hlt : k < st.length
    case pos =>
      have hkl : (k : Int) < (st.length : Int) := by omega
      obtain ⟨t, ht⟩ : ∃ z, z = st[k] := ⟨_, rfl⟩
      have hmem : (decide (x ∈ stepsL l12 t (-y))) = true := decide_eq_true (BK.out t (by rw [ht]; exact List.getElem_mem hlt))
      have gV := gU.keep hW
      have e0 := HS.out k hlt
      rw [← ht] at e0
      have e1 : wr.cell? ⟨bS, oS + k, none⟩ = some (.int .i64 t) := (World.cell?_of_block (a := ⟨bS, oS + k, none⟩) (hW.block bS hbS)).trans e0
      have E1 := Lib.hid e1
      have E1b := Lib.hid (World.cell?_lt e1)
      have hh : ∀ (W : World) (u : Value) (h : Ints W u (stepsL l12 t (-y))), Calls Tryz.prog 18 #[u, .int .i64 x] W fun e w' => e = .returned (.bool true) ∧ W = w' := fun W u h => by have h9 := hasI_any u _ x W h (by have := SL.out.2 t; omega); rwa [hmem] at h9
      have HH := Lib.hid hh
      clear ht hmem e0 e1 hh
      go_upto_region 20 with fail
      go_cut [155] from 139 to 155 (fun s X => s = .bool false ∧ Below wr.heap.size wr X)
      case first =>
        as_aux_lemma =>
          have hHeld := (Below.refl wr.heap.size wr).drew
          refine wp_region_held2 (n := 11) (listed := (false :: false :: false :: false :: false :: false :: false :: false :: false :: false :: false :: []).toArray) (S := fun X => Below wr.heap.size wr X) (by kernel_rfl) (by kernel_rfl) (by kernel_rfl) hHeld ?_
          refine wpAnyH_take2 (i := 0) (fuel := 10) (v := ?v49) rfl (by kernel_rfl) (by kernel_rfl) (by kernel_rfl) (fun _ _ _ h => h) (Or.inl ⟨by kernel_rfl, ?hy49⟩) hHeld (show _ = (true :: false :: false :: false :: false :: false :: false :: false :: false :: false :: false :: []).toArray by kernel_rfl) ?rest49
          case hy49 => intro X hX; (try dsimp only at hX); obtain ⟨z1, z2, z3⟩ := (gV.keep hX).cells; go_simp <;> with_reducible rfl
          try dsimp only [List.getElem_toArray, List.getElem_cons_succ, List.getElem_cons_zero]
          try simp only [Act.put, List.setIfInBounds_toArray]
          try dsimp only [List.set_cons_zero, List.set_cons_succ]
          refine wpAnyH_take2 (i := 1) (fuel := 9) (v := ?v50) rfl (by kernel_rfl) (by kernel_rfl) (by kernel_rfl) (fun _ _ _ h => h) (Or.inl ⟨by kernel_rfl, ?hy50⟩) hHeld (show _ = (true :: true :: false :: false :: false :: false :: false :: false :: false :: false :: false :: []).toArray by kernel_rfl) ?rest50
          case hy50 => intro X hX; (try dsimp only at hX); go_simp <;> with_reducible rfl
          try dsimp only [List.getElem_toArray, List.getElem_cons_succ, List.getElem_cons_zero]
          try simp only [Act.put, List.setIfInBounds_toArray]
          try dsimp only [List.set_cons_zero, List.set_cons_succ]
          refine wpAnyH_take2 (i := 2) (fuel := 8) (v := ?v51) rfl (by kernel_rfl) (by kernel_rfl) (by kernel_rfl) (fun _ _ _ h => h) (Or.inl ⟨by kernel_rfl, ?hy51⟩) hHeld (show _ = (true :: true :: true :: false :: false :: false :: false :: false :: false :: false :: false :: []).toArray by kernel_rfl) ?rest51
          case hy51 => intro X hX; (try dsimp only at hX); go_simp <;> with_reducible rfl
          try dsimp only [List.getElem_toArray, List.getElem_cons_succ, List.getElem_cons_zero]
          try simp only [Act.put, List.setIfInBounds_toArray]
          try dsimp only [List.set_cons_zero, List.set_cons_succ]
          refine wpAnyH_take2 (i := 3) (fuel := 7) (v := ?v52) rfl (by kernel_rfl) (by kernel_rfl) (by kernel_rfl) (fun _ _ _ h => h) (Or.inl ⟨by kernel_rfl, ?hy52⟩) hHeld (show _ = (true :: true :: true :: true :: false :: false :: false :: false :: false :: false :: false :: []).toArray by kernel_rfl) ?rest52
          case hy52 => intro X hX; (try dsimp only at hX); have e1 := (World.cell?_of_block (a := ⟨bS, oS + k, none⟩) (hX.block bS E1b.out)).trans E1.out; go_simp <;> with_reducible rfl
          try dsimp only [List.getElem_toArray, List.getElem_cons_succ, List.getElem_cons_zero]
          try simp only [Act.put, List.setIfInBounds_toArray]
          try dsimp only [List.set_cons_zero, List.set_cons_succ]
          refine wpAnyH_take2 (i := 4) (fuel := 6) (v := ?v53) rfl (by kernel_rfl) (by kernel_rfl) (by kernel_rfl) (fun _ _ _ h => h) (Or.inl ⟨by kernel_rfl, ?hy53⟩) hHeld (show _ = (true :: true :: true :: true :: true :: false :: false :: false :: false :: false :: false :: []).toArray by kernel_rfl) ?rest53
          case hy53 => intro X hX; (try dsimp only at hX); have e1 := (World.cell?_of_block (a := ⟨bS, oS + k, none⟩) (hX.block bS E1b.out)).trans E1.out; go_simp <;> with_reducible rfl
          try dsimp only [List.getElem_toArray, List.getElem_cons_succ, List.getElem_cons_zero]
          try simp only [Act.put, List.setIfInBounds_toArray]
          try dsimp only [List.set_cons_zero, List.set_cons_succ]
          refine wpAnyH_take2 (i := 5) (fuel := 5) (v := ?v54) rfl (by kernel_rfl) (by kernel_rfl) (by kernel_rfl) (fun _ _ _ h => h) (Or.inl ⟨by kernel_rfl, ?hy54⟩) hHeld (show _ = (true :: true :: true :: true :: true :: true :: false :: false :: false :: false :: false :: []).toArray by kernel_rfl) ?rest54
          case hy54 => intro X hX; (try dsimp only at hX); go_simp <;> with_reducible rfl
          try dsimp only [List.getElem_toArray, List.getElem_cons_succ, List.getElem_cons_zero]
          try simp only [Act.put, List.setIfInBounds_toArray]
          try dsimp only [List.set_cons_zero, List.set_cons_succ]
          refine wpAnyH_take2 (i := 6) (fuel := 4) (v := ?v55) rfl (by kernel_rfl) (by kernel_rfl) (by kernel_rfl) (fun _ _ _ h => h) (Or.inl ⟨by kernel_rfl, ?hy55⟩) hHeld (show _ = (true :: true :: true :: true :: true :: true :: true :: false :: false :: false :: false :: []).toArray by kernel_rfl) ?rest55
          case hy55 => intro X hX; (try dsimp only at hX); go_simp <;> with_reducible rfl
          try dsimp only [List.getElem_toArray, List.getElem_cons_succ, List.getElem_cons_zero]
          try simp only [Act.put, List.setIfInBounds_toArray]
          try dsimp only [List.set_cons_zero, List.set_cons_succ]
          refine wpAnyH_take2 (i := 8) (fuel := 3) (v := ?v56) rfl (by kernel_rfl) (by kernel_rfl) (by kernel_rfl) (fun _ _ _ h => h) (Or.inl ⟨by kernel_rfl, ?hy56⟩) hHeld (show _ = (true :: true :: true :: true :: true :: true :: true :: false :: true :: false :: false :: []).toArray by kernel_rfl) ?rest56
          case hy56 => intro X hX; (try dsimp only at hX); go_simp <;> with_reducible rfl
          try dsimp only [List.getElem_toArray, List.getElem_cons_succ, List.getElem_cons_zero]
          try simp only [Act.put, List.setIfInBounds_toArray]
          try dsimp only [List.set_cons_zero, List.set_cons_succ]
          refine wpAnyH_fn (i := 7) (fuel := 2) (by kernel_rfl) rfl (by kernel_rfl) (by kernel_rfl) (show _ = (true :: true :: true :: true :: true :: true :: true :: true :: true :: false :: false :: []).toArray by kernel_rfl) (SB.out _ _ t (gV.keep hHeld).row) ?_
          rintro e q1 ⟨vq, rfl, oq, hb⟩
          have iq := oq.ints
          clear oq
          refine ⟨_, rfl, hHeld.trans (hb.mono hHeld.size), ?_⟩
          replace hHeld := hHeld.trans (hb.mono hHeld.size)
          clear hb
          try dsimp only [List.getElem_toArray, List.getElem_cons_succ, List.getElem_cons_zero]
          try simp only [Act.put, List.setIfInBounds_toArray]
          try dsimp only [List.set_cons_zero, List.set_cons_succ]
          refine wpAnyH_fn (i := 9) (fuel := 1) (by kernel_rfl) rfl (by kernel_rfl) (by kernel_rfl) (show _ = (true :: true :: true :: true :: true :: true :: true :: true :: true :: true :: false :: []).toArray by kernel_rfl) (HH.out _ _ iq) ?_
          rintro e q2 ⟨rfl, rfl⟩
          have hb := Below.refl q1.heap.size q1
          refine ⟨_, rfl, hHeld.trans (hb.mono hHeld.size), ?_⟩
          replace hHeld := hHeld.trans (hb.mono hHeld.size)
          clear hb
          try dsimp only [List.getElem_toArray, List.getElem_cons_succ, List.getElem_cons_zero]
          try simp only [Act.put, List.setIfInBounds_toArray]
          try dsimp only [List.set_cons_zero, List.set_cons_succ]
          refine wpAnyH_take2 (i := 10) (fuel := 0) (v := ?v57) rfl (by kernel_rfl) (by kernel_rfl) (by kernel_rfl) (fun _ _ _ h => h) (Or.inl ⟨by kernel_rfl, ?hy57⟩) hHeld (show _ = (true :: true :: true :: true :: true :: true :: true :: true :: true :: true :: true :: []).toArray by kernel_rfl) ?rest57
          case hy57 => intro X hX; (try dsimp only at hX); go_simp <;> with_reducible rfl
          try dsimp only [List.getElem_toArray, List.getElem_cons_succ, List.getElem_cons_zero]
          try simp only [Act.put, List.setIfInBounds_toArray]
          try dsimp only [List.set_cons_zero, List.set_cons_succ]
          refine wpAnyH_done (by kernel_rfl) ?_ _
          go_wp2_with fail
          go_meet
          case rel => exact ⟨rfl, hHeld⟩
      case rest =>
      obtain ⟨rfl, hb⟩ := hcut
      go_wp2
      go_round
      case rel => exact ⟨k + 1, by omega, by go_num, hW.trans (hb.mono hW.size)⟩
      case measure => simp [intOf]; omega
    obtain rfl : k = st.length := by omega
    replace hC := hC.keep hW
    replace gU := gU.keep hW
    replace iS := iS.keep hW
    replace hB := hB.trans (hW.mono hB.size)
    clear hW SB BK HS hbS hlt hk hwy
    as_aux_lemma =>
      go_wp2_with fail
      refine (drawAddVertex_any A len cap _ hC hl).mono ?_
      rintro e w14 ⟨r14, n14, v14, l14, rfl, o14, hq, hb⟩
      obtain ⟨A14, c14, rfl⟩ := id o14.edges.form
      have hl14 : l14.length ≤ 9 := hq.2.2.1
      obtain ⟨N15, hN15⟩ : ∃ z, z = addN r14 n14 l14 := ⟨_, rfl⟩
      obtain ⟨K15, hK15⟩ : ∃ z, z = addOk r14 n14 l14 := ⟨_, rfl⟩
      have vi : ∀ (W : World) (u : Value) (h : Edges W u l14) (hk : NilOk u), Calls Tryz.prog 21 #[graphV r14 n14 u] W (RetG2 W r14 N15 l14 (.bool K15)) := fun W u h hk => by rw [hN15, hK15]; exact addVertex_any r14 n14 u l14 W h hk (by omega)
      have vs : ∀ (W : World) (u : Value) (h : Edges W u l14) (hk : NilOk u), Calls Tryz.prog 22 #[graphV r14 n14 u] W (RetG2 W r14 N15 l14 (.bool K15)) := fun W u h hk => by rw [hN15, hK15]; exact addVertexS_any r14 n14 u l14 W h hk (by omega)
      have VI := Lib.hid vi
      have VS := Lib.hid vs
      clear vi vs hN15 hK15 hq
      have hb2 := hb.alloc hb.size (Obj.cells #[.int .i64 r14, .int .i64 n14, .slice A14 l14.length c14] 26 (0, 0))
      replace hC := hC.keep hb2
      replace gU := gU.keep hb2
      replace iS := iS.keep hb2
      replace hB := hB.trans (hb2.mono hB.size)
      have gW := GBox.new r14 n14 o14
      clear hb hb2 o14
      obtain ⟨pz1, pz2, pz3⟩ := gW.cells
      go_wp2_with fail
      refine (VI.out _ _ gW.row gW.nil).mono ?_
      rintro e w15 ⟨v15, rfl, o15, hb⟩
      clear pz1 pz2 pz3
      obtain ⟨A15, c15, rfl⟩ := id o15.edges.form
      have hb2 := hb.alloc hb.size (Obj.cells #[.int .i64 r14, .int .i64 N15, .slice A15 l14.length c15] 26 (0, 0))
      replace hC := hC.keep hb2
      replace gU := gU.keep hb2
      replace iS := iS.keep hb2
      replace gW := gW.keep hb2
      replace hB := hB.trans (hb2.mono hB.size)
      have gZ := GBox.new r14 N15 o15
      clear hb hb2 o15
      obtain ⟨pz1, pz2, pz3⟩ := gW.cells
      go_wp2_with fail
      refine (VS.out _ _ gW.row gW.nil).mono ?_
      rintro e w16 ⟨v16, rfl, o16, hb⟩
      clear pz1 pz2 pz3
      obtain ⟨A16, c16, rfl⟩ := id o16.edges.form
      have hb2 := hb.alloc hb.size (Obj.cells #[.int .i64 r14, .int .i64 N15, .slice A16 l14.length c16] 26 (0, 0))
      replace hC := hC.keep hb2
      replace gU := gU.keep hb2
      replace iS := iS.keep hb2
      replace gW := gW.keep hb2
      replace gZ := gZ.keep hb2
      replace hB := hB.trans (hb2.mono hB.size)
      have gO := GBox.new r14 N15 o16
      clear hb hb2 o16
      clear VI VS
      clear gW
      go_wp2_with fail
      refine (drawDegreeOf_any A len cap _ hC hl).mono ?_
      rintro e w17 ⟨r17, n17, v17, l17, x17, rfl, o17, hq, hx17, hb⟩
      obtain ⟨A17, c17, rfl⟩ := id o17.edges.form
      have hl17 : l17.length ≤ 9 := hq.2.2.1
      clear hq
      have hb2 := hb.alloc hb.size (Obj.cells #[.int .i64 r17, .int .i64 n17, .slice A17 l17.length c17] 26 (0, 0))
      replace hC := hC.keep hb2
      replace gU := gU.keep hb2
      replace iS := iS.keep hb2
      replace gZ := gZ.keep hb2
      replace gO := gO.keep hb2
      replace hB := hB.trans (hb2.mono hB.size)
      have gD := GBox.new r17 n17 o17
      clear hb hb2 o17
      go_wp2_with fail
      refine (drawCompareEdges_any A len cap _ hC hl).mono ?_
      rintro e w18 ⟨a1, a2, a3, b1, b2, b3, rfl, hs1, hs2, hb⟩
      have hb2 := (hb.alloc hb.size (Obj.cells #[.int .i64 a1, .int .i64 a2, .int .i64 a3] 28 (0, 0))).alloc (hb.alloc hb.size (Obj.cells #[.int .i64 a1, .int .i64 a2, .int .i64 a3] 28 (0, 0))).size (Obj.cells #[.int .i64 b1, .int .i64 b2, .int .i64 b3] 28 (0, 0))
      replace hC := hC.keep hb2
      replace gU := gU.keep hb2
      replace iS := iS.keep hb2
      replace gZ := gZ.keep hb2
      replace gO := gO.keep hb2
      replace gD := gD.keep hb2
      replace hB := hB.trans (hb2.mono hB.size)
      have gA := Box.first w18 (Obj.cells #[.int .i64 a1, .int .i64 a2, .int .i64 a3] 28 (0, 0)) (Obj.cells #[.int .i64 b1, .int .i64 b2, .int .i64 b3] 28 (0, 0))
      have gB := Box.two w18 (Obj.cells #[.int .i64 a1, .int .i64 a2, .int .i64 a3] 28 (0, 0)) (Obj.cells #[.int .i64 b1, .int .i64 b2, .int .i64 b3] 28 (0, 0))
      clear hs1 hs2 hb hb2
      go_wp2_with fail
      refine (drawNewGraph_any A len cap _ hC hl).mono ?_
      rintro e w19 ⟨x19, rfl, hx19, hb⟩
      replace hC := hC.keep hb
      replace gU := gU.keep hb
      replace iS := iS.keep hb
      replace gZ := gZ.keep hb
      replace gO := gO.keep hb
      replace gD := gD.keep hb
      replace gA := gA.keep hb
      replace gB := gB.keep hb
      replace hB := hB.trans (hb.mono hB.size)
      obtain ⟨R20, hR20⟩ : ∃ z, z = newR x19 := ⟨_, rfl⟩
      obtain ⟨N20, hN20⟩ : ∃ z, z = newN x19 := ⟨_, rfl⟩
      obtain ⟨K20, hK20⟩ : ∃ z, z = newOk x19 := ⟨_, rfl⟩
      obtain ⟨L20, hL20⟩ : ∃ z : List Ed, z = [] := ⟨_, rfl⟩
      have ni : ∀ (W : World), Calls Tryz.prog 26 #[.int .i64 x19] W (RetG2 W R20 N20 L20 (.bool K20)) := fun W => by rw [hR20, hN20, hK20, hL20]; exact newGraph_any x19 W
      have ns : ∀ (W : World), Calls Tryz.prog 27 #[.int .i64 x19] W (RetG2 W R20 N20 L20 (.bool K20)) := fun W => by rw [hR20, hN20, hK20, hL20]; exact newGraphS_any x19 W
      have hl20 : L20.length ≤ 9 := by rw [hL20]; decide
      have NI := Lib.hid ni
      have NS := Lib.hid ns
      clear ni ns hR20 hN20 hK20 hL20 hb
      go_wp2_with fail
      refine (NI.out _).mono ?_
      rintro e w20 ⟨v20, rfl, o20, hb⟩
      obtain ⟨A20, c20, rfl⟩ := id o20.edges.form
      have hb2 := hb.alloc hb.size (Obj.cells #[.int .i64 R20, .int .i64 N20, .slice A20 L20.length c20] 26 (0, 0))
      replace hC := hC.keep hb2
      replace gU := gU.keep hb2
      replace iS := iS.keep hb2
      replace gZ := gZ.keep hb2
      replace gO := gO.keep hb2
      replace gD := gD.keep hb2
      replace gA := gA.keep hb2
      replace gB := gB.keep hb2
      replace hB := hB.trans (hb2.mono hB.size)
      have gP := GBox.new R20 N20 o20
      clear hb hb2 o20
      go_wp2_with fail
      refine (NS.out _).mono ?_
      rintro e w21 ⟨v21, rfl, o21, hb⟩
      obtain ⟨A21, c21, rfl⟩ := id o21.edges.form
      have hb2 := hb.alloc hb.size (Obj.cells #[.int .i64 R20, .int .i64 N20, .slice A21 L20.length c21] 26 (0, 0))
      replace hC := hC.keep hb2
      replace gU := gU.keep hb2
      replace iS := iS.keep hb2
      replace gZ := gZ.keep hb2
      replace gO := gO.keep hb2
      replace gD := gD.keep hb2
      replace gA := gA.keep hb2
      replace gB := gB.keep hb2
      replace gP := gP.keep hb2
      replace hB := hB.trans (hb2.mono hB.size)
      have gQ := GBox.new R20 N20 o21
      clear hb hb2 o21
      clear NI NS hx19
      go_wp2_with fail
      refine (drawEqualGraphs_any A len cap _ hC hl).mono ?_
      rintro e w22 ⟨r22, n22, v22, l22, r23, n23, v23, l23, rfl, o22, hq22, o23, hq23, hb⟩
      obtain ⟨A22, c22, rfl⟩ := id o22.edges.form
      obtain ⟨A23, c23, rfl⟩ := id o23.edges.form
      have hl22 : l22.length ≤ 9 := hq22.2.2.1
      have hb2 := (hb.alloc hb.size (Obj.cells #[.int .i64 r22, .int .i64 n22, .slice A22 l22.length c22] 26 (0, 0))).alloc (hb.alloc hb.size (Obj.cells #[.int .i64 r22, .int .i64 n22, .slice A22 l22.length c22] 26 (0, 0))).size (Obj.cells #[.int .i64 r23, .int .i64 n23, .slice A23 l23.length c23] 26 (0, 0))
      replace hC := hC.keep hb2
      replace gU := gU.keep hb2
      replace iS := iS.keep hb2
      replace gZ := gZ.keep hb2
      replace gO := gO.keep hb2
      replace gD := gD.keep hb2
      replace gA := gA.keep hb2
      replace gB := gB.keep hb2
      replace gP := gP.keep hb2
      replace gQ := gQ.keep hb2
      replace hB := hB.trans (hb2.mono hB.size)
      have h1 := (Below.refl w22.heap.size w22).alloc (Nat.le_refl _) (Obj.cells #[.int .i64 r22, .int .i64 n22, .slice A22 l22.length c22] 26 (0, 0))
      have h12 := h1.alloc h1.size (Obj.cells #[.int .i64 r23, .int .i64 n23, .slice A23 l23.length c23] 26 (0, 0))
      have gM : GBox ((w22.alloc (Obj.cells #[.int .i64 r22, .int .i64 n22, .slice A22 l22.length c22] 26 (0, 0))).alloc (Obj.cells #[.int .i64 r23, .int .i64 n23, .slice A23 l23.length c23] 26 (0, 0))) w22.heap.size r22 n22 A22 c22 l22 := ⟨Box.first w22 (Obj.cells #[.int .i64 r22, .int .i64 n22, .slice A22 l22.length c22] 26 (0, 0)) (Obj.cells #[.int .i64 r23, .int .i64 n23, .slice A23 l23.length c23] 26 (0, 0)), o22.edges.keep h12, o22.nilOk⟩
      have gN : GBox ((w22.alloc (Obj.cells #[.int .i64 r22, .int .i64 n22, .slice A22 l22.length c22] 26 (0, 0))).alloc (Obj.cells #[.int .i64 r23, .int .i64 n23, .slice A23 l23.length c23] 26 (0, 0))) (w22.heap.size + 1) r23 n23 A23 c23 l23 := ⟨Box.two w22 (Obj.cells #[.int .i64 r22, .int .i64 n22, .slice A22 l22.length c22] 26 (0, 0)) (Obj.cells #[.int .i64 r23, .int .i64 n23, .slice A23 l23.length c23] 26 (0, 0)), o23.edges.keep h12, o23.nilOk⟩
      clear hb hb2 h1 h12 o22 o23 hq22 hq23
      go_wp2
      obtain ⟨M, hM⟩ : ∃ z, z = (w22.alloc (Obj.cells #[.int .i64 r22, .int .i64 n22, .slice A22 l22.length c22] 26 (0, 0))).alloc (Obj.cells #[.int .i64 r23, .int .i64 n23, .slice A23 l23.length c23] 26 (0, 0)) := ⟨_, rfl⟩
      rw [← hM] at hB hC gU iS gZ gO gD gA gB gP gQ gM gN
      have HM := Lib.hid hM
      clear hM
      rw [← HM.out]
      obtain ⟨D, hD⟩ : ∃ z, z = degL x17 l17 := ⟨_, rfl⟩
      obtain ⟨Q, hQ⟩ : ∃ z, z = eqG r22 n22 l22 r23 n23 l23 := ⟨_, rfl⟩
      obtain ⟨K, hKK⟩ : ∃ z, z = cmpE a1 a2 a3 b1 b2 b3 := ⟨_, rfl⟩
      have hK1 : IntKind.i64.wrap K = K := IntWalk.i64_in _ (by have := cmpE_flip a1 a2 a3 b1 b2 b3; omega)
      have hK2 : IntKind.i64.wrap (- -K) = K := by rw [Int.neg_neg]; exact hK1
      have ki : ∀ (W : World), Calls Tryz.prog 32 #[edgeV a1 a2 a3, edgeV b1 b2 b3] W (RetV W (.int .i64 K)) := fun W => by rw [hKK]; exact compareEdges_any a1 a2 a3 b1 b2 b3 W
      have kb : ∀ (W : World), Calls Tryz.prog 32 #[edgeV b1 b2 b3, edgeV a1 a2 a3] W (RetV W (.int .i64 (-K))) := fun W => by rw [show -K = cmpE b1 b2 b3 a1 a2 a3 by rw [hKK]; have := cmpE_flip b1 b2 b3 a1 a2 a3; omega]; exact compareEdges_any b1 b2 b3 a1 a2 a3 W
      have ks : ∀ (W : World), Calls Tryz.prog 33 #[edgeV a1 a2 a3, edgeV b1 b2 b3] W (RetV W (.int .i64 K)) := fun W => by rw [hKK]; exact compareEdgesS_any a1 a2 a3 b1 b2 b3 W
      have di : ∀ (W : World) (u : Value) (h : Edges W u l17), Calls Tryz.prog 30 #[graphV r17 n17 u, .int .i64 x17] W (RetV W (.int .i64 D)) := fun W u h => by rw [hD]; exact degreeOf_any r17 n17 u l17 x17 W h (by omega)
      have ds : ∀ (W : World) (u : Value) (h : Edges W u l17), Calls Tryz.prog 31 #[graphV r17 n17 u, .int .i64 x17] W (RetV W (.int .i64 D)) := fun W u h => by rw [hD]; exact degreeOfS_any r17 n17 u l17 x17 W h (by omega)
      have ei : ∀ (W : World) (u z : Value) (h : Edges W u l22) (h2 : Edges W z l23), Calls Tryz.prog 34 #[graphV r22 n22 u, graphV r23 n23 z] W (RetV W (.bool Q)) := fun W u z h h2 => by rw [hQ]; exact equalGraphs_any r22 n22 r23 n23 u z l22 l23 W h h2 (by omega)
      have es : ∀ (W : World) (u z : Value) (h : Edges W u l22) (h2 : Edges W z l23), Calls Tryz.prog 8 #[graphV r22 n22 u, graphV r23 n23 z] W (RetV W (.bool Q)) := fun W u z h h2 => by rw [hQ]; exact equalGraphsS_any r22 n22 r23 n23 u z l22 l23 W h h2 (by omega)
      have KI := Lib.hid ki
      have KB := Lib.hid kb
      have KS := Lib.hid ks
      have DI := Lib.hid di
      have DS := Lib.hid ds
      have EI := Lib.hid ei
      have ES := Lib.hid es
      clear ki kb ks di ds ei es hD hQ hKK
      simp only [List.append_eq, List.cons_append, List.nil_append]
      as_aux_lemma =>
        have hHeld := (Below.refl M.heap.size M).drew
        refine wp_region_held2 (n := 69) (listed := (false :: false :: false :: false :: false :: false :: false :: false :: false :: false :: false :: false :: false :: false :: false :: false :: false :: false :: false :: false :: false :: false :: false :: false :: false :: false :: false :: false :: false :: false :: false :: false :: false :: false :: false :: false :: false :: false :: false :: false :: false :: false :: false :: false :: false :: false :: false :: false :: false :: false :: false :: false :: false :: false :: false :: false :: false :: false :: false :: false :: false :: false :: false :: false :: false :: false :: false :: false :: false :: []).toArray) (S := fun X => Below M.heap.size M X) (by kernel_rfl) (by kernel_rfl) (by kernel_rfl) hHeld ?_
        refine wpAnyH_take2 (i := 0) (fuel := 68) (v := ?v58) rfl (by kernel_rfl) (by kernel_rfl) (by kernel_rfl) (fun _ _ _ h => h) (Or.inl ⟨by kernel_rfl, ?hy58⟩) hHeld (show _ = (true :: false :: false :: false :: false :: false :: false :: false :: false :: false :: false :: false :: false :: false :: false :: false :: false :: false :: false :: false :: false :: false :: false :: false :: false :: false :: false :: false :: false :: false :: false :: false :: false :: false :: false :: false :: false :: false :: false :: false :: false :: false :: false :: false :: false :: false :: false :: false :: false :: false :: false :: false :: false :: false :: false :: false :: false :: false :: false :: false :: false :: false :: false :: false :: false :: false :: false :: false :: false :: []).toArray by kernel_rfl) ?rest58
        case hy58 => intro X hX; (try dsimp only at hX); go_simp <;> with_reducible rfl
        try dsimp only [List.getElem_toArray, List.getElem_cons_succ, List.getElem_cons_zero]
        try simp only [Act.put, List.setIfInBounds_toArray]
        try dsimp only [List.set_cons_zero, List.set_cons_succ]
        refine wpAnyH_take2 (i := 1) (fuel := 67) (v := ?v59) rfl (by kernel_rfl) (by kernel_rfl) (by kernel_rfl) (fun _ _ _ h => h) (Or.inl ⟨by kernel_rfl, ?hy59⟩) hHeld (show _ = (true :: true :: false :: false :: false :: false :: false :: false :: false :: false :: false :: false :: false :: false :: false :: false :: false :: false :: false :: false :: false :: false :: false :: false :: false :: false :: false :: false :: false :: false :: false :: false :: false :: false :: false :: false :: false :: false :: false :: false :: false :: false :: false :: false :: false :: false :: false :: false :: false :: false :: false :: false :: false :: false :: false :: false :: false :: false :: false :: false :: false :: false :: false :: false :: false :: false :: false :: false :: false :: []).toArray by kernel_rfl) ?rest59
        case hy59 => intro X hX; (try dsimp only at hX); go_simp <;> with_reducible rfl
        try dsimp only [List.getElem_toArray, List.getElem_cons_succ, List.getElem_cons_zero]
        try simp only [Act.put, List.setIfInBounds_toArray]
        try dsimp only [List.set_cons_zero, List.set_cons_succ]
        refine wpAnyH_take2 (i := 2) (fuel := 66) (v := ?v60) rfl (by kernel_rfl) (by kernel_rfl) (by kernel_rfl) (fun _ _ _ h => h) (Or.inl ⟨by kernel_rfl, ?hy60⟩) hHeld (show _ = (true :: true :: true :: false :: false :: false :: false :: false :: false :: false :: false :: false :: false :: false :: false :: false :: false :: false :: false :: false :: false :: false :: false :: false :: false :: false :: false :: false :: false :: false :: false :: false :: false :: false :: false :: false :: false :: false :: false :: false :: false :: false :: false :: false :: false :: false :: false :: false :: false :: false :: false :: false :: false :: false :: false :: false :: false :: false :: false :: false :: false :: false :: false :: false :: false :: false :: false :: false :: false :: []).toArray by kernel_rfl) ?rest60
        case hy60 => intro X hX; (try dsimp only at hX); go_simp <;> with_reducible rfl
        try dsimp only [List.getElem_toArray, List.getElem_cons_succ, List.getElem_cons_zero]
        try simp only [Act.put, List.setIfInBounds_toArray]
        try dsimp only [List.set_cons_zero, List.set_cons_succ]
        refine wpAnyH_take2 (i := 3) (fuel := 65) (v := ?v61) rfl (by kernel_rfl) (by kernel_rfl) (by kernel_rfl) (fun _ _ _ h => h) (Or.inl ⟨by kernel_rfl, ?hy61⟩) hHeld (show _ = (true :: true :: true :: true :: false :: false :: false :: false :: false :: false :: false :: false :: false :: false :: false :: false :: false :: false :: false :: false :: false :: false :: false :: false :: false :: false :: false :: false :: false :: false :: false :: false :: false :: false :: false :: false :: false :: false :: false :: false :: false :: false :: false :: false :: false :: false :: false :: false :: false :: false :: false :: false :: false :: false :: false :: false :: false :: false :: false :: false :: false :: false :: false :: false :: false :: false :: false :: false :: false :: []).toArray by kernel_rfl) ?rest61
        case hy61 => intro X hX; (try dsimp only at hX); go_simp <;> with_reducible rfl
        try dsimp only [List.getElem_toArray, List.getElem_cons_succ, List.getElem_cons_zero]
        try simp only [Act.put, List.setIfInBounds_toArray]
        try dsimp only [List.set_cons_zero, List.set_cons_succ]
        refine wpAnyH_take2 (i := 4) (fuel := 64) (v := ?v62) rfl (by kernel_rfl) (by kernel_rfl) (by kernel_rfl) (fun _ _ _ h => h) (Or.inl ⟨by kernel_rfl, ?hy62⟩) hHeld (show _ = (true :: true :: true :: true :: true :: false :: false :: false :: false :: false :: false :: false :: false :: false :: false :: false :: false :: false :: false :: false :: false :: false :: false :: false :: false :: false :: false :: false :: false :: false :: false :: false :: false :: false :: false :: false :: false :: false :: false :: false :: false :: false :: false :: false :: false :: false :: false :: false :: false :: false :: false :: false :: false :: false :: false :: false :: false :: false :: false :: false :: false :: false :: false :: false :: false :: false :: false :: false :: false :: []).toArray by kernel_rfl) ?rest62
        case hy62 => intro X hX; (try dsimp only at hX); go_simp <;> with_reducible rfl
        try dsimp only [List.getElem_toArray, List.getElem_cons_succ, List.getElem_cons_zero]
        try simp only [Act.put, List.setIfInBounds_toArray]
        try dsimp only [List.set_cons_zero, List.set_cons_succ]
        refine wpAnyH_take2 (i := 5) (fuel := 63) (v := ?v63) rfl (by kernel_rfl) (by kernel_rfl) (by kernel_rfl) (fun _ _ _ h => h) (Or.inl ⟨by kernel_rfl, ?hy63⟩) hHeld (show _ = (true :: true :: true :: true :: true :: true :: false :: false :: false :: false :: false :: false :: false :: false :: false :: false :: false :: false :: false :: false :: false :: false :: false :: false :: false :: false :: false :: false :: false :: false :: false :: false :: false :: false :: false :: false :: false :: false :: false :: false :: false :: false :: false :: false :: false :: false :: false :: false :: false :: false :: false :: false :: false :: false :: false :: false :: false :: false :: false :: false :: false :: false :: false :: false :: false :: false :: false :: false :: false :: []).toArray by kernel_rfl) ?rest63
        case hy63 => intro X hX; (try dsimp only at hX); obtain ⟨z1, z2, z3⟩ := (gU.keep hX).cells; go_simp <;> with_reducible rfl
        try dsimp only [List.getElem_toArray, List.getElem_cons_succ, List.getElem_cons_zero]
        try simp only [Act.put, List.setIfInBounds_toArray]
        try dsimp only [List.set_cons_zero, List.set_cons_succ]
        refine wpAnyH_take2 (i := 6) (fuel := 62) (v := ?v64) rfl (by kernel_rfl) (by kernel_rfl) (by kernel_rfl) (fun _ _ _ h => h) (Or.inl ⟨by kernel_rfl, ?hy64⟩) hHeld (show _ = (true :: true :: true :: true :: true :: true :: true :: false :: false :: false :: false :: false :: false :: false :: false :: false :: false :: false :: false :: false :: false :: false :: false :: false :: false :: false :: false :: false :: false :: false :: false :: false :: false :: false :: false :: false :: false :: false :: false :: false :: false :: false :: false :: false :: false :: false :: false :: false :: false :: false :: false :: false :: false :: false :: false :: false :: false :: false :: false :: false :: false :: false :: false :: false :: false :: false :: false :: false :: false :: []).toArray by kernel_rfl) ?rest64
        case hy64 => intro X hX; (try dsimp only at hX); go_simp <;> with_reducible rfl
        try dsimp only [List.getElem_toArray, List.getElem_cons_succ, List.getElem_cons_zero]
        try simp only [Act.put, List.setIfInBounds_toArray]
        try dsimp only [List.set_cons_zero, List.set_cons_succ]
        refine wpAnyH_take2 (i := 7) (fuel := 61) (v := ?v65) rfl (by kernel_rfl) (by kernel_rfl) (by kernel_rfl) (fun _ _ _ h => h) (Or.inl ⟨by kernel_rfl, ?hy65⟩) hHeld (show _ = (true :: true :: true :: true :: true :: true :: true :: true :: false :: false :: false :: false :: false :: false :: false :: false :: false :: false :: false :: false :: false :: false :: false :: false :: false :: false :: false :: false :: false :: false :: false :: false :: false :: false :: false :: false :: false :: false :: false :: false :: false :: false :: false :: false :: false :: false :: false :: false :: false :: false :: false :: false :: false :: false :: false :: false :: false :: false :: false :: false :: false :: false :: false :: false :: false :: false :: false :: false :: false :: []).toArray by kernel_rfl) ?rest65
        case hy65 => intro X hX; (try dsimp only at hX); go_simp <;> with_reducible rfl
        try dsimp only [List.getElem_toArray, List.getElem_cons_succ, List.getElem_cons_zero]
        try simp only [Act.put, List.setIfInBounds_toArray]
        try dsimp only [List.set_cons_zero, List.set_cons_succ]
        refine wpAnyH_fn (i := 8) (fuel := 60) (by kernel_rfl) rfl (by kernel_rfl) (by kernel_rfl) (show _ = (true :: true :: true :: true :: true :: true :: true :: true :: true :: false :: false :: false :: false :: false :: false :: false :: false :: false :: false :: false :: false :: false :: false :: false :: false :: false :: false :: false :: false :: false :: false :: false :: false :: false :: false :: false :: false :: false :: false :: false :: false :: false :: false :: false :: false :: false :: false :: false :: false :: false :: false :: false :: false :: false :: false :: false :: false :: false :: false :: false :: false :: false :: false :: false :: false :: false :: false :: false :: false :: []).toArray by kernel_rfl) (SS.out _ _ (gU.keep hHeld).row) ?_
        rintro e q1 ⟨vq, rfl, oq, hb⟩
        have iq := oq.ints
        clear oq
        refine ⟨_, rfl, hHeld.trans (hb.mono hHeld.size), ?_⟩
        replace hHeld := hHeld.trans (hb.mono hHeld.size)
        clear hb
        try dsimp only [List.getElem_toArray, List.getElem_cons_succ, List.getElem_cons_zero]
        try simp only [Act.put, List.setIfInBounds_toArray]
        try dsimp only [List.set_cons_zero, List.set_cons_succ]
        refine wpAnyH_fn (i := 9) (fuel := 59) (by kernel_rfl) rfl (by kernel_rfl) (by kernel_rfl) (show _ = (true :: true :: true :: true :: true :: true :: true :: true :: true :: true :: false :: false :: false :: false :: false :: false :: false :: false :: false :: false :: false :: false :: false :: false :: false :: false :: false :: false :: false :: false :: false :: false :: false :: false :: false :: false :: false :: false :: false :: false :: false :: false :: false :: false :: false :: false :: false :: false :: false :: false :: false :: false :: false :: false :: false :: false :: false :: false :: false :: false :: false :: false :: false :: false :: false :: false :: false :: false :: false :: []).toArray by kernel_rfl) (sameInts_eq _ _ st st _ (iS.keep hHeld) iq (by omega) rfl) ?_
        rintro e q2 ⟨rfl, hb⟩
        clear iq
        refine ⟨_, rfl, hHeld.trans (hb.mono hHeld.size), ?_⟩
        replace hHeld := hHeld.trans (hb.mono hHeld.size)
        clear hb
        try dsimp only [List.getElem_toArray, List.getElem_cons_succ, List.getElem_cons_zero]
        try simp only [Act.put, List.setIfInBounds_toArray]
        try dsimp only [List.set_cons_zero, List.set_cons_succ]
        refine wpAnyH_take2 (i := 10) (fuel := 58) (v := ?v66) rfl (by kernel_rfl) (by kernel_rfl) (by kernel_rfl) (fun _ _ _ h => h) (Or.inl ⟨by kernel_rfl, ?hy66⟩) hHeld (show _ = (true :: true :: true :: true :: true :: true :: true :: true :: true :: true :: true :: false :: false :: false :: false :: false :: false :: false :: false :: false :: false :: false :: false :: false :: false :: false :: false :: false :: false :: false :: false :: false :: false :: false :: false :: false :: false :: false :: false :: false :: false :: false :: false :: false :: false :: false :: false :: false :: false :: false :: false :: false :: false :: false :: false :: false :: false :: false :: false :: false :: false :: false :: false :: false :: false :: false :: false :: false :: false :: []).toArray by kernel_rfl) ?rest66
        case hy66 => intro X hX; (try dsimp only at hX); go_simp <;> with_reducible rfl
        try dsimp only [List.getElem_toArray, List.getElem_cons_succ, List.getElem_cons_zero]
        try simp only [Act.put, List.setIfInBounds_toArray]
        try dsimp only [List.set_cons_zero, List.set_cons_succ]
        refine wpAnyH_take2 (i := 11) (fuel := 57) (v := ?v67) rfl (by kernel_rfl) (by kernel_rfl) (by kernel_rfl) (fun _ _ _ h => h) (Or.inl ⟨by kernel_rfl, ?hy67⟩) hHeld (show _ = (true :: true :: true :: true :: true :: true :: true :: true :: true :: true :: true :: true :: false :: false :: false :: false :: false :: false :: false :: false :: false :: false :: false :: false :: false :: false :: false :: false :: false :: false :: false :: false :: false :: false :: false :: false :: false :: false :: false :: false :: false :: false :: false :: false :: false :: false :: false :: false :: false :: false :: false :: false :: false :: false :: false :: false :: false :: false :: false :: false :: false :: false :: false :: false :: false :: false :: false :: false :: false :: []).toArray by kernel_rfl) ?rest67
        case hy67 => intro X hX; (try dsimp only at hX); go_simp <;> with_reducible rfl
        try dsimp only [List.getElem_toArray, List.getElem_cons_succ, List.getElem_cons_zero]
        try simp only [Act.put, List.setIfInBounds_toArray]
        try dsimp only [List.set_cons_zero, List.set_cons_succ]
        refine wpAnyH_take2 (i := 12) (fuel := 56) (v := ?v68) rfl (by kernel_rfl) (by kernel_rfl) (by kernel_rfl) (fun _ _ _ h => h) (Or.inl ⟨by kernel_rfl, ?hy68⟩) hHeld (show _ = (true :: true :: true :: true :: true :: true :: true :: true :: true :: true :: true :: true :: true :: false :: false :: false :: false :: false :: false :: false :: false :: false :: false :: false :: false :: false :: false :: false :: false :: false :: false :: false :: false :: false :: false :: false :: false :: false :: false :: false :: false :: false :: false :: false :: false :: false :: false :: false :: false :: false :: false :: false :: false :: false :: false :: false :: false :: false :: false :: false :: false :: false :: false :: false :: false :: false :: false :: false :: false :: []).toArray by kernel_rfl) ?rest68
        case hy68 => intro X hX; (try dsimp only at hX); go_simp <;> with_reducible rfl
        try dsimp only [List.getElem_toArray, List.getElem_cons_succ, List.getElem_cons_zero]
        try simp only [Act.put, List.setIfInBounds_toArray]
        try dsimp only [List.set_cons_zero, List.set_cons_succ]
        refine wpAnyH_take2 (i := 13) (fuel := 55) (v := ?v69) rfl (by kernel_rfl) (by kernel_rfl) (by kernel_rfl) (fun _ _ _ h => h) (Or.inl ⟨by kernel_rfl, ?hy69⟩) hHeld (show _ = (true :: true :: true :: true :: true :: true :: true :: true :: true :: true :: true :: true :: true :: true :: false :: false :: false :: false :: false :: false :: false :: false :: false :: false :: false :: false :: false :: false :: false :: false :: false :: false :: false :: false :: false :: false :: false :: false :: false :: false :: false :: false :: false :: false :: false :: false :: false :: false :: false :: false :: false :: false :: false :: false :: false :: false :: false :: false :: false :: false :: false :: false :: false :: false :: false :: false :: false :: false :: false :: []).toArray by kernel_rfl) ?rest69
        case hy69 => intro X hX; (try dsimp only at hX); go_simp <;> with_reducible rfl
        try dsimp only [List.getElem_toArray, List.getElem_cons_succ, List.getElem_cons_zero]
        try simp only [Act.put, List.setIfInBounds_toArray]
        try dsimp only [List.set_cons_zero, List.set_cons_succ]
        refine wpAnyH_take2 (i := 14) (fuel := 54) (v := ?v70) rfl (by kernel_rfl) (by kernel_rfl) (by kernel_rfl) (fun _ _ _ h => h) (Or.inl ⟨by kernel_rfl, ?hy70⟩) hHeld (show _ = (true :: true :: true :: true :: true :: true :: true :: true :: true :: true :: true :: true :: true :: true :: true :: false :: false :: false :: false :: false :: false :: false :: false :: false :: false :: false :: false :: false :: false :: false :: false :: false :: false :: false :: false :: false :: false :: false :: false :: false :: false :: false :: false :: false :: false :: false :: false :: false :: false :: false :: false :: false :: false :: false :: false :: false :: false :: false :: false :: false :: false :: false :: false :: false :: false :: false :: false :: false :: false :: []).toArray by kernel_rfl) ?rest70
        case hy70 => intro X hX; (try dsimp only at hX); go_simp <;> with_reducible rfl
        try dsimp only [List.getElem_toArray, List.getElem_cons_succ, List.getElem_cons_zero]
        try simp only [Act.put, List.setIfInBounds_toArray]
        try dsimp only [List.set_cons_zero, List.set_cons_succ]
        refine wpAnyH_take2 (i := 15) (fuel := 53) (v := ?v71) rfl (by kernel_rfl) (by kernel_rfl) (by kernel_rfl) (fun _ _ _ h => h) (Or.inl ⟨by kernel_rfl, ?hy71⟩) hHeld (show _ = (true :: true :: true :: true :: true :: true :: true :: true :: true :: true :: true :: true :: true :: true :: true :: true :: false :: false :: false :: false :: false :: false :: false :: false :: false :: false :: false :: false :: false :: false :: false :: false :: false :: false :: false :: false :: false :: false :: false :: false :: false :: false :: false :: false :: false :: false :: false :: false :: false :: false :: false :: false :: false :: false :: false :: false :: false :: false :: false :: false :: false :: false :: false :: false :: false :: false :: false :: false :: false :: []).toArray by kernel_rfl) ?rest71
        case hy71 => intro X hX; (try dsimp only at hX); go_simp <;> with_reducible rfl
        try dsimp only [List.getElem_toArray, List.getElem_cons_succ, List.getElem_cons_zero]
        try simp only [Act.put, List.setIfInBounds_toArray]
        try dsimp only [List.set_cons_zero, List.set_cons_succ]
        refine wpAnyH_take2 (i := 16) (fuel := 52) (v := ?v72) rfl (by kernel_rfl) (by kernel_rfl) (by kernel_rfl) (fun _ _ _ h => h) (Or.inl ⟨by kernel_rfl, ?hy72⟩) hHeld (show _ = (true :: true :: true :: true :: true :: true :: true :: true :: true :: true :: true :: true :: true :: true :: true :: true :: true :: false :: false :: false :: false :: false :: false :: false :: false :: false :: false :: false :: false :: false :: false :: false :: false :: false :: false :: false :: false :: false :: false :: false :: false :: false :: false :: false :: false :: false :: false :: false :: false :: false :: false :: false :: false :: false :: false :: false :: false :: false :: false :: false :: false :: false :: false :: false :: false :: false :: false :: false :: false :: []).toArray by kernel_rfl) ?rest72
        case hy72 => intro X hX; (try dsimp only at hX); go_simp <;> with_reducible rfl
        try dsimp only [List.getElem_toArray, List.getElem_cons_succ, List.getElem_cons_zero]
        try simp only [Act.put, List.setIfInBounds_toArray]
        try dsimp only [List.set_cons_zero, List.set_cons_succ]
        refine wpAnyH_take2 (i := 17) (fuel := 51) (v := ?v73) rfl (by kernel_rfl) (by kernel_rfl) (by kernel_rfl) (fun _ _ _ h => h) (Or.inl ⟨by kernel_rfl, ?hy73⟩) hHeld (show _ = (true :: true :: true :: true :: true :: true :: true :: true :: true :: true :: true :: true :: true :: true :: true :: true :: true :: true :: false :: false :: false :: false :: false :: false :: false :: false :: false :: false :: false :: false :: false :: false :: false :: false :: false :: false :: false :: false :: false :: false :: false :: false :: false :: false :: false :: false :: false :: false :: false :: false :: false :: false :: false :: false :: false :: false :: false :: false :: false :: false :: false :: false :: false :: false :: false :: false :: false :: false :: false :: []).toArray by kernel_rfl) ?rest73
        case hy73 => intro X hX; (try dsimp only at hX); obtain ⟨z1, z2, z3⟩ := (gZ.keep hX).cells; go_simp <;> with_reducible rfl
        try dsimp only [List.getElem_toArray, List.getElem_cons_succ, List.getElem_cons_zero]
        try simp only [Act.put, List.setIfInBounds_toArray]
        try dsimp only [List.set_cons_zero, List.set_cons_succ]
        refine wpAnyH_take2 (i := 18) (fuel := 50) (v := ?v74) rfl (by kernel_rfl) (by kernel_rfl) (by kernel_rfl) (fun _ _ _ h => h) (Or.inl ⟨by kernel_rfl, ?hy74⟩) hHeld (show _ = (true :: true :: true :: true :: true :: true :: true :: true :: true :: true :: true :: true :: true :: true :: true :: true :: true :: true :: true :: false :: false :: false :: false :: false :: false :: false :: false :: false :: false :: false :: false :: false :: false :: false :: false :: false :: false :: false :: false :: false :: false :: false :: false :: false :: false :: false :: false :: false :: false :: false :: false :: false :: false :: false :: false :: false :: false :: false :: false :: false :: false :: false :: false :: false :: false :: false :: false :: false :: false :: []).toArray by kernel_rfl) ?rest74
        case hy74 => intro X hX; (try dsimp only at hX); obtain ⟨z1, z2, z3⟩ := (gO.keep hX).cells; go_simp <;> with_reducible rfl
        try dsimp only [List.getElem_toArray, List.getElem_cons_succ, List.getElem_cons_zero]
        try simp only [Act.put, List.setIfInBounds_toArray]
        try dsimp only [List.set_cons_zero, List.set_cons_succ]
        refine wpAnyH_fn (i := 19) (fuel := 49) (by kernel_rfl) rfl (by kernel_rfl) (by kernel_rfl) (show _ = (true :: true :: true :: true :: true :: true :: true :: true :: true :: true :: true :: true :: true :: true :: true :: true :: true :: true :: true :: true :: false :: false :: false :: false :: false :: false :: false :: false :: false :: false :: false :: false :: false :: false :: false :: false :: false :: false :: false :: false :: false :: false :: false :: false :: false :: false :: false :: false :: false :: false :: false :: false :: false :: false :: false :: false :: false :: false :: false :: false :: false :: false :: false :: false :: false :: false :: false :: false :: false :: []).toArray by kernel_rfl) (sameG_any r14 N15 _ _ l14 _ (gZ.keep hHeld).row (gO.keep hHeld).row (by omega)) ?_
        rintro e q3 ⟨rfl, hb⟩
        refine ⟨_, rfl, hHeld.trans (hb.mono hHeld.size), ?_⟩
        replace hHeld := hHeld.trans (hb.mono hHeld.size)
        clear hb
        try dsimp only [List.getElem_toArray, List.getElem_cons_succ, List.getElem_cons_zero]
        try simp only [Act.put, List.setIfInBounds_toArray]
        try dsimp only [List.set_cons_zero, List.set_cons_succ]
        refine wpAnyH_take2 (i := 20) (fuel := 48) (v := ?v75) rfl (by kernel_rfl) (by kernel_rfl) (by kernel_rfl) (fun _ _ _ h => h) (Or.inl ⟨by kernel_rfl, ?hy75⟩) hHeld (show _ = (true :: true :: true :: true :: true :: true :: true :: true :: true :: true :: true :: true :: true :: true :: true :: true :: true :: true :: true :: true :: true :: false :: false :: false :: false :: false :: false :: false :: false :: false :: false :: false :: false :: false :: false :: false :: false :: false :: false :: false :: false :: false :: false :: false :: false :: false :: false :: false :: false :: false :: false :: false :: false :: false :: false :: false :: false :: false :: false :: false :: false :: false :: false :: false :: false :: false :: false :: false :: false :: []).toArray by kernel_rfl) ?rest75
        case hy75 => intro X hX; (try dsimp only at hX); go_simp <;> with_reducible rfl
        try dsimp only [List.getElem_toArray, List.getElem_cons_succ, List.getElem_cons_zero]
        try simp only [Act.put, List.setIfInBounds_toArray]
        try dsimp only [List.set_cons_zero, List.set_cons_succ]
        refine wpAnyH_take2 (i := 21) (fuel := 47) (v := ?v76) rfl (by kernel_rfl) (by kernel_rfl) (by kernel_rfl) (fun _ _ _ h => h) (Or.inl ⟨by kernel_rfl, ?hy76⟩) hHeld (show _ = (true :: true :: true :: true :: true :: true :: true :: true :: true :: true :: true :: true :: true :: true :: true :: true :: true :: true :: true :: true :: true :: true :: false :: false :: false :: false :: false :: false :: false :: false :: false :: false :: false :: false :: false :: false :: false :: false :: false :: false :: false :: false :: false :: false :: false :: false :: false :: false :: false :: false :: false :: false :: false :: false :: false :: false :: false :: false :: false :: false :: false :: false :: false :: false :: false :: false :: false :: false :: false :: []).toArray by kernel_rfl) ?rest76
        case hy76 => intro X hX; (try dsimp only at hX); go_simp <;> with_reducible rfl
        try dsimp only [List.getElem_toArray, List.getElem_cons_succ, List.getElem_cons_zero]
        try simp only [Act.put, List.setIfInBounds_toArray]
        try dsimp only [List.set_cons_zero, List.set_cons_succ]
        refine wpAnyH_take2 (i := 22) (fuel := 46) (v := ?v77) rfl (by kernel_rfl) (by kernel_rfl) (by kernel_rfl) (fun _ _ _ h => h) (Or.inl ⟨by kernel_rfl, ?hy77⟩) hHeld (show _ = (true :: true :: true :: true :: true :: true :: true :: true :: true :: true :: true :: true :: true :: true :: true :: true :: true :: true :: true :: true :: true :: true :: true :: false :: false :: false :: false :: false :: false :: false :: false :: false :: false :: false :: false :: false :: false :: false :: false :: false :: false :: false :: false :: false :: false :: false :: false :: false :: false :: false :: false :: false :: false :: false :: false :: false :: false :: false :: false :: false :: false :: false :: false :: false :: false :: false :: false :: false :: false :: []).toArray by kernel_rfl) ?rest77
        case hy77 => intro X hX; (try dsimp only at hX); obtain ⟨z1, z2, z3⟩ := (gD.keep hX).cells; go_simp <;> with_reducible rfl
        try dsimp only [List.getElem_toArray, List.getElem_cons_succ, List.getElem_cons_zero]
        try simp only [Act.put, List.setIfInBounds_toArray]
        try dsimp only [List.set_cons_zero, List.set_cons_succ]
        refine wpAnyH_take2 (i := 23) (fuel := 45) (v := ?v78) rfl (by kernel_rfl) (by kernel_rfl) (by kernel_rfl) (fun _ _ _ h => h) (Or.inl ⟨by kernel_rfl, ?hy78⟩) hHeld (show _ = (true :: true :: true :: true :: true :: true :: true :: true :: true :: true :: true :: true :: true :: true :: true :: true :: true :: true :: true :: true :: true :: true :: true :: true :: false :: false :: false :: false :: false :: false :: false :: false :: false :: false :: false :: false :: false :: false :: false :: false :: false :: false :: false :: false :: false :: false :: false :: false :: false :: false :: false :: false :: false :: false :: false :: false :: false :: false :: false :: false :: false :: false :: false :: false :: false :: false :: false :: false :: false :: []).toArray by kernel_rfl) ?rest78
        case hy78 => intro X hX; (try dsimp only at hX); go_simp <;> with_reducible rfl
        try dsimp only [List.getElem_toArray, List.getElem_cons_succ, List.getElem_cons_zero]
        try simp only [Act.put, List.setIfInBounds_toArray]
        try dsimp only [List.set_cons_zero, List.set_cons_succ]
        refine wpAnyH_take2 (i := 25) (fuel := 44) (v := ?v79) rfl (by kernel_rfl) (by kernel_rfl) (by kernel_rfl) (fun _ _ _ h => h) (Or.inl ⟨by kernel_rfl, ?hy79⟩) hHeld (show _ = (true :: true :: true :: true :: true :: true :: true :: true :: true :: true :: true :: true :: true :: true :: true :: true :: true :: true :: true :: true :: true :: true :: true :: true :: false :: true :: false :: false :: false :: false :: false :: false :: false :: false :: false :: false :: false :: false :: false :: false :: false :: false :: false :: false :: false :: false :: false :: false :: false :: false :: false :: false :: false :: false :: false :: false :: false :: false :: false :: false :: false :: false :: false :: false :: false :: false :: false :: false :: false :: []).toArray by kernel_rfl) ?rest79
        case hy79 => intro X hX; (try dsimp only at hX); obtain ⟨z1, z2, z3⟩ := (gD.keep hX).cells; go_simp <;> with_reducible rfl
        try dsimp only [List.getElem_toArray, List.getElem_cons_succ, List.getElem_cons_zero]
        try simp only [Act.put, List.setIfInBounds_toArray]
        try dsimp only [List.set_cons_zero, List.set_cons_succ]
        refine wpAnyH_take2 (i := 26) (fuel := 43) (v := ?v80) rfl (by kernel_rfl) (by kernel_rfl) (by kernel_rfl) (fun _ _ _ h => h) (Or.inl ⟨by kernel_rfl, ?hy80⟩) hHeld (show _ = (true :: true :: true :: true :: true :: true :: true :: true :: true :: true :: true :: true :: true :: true :: true :: true :: true :: true :: true :: true :: true :: true :: true :: true :: false :: true :: true :: false :: false :: false :: false :: false :: false :: false :: false :: false :: false :: false :: false :: false :: false :: false :: false :: false :: false :: false :: false :: false :: false :: false :: false :: false :: false :: false :: false :: false :: false :: false :: false :: false :: false :: false :: false :: false :: false :: false :: false :: false :: false :: []).toArray by kernel_rfl) ?rest80
        case hy80 => intro X hX; (try dsimp only at hX); go_simp <;> with_reducible rfl
        try dsimp only [List.getElem_toArray, List.getElem_cons_succ, List.getElem_cons_zero]
        try simp only [Act.put, List.setIfInBounds_toArray]
        try dsimp only [List.set_cons_zero, List.set_cons_succ]
        refine wpAnyH_fn (i := 24) (fuel := 42) (by kernel_rfl) rfl (by kernel_rfl) (by kernel_rfl) (show _ = (true :: true :: true :: true :: true :: true :: true :: true :: true :: true :: true :: true :: true :: true :: true :: true :: true :: true :: true :: true :: true :: true :: true :: true :: true :: true :: true :: false :: false :: false :: false :: false :: false :: false :: false :: false :: false :: false :: false :: false :: false :: false :: false :: false :: false :: false :: false :: false :: false :: false :: false :: false :: false :: false :: false :: false :: false :: false :: false :: false :: false :: false :: false :: false :: false :: false :: false :: false :: false :: []).toArray by kernel_rfl) (DI.out _ _ (gD.keep hHeld).row) ?_
        rintro e q4 ⟨rfl, hb⟩
        refine ⟨_, rfl, hHeld.trans (hb.mono hHeld.size), ?_⟩
        replace hHeld := hHeld.trans (hb.mono hHeld.size)
        clear hb
        try dsimp only [List.getElem_toArray, List.getElem_cons_succ, List.getElem_cons_zero]
        try simp only [Act.put, List.setIfInBounds_toArray]
        try dsimp only [List.set_cons_zero, List.set_cons_succ]
        refine wpAnyH_fn (i := 27) (fuel := 41) (by kernel_rfl) rfl (by kernel_rfl) (by kernel_rfl) (show _ = (true :: true :: true :: true :: true :: true :: true :: true :: true :: true :: true :: true :: true :: true :: true :: true :: true :: true :: true :: true :: true :: true :: true :: true :: true :: true :: true :: true :: false :: false :: false :: false :: false :: false :: false :: false :: false :: false :: false :: false :: false :: false :: false :: false :: false :: false :: false :: false :: false :: false :: false :: false :: false :: false :: false :: false :: false :: false :: false :: false :: false :: false :: false :: false :: false :: false :: false :: false :: false :: []).toArray by kernel_rfl) (DS.out _ _ (gD.keep hHeld).row) ?_
        rintro e q5 ⟨rfl, hb⟩
        refine ⟨_, rfl, hHeld.trans (hb.mono hHeld.size), ?_⟩
        replace hHeld := hHeld.trans (hb.mono hHeld.size)
        clear hb
        try dsimp only [List.getElem_toArray, List.getElem_cons_succ, List.getElem_cons_zero]
        try simp only [Act.put, List.setIfInBounds_toArray]
        try dsimp only [List.set_cons_zero, List.set_cons_succ]
        refine wpAnyH_take2 (i := 28) (fuel := 40) (v := ?v81) rfl (by kernel_rfl) (by kernel_rfl) (by kernel_rfl) (fun _ _ _ h => h) (Or.inl ⟨by kernel_rfl, ?hy81⟩) hHeld (show _ = (true :: true :: true :: true :: true :: true :: true :: true :: true :: true :: true :: true :: true :: true :: true :: true :: true :: true :: true :: true :: true :: true :: true :: true :: true :: true :: true :: true :: true :: false :: false :: false :: false :: false :: false :: false :: false :: false :: false :: false :: false :: false :: false :: false :: false :: false :: false :: false :: false :: false :: false :: false :: false :: false :: false :: false :: false :: false :: false :: false :: false :: false :: false :: false :: false :: false :: false :: false :: false :: []).toArray by kernel_rfl) ?rest81
        case hy81 => intro X hX; (try dsimp only at hX); go_simp <;> with_reducible rfl
        try dsimp only [List.getElem_toArray, List.getElem_cons_succ, List.getElem_cons_zero]
        try simp only [Act.put, List.setIfInBounds_toArray]
        try dsimp only [List.set_cons_zero, List.set_cons_succ]
        refine wpAnyH_take2 (i := 29) (fuel := 39) (v := ?v82) rfl (by kernel_rfl) (by kernel_rfl) (by kernel_rfl) (fun _ _ _ h => h) (Or.inl ⟨by kernel_rfl, ?hy82⟩) hHeld (show _ = (true :: true :: true :: true :: true :: true :: true :: true :: true :: true :: true :: true :: true :: true :: true :: true :: true :: true :: true :: true :: true :: true :: true :: true :: true :: true :: true :: true :: true :: true :: false :: false :: false :: false :: false :: false :: false :: false :: false :: false :: false :: false :: false :: false :: false :: false :: false :: false :: false :: false :: false :: false :: false :: false :: false :: false :: false :: false :: false :: false :: false :: false :: false :: false :: false :: false :: false :: false :: false :: []).toArray by kernel_rfl) ?rest82
        case hy82 => intro X hX; (try dsimp only at hX); go_simp <;> with_reducible rfl
        try dsimp only [List.getElem_toArray, List.getElem_cons_succ, List.getElem_cons_zero]
        try simp only [Act.put, List.setIfInBounds_toArray]
        try dsimp only [List.set_cons_zero, List.set_cons_succ]
        refine wpAnyH_take2 (i := 30) (fuel := 38) (v := ?v83) rfl (by kernel_rfl) (by kernel_rfl) (by kernel_rfl) (fun _ _ _ h => h) (Or.inl ⟨by kernel_rfl, ?hy83⟩) hHeld (show _ = (true :: true :: true :: true :: true :: true :: true :: true :: true :: true :: true :: true :: true :: true :: true :: true :: true :: true :: true :: true :: true :: true :: true :: true :: true :: true :: true :: true :: true :: true :: true :: false :: false :: false :: false :: false :: false :: false :: false :: false :: false :: false :: false :: false :: false :: false :: false :: false :: false :: false :: false :: false :: false :: false :: false :: false :: false :: false :: false :: false :: false :: false :: false :: false :: false :: false :: false :: false :: false :: []).toArray by kernel_rfl) ?rest83
        case hy83 => intro X hX; (try dsimp only at hX); go_simp <;> with_reducible rfl
        try dsimp only [List.getElem_toArray, List.getElem_cons_succ, List.getElem_cons_zero]
        try simp only [Act.put, List.setIfInBounds_toArray]
        try dsimp only [List.set_cons_zero, List.set_cons_succ]
        refine wpAnyH_take2 (i := 31) (fuel := 37) (v := ?v84) rfl (by kernel_rfl) (by kernel_rfl) (by kernel_rfl) (fun _ _ _ h => h) (Or.inl ⟨by kernel_rfl, ?hy84⟩) hHeld (show _ = (true :: true :: true :: true :: true :: true :: true :: true :: true :: true :: true :: true :: true :: true :: true :: true :: true :: true :: true :: true :: true :: true :: true :: true :: true :: true :: true :: true :: true :: true :: true :: true :: false :: false :: false :: false :: false :: false :: false :: false :: false :: false :: false :: false :: false :: false :: false :: false :: false :: false :: false :: false :: false :: false :: false :: false :: false :: false :: false :: false :: false :: false :: false :: false :: false :: false :: false :: false :: false :: []).toArray by kernel_rfl) ?rest84
        case hy84 => intro X hX; (try dsimp only at hX); obtain ⟨z1, z2, z3⟩ := (gA.keep hX).cells; go_simp <;> with_reducible rfl
        try dsimp only [List.getElem_toArray, List.getElem_cons_succ, List.getElem_cons_zero]
        try simp only [Act.put, List.setIfInBounds_toArray]
        try dsimp only [List.set_cons_zero, List.set_cons_succ]
        refine wpAnyH_take2 (i := 32) (fuel := 36) (v := ?v85) rfl (by kernel_rfl) (by kernel_rfl) (by kernel_rfl) (fun _ _ _ h => h) (Or.inl ⟨by kernel_rfl, ?hy85⟩) hHeld (show _ = (true :: true :: true :: true :: true :: true :: true :: true :: true :: true :: true :: true :: true :: true :: true :: true :: true :: true :: true :: true :: true :: true :: true :: true :: true :: true :: true :: true :: true :: true :: true :: true :: true :: false :: false :: false :: false :: false :: false :: false :: false :: false :: false :: false :: false :: false :: false :: false :: false :: false :: false :: false :: false :: false :: false :: false :: false :: false :: false :: false :: false :: false :: false :: false :: false :: false :: false :: false :: false :: []).toArray by kernel_rfl) ?rest85
        case hy85 => intro X hX; (try dsimp only at hX); obtain ⟨z1, z2, z3⟩ := (gB.keep hX).cells; go_simp <;> with_reducible rfl
        try dsimp only [List.getElem_toArray, List.getElem_cons_succ, List.getElem_cons_zero]
        try simp only [Act.put, List.setIfInBounds_toArray]
        try dsimp only [List.set_cons_zero, List.set_cons_succ]
        refine wpAnyH_take2 (i := 34) (fuel := 35) (v := ?v86) rfl (by kernel_rfl) (by kernel_rfl) (by kernel_rfl) (fun _ _ _ h => h) (Or.inl ⟨by kernel_rfl, ?hy86⟩) hHeld (show _ = (true :: true :: true :: true :: true :: true :: true :: true :: true :: true :: true :: true :: true :: true :: true :: true :: true :: true :: true :: true :: true :: true :: true :: true :: true :: true :: true :: true :: true :: true :: true :: true :: true :: false :: true :: false :: false :: false :: false :: false :: false :: false :: false :: false :: false :: false :: false :: false :: false :: false :: false :: false :: false :: false :: false :: false :: false :: false :: false :: false :: false :: false :: false :: false :: false :: false :: false :: false :: false :: []).toArray by kernel_rfl) ?rest86
        case hy86 => intro X hX; (try dsimp only at hX); obtain ⟨z1, z2, z3⟩ := (gA.keep hX).cells; go_simp <;> with_reducible rfl
        try dsimp only [List.getElem_toArray, List.getElem_cons_succ, List.getElem_cons_zero]
        try simp only [Act.put, List.setIfInBounds_toArray]
        try dsimp only [List.set_cons_zero, List.set_cons_succ]
        refine wpAnyH_take2 (i := 35) (fuel := 34) (v := ?v87) rfl (by kernel_rfl) (by kernel_rfl) (by kernel_rfl) (fun _ _ _ h => h) (Or.inl ⟨by kernel_rfl, ?hy87⟩) hHeld (show _ = (true :: true :: true :: true :: true :: true :: true :: true :: true :: true :: true :: true :: true :: true :: true :: true :: true :: true :: true :: true :: true :: true :: true :: true :: true :: true :: true :: true :: true :: true :: true :: true :: true :: false :: true :: true :: false :: false :: false :: false :: false :: false :: false :: false :: false :: false :: false :: false :: false :: false :: false :: false :: false :: false :: false :: false :: false :: false :: false :: false :: false :: false :: false :: false :: false :: false :: false :: false :: false :: []).toArray by kernel_rfl) ?rest87
        case hy87 => intro X hX; (try dsimp only at hX); obtain ⟨z1, z2, z3⟩ := (gB.keep hX).cells; go_simp <;> with_reducible rfl
        try dsimp only [List.getElem_toArray, List.getElem_cons_succ, List.getElem_cons_zero]
        try simp only [Act.put, List.setIfInBounds_toArray]
        try dsimp only [List.set_cons_zero, List.set_cons_succ]
        refine wpAnyH_fn (i := 33) (fuel := 33) (by kernel_rfl) rfl (by kernel_rfl) (by kernel_rfl) (show _ = (true :: true :: true :: true :: true :: true :: true :: true :: true :: true :: true :: true :: true :: true :: true :: true :: true :: true :: true :: true :: true :: true :: true :: true :: true :: true :: true :: true :: true :: true :: true :: true :: true :: true :: true :: true :: false :: false :: false :: false :: false :: false :: false :: false :: false :: false :: false :: false :: false :: false :: false :: false :: false :: false :: false :: false :: false :: false :: false :: false :: false :: false :: false :: false :: false :: false :: false :: false :: false :: []).toArray by kernel_rfl) (KI.out _) ?_
        rintro e q6 ⟨rfl, hb⟩
        refine ⟨_, rfl, hHeld.trans (hb.mono hHeld.size), ?_⟩
        replace hHeld := hHeld.trans (hb.mono hHeld.size)
        clear hb
        try dsimp only [List.getElem_toArray, List.getElem_cons_succ, List.getElem_cons_zero]
        try simp only [Act.put, List.setIfInBounds_toArray]
        try dsimp only [List.set_cons_zero, List.set_cons_succ]
        refine wpAnyH_fn (i := 36) (fuel := 32) (by kernel_rfl) rfl (by kernel_rfl) (by kernel_rfl) (show _ = (true :: true :: true :: true :: true :: true :: true :: true :: true :: true :: true :: true :: true :: true :: true :: true :: true :: true :: true :: true :: true :: true :: true :: true :: true :: true :: true :: true :: true :: true :: true :: true :: true :: true :: true :: true :: true :: false :: false :: false :: false :: false :: false :: false :: false :: false :: false :: false :: false :: false :: false :: false :: false :: false :: false :: false :: false :: false :: false :: false :: false :: false :: false :: false :: false :: false :: false :: false :: false :: []).toArray by kernel_rfl) (KS.out _) ?_
        rintro e q7 ⟨rfl, hb⟩
        refine ⟨_, rfl, hHeld.trans (hb.mono hHeld.size), ?_⟩
        replace hHeld := hHeld.trans (hb.mono hHeld.size)
        clear hb
        try dsimp only [List.getElem_toArray, List.getElem_cons_succ, List.getElem_cons_zero]
        try simp only [Act.put, List.setIfInBounds_toArray]
        try dsimp only [List.set_cons_zero, List.set_cons_succ]
        refine wpAnyH_take2 (i := 37) (fuel := 31) (v := ?v88) rfl (by kernel_rfl) (by kernel_rfl) (by kernel_rfl) (fun _ _ _ h => h) (Or.inl ⟨by kernel_rfl, ?hy88⟩) hHeld (show _ = (true :: true :: true :: true :: true :: true :: true :: true :: true :: true :: true :: true :: true :: true :: true :: true :: true :: true :: true :: true :: true :: true :: true :: true :: true :: true :: true :: true :: true :: true :: true :: true :: true :: true :: true :: true :: true :: true :: false :: false :: false :: false :: false :: false :: false :: false :: false :: false :: false :: false :: false :: false :: false :: false :: false :: false :: false :: false :: false :: false :: false :: false :: false :: false :: false :: false :: false :: false :: false :: []).toArray by kernel_rfl) ?rest88
        case hy88 => intro X hX; (try dsimp only at hX); go_simp <;> with_reducible rfl
        try dsimp only [List.getElem_toArray, List.getElem_cons_succ, List.getElem_cons_zero]
        try simp only [Act.put, List.setIfInBounds_toArray]
        try dsimp only [List.set_cons_zero, List.set_cons_succ]
        refine wpAnyH_take2 (i := 38) (fuel := 30) (v := ?v89) rfl (by kernel_rfl) (by kernel_rfl) (by kernel_rfl) (fun _ _ _ h => h) (Or.inl ⟨by kernel_rfl, ?hy89⟩) hHeld (show _ = (true :: true :: true :: true :: true :: true :: true :: true :: true :: true :: true :: true :: true :: true :: true :: true :: true :: true :: true :: true :: true :: true :: true :: true :: true :: true :: true :: true :: true :: true :: true :: true :: true :: true :: true :: true :: true :: true :: true :: false :: false :: false :: false :: false :: false :: false :: false :: false :: false :: false :: false :: false :: false :: false :: false :: false :: false :: false :: false :: false :: false :: false :: false :: false :: false :: false :: false :: false :: false :: []).toArray by kernel_rfl) ?rest89
        case hy89 => intro X hX; (try dsimp only at hX); go_simp <;> with_reducible rfl
        try dsimp only [List.getElem_toArray, List.getElem_cons_succ, List.getElem_cons_zero]
        try simp only [Act.put, List.setIfInBounds_toArray]
        try dsimp only [List.set_cons_zero, List.set_cons_succ]
        refine wpAnyH_take2 (i := 39) (fuel := 29) (v := ?v90) rfl (by kernel_rfl) (by kernel_rfl) (by kernel_rfl) (fun _ _ _ h => h) (Or.inl ⟨by kernel_rfl, ?hy90⟩) hHeld (show _ = (true :: true :: true :: true :: true :: true :: true :: true :: true :: true :: true :: true :: true :: true :: true :: true :: true :: true :: true :: true :: true :: true :: true :: true :: true :: true :: true :: true :: true :: true :: true :: true :: true :: true :: true :: true :: true :: true :: true :: true :: false :: false :: false :: false :: false :: false :: false :: false :: false :: false :: false :: false :: false :: false :: false :: false :: false :: false :: false :: false :: false :: false :: false :: false :: false :: false :: false :: false :: false :: []).toArray by kernel_rfl) ?rest90
        case hy90 => intro X hX; (try dsimp only at hX); go_simp <;> with_reducible rfl
        try dsimp only [List.getElem_toArray, List.getElem_cons_succ, List.getElem_cons_zero]
        try simp only [Act.put, List.setIfInBounds_toArray]
        try dsimp only [List.set_cons_zero, List.set_cons_succ]
        refine wpAnyH_take2 (i := 40) (fuel := 28) (v := ?v91) rfl (by kernel_rfl) (by kernel_rfl) (by kernel_rfl) (fun _ _ _ h => h) (Or.inl ⟨by kernel_rfl, ?hy91⟩) hHeld (show _ = (true :: true :: true :: true :: true :: true :: true :: true :: true :: true :: true :: true :: true :: true :: true :: true :: true :: true :: true :: true :: true :: true :: true :: true :: true :: true :: true :: true :: true :: true :: true :: true :: true :: true :: true :: true :: true :: true :: true :: true :: true :: false :: false :: false :: false :: false :: false :: false :: false :: false :: false :: false :: false :: false :: false :: false :: false :: false :: false :: false :: false :: false :: false :: false :: false :: false :: false :: false :: false :: []).toArray by kernel_rfl) ?rest91
        case hy91 => intro X hX; (try dsimp only at hX); obtain ⟨z1, z2, z3⟩ := (gA.keep hX).cells; go_simp <;> with_reducible rfl
        try dsimp only [List.getElem_toArray, List.getElem_cons_succ, List.getElem_cons_zero]
        try simp only [Act.put, List.setIfInBounds_toArray]
        try dsimp only [List.set_cons_zero, List.set_cons_succ]
        refine wpAnyH_take2 (i := 41) (fuel := 27) (v := ?v92) rfl (by kernel_rfl) (by kernel_rfl) (by kernel_rfl) (fun _ _ _ h => h) (Or.inl ⟨by kernel_rfl, ?hy92⟩) hHeld (show _ = (true :: true :: true :: true :: true :: true :: true :: true :: true :: true :: true :: true :: true :: true :: true :: true :: true :: true :: true :: true :: true :: true :: true :: true :: true :: true :: true :: true :: true :: true :: true :: true :: true :: true :: true :: true :: true :: true :: true :: true :: true :: true :: false :: false :: false :: false :: false :: false :: false :: false :: false :: false :: false :: false :: false :: false :: false :: false :: false :: false :: false :: false :: false :: false :: false :: false :: false :: false :: false :: []).toArray by kernel_rfl) ?rest92
        case hy92 => intro X hX; (try dsimp only at hX); obtain ⟨z1, z2, z3⟩ := (gB.keep hX).cells; go_simp <;> with_reducible rfl
        try dsimp only [List.getElem_toArray, List.getElem_cons_succ, List.getElem_cons_zero]
        try simp only [Act.put, List.setIfInBounds_toArray]
        try dsimp only [List.set_cons_zero, List.set_cons_succ]
        refine wpAnyH_take2 (i := 43) (fuel := 26) (v := ?v93) rfl (by kernel_rfl) (by kernel_rfl) (by kernel_rfl) (fun _ _ _ h => h) (Or.inl ⟨by kernel_rfl, ?hy93⟩) hHeld (show _ = (true :: true :: true :: true :: true :: true :: true :: true :: true :: true :: true :: true :: true :: true :: true :: true :: true :: true :: true :: true :: true :: true :: true :: true :: true :: true :: true :: true :: true :: true :: true :: true :: true :: true :: true :: true :: true :: true :: true :: true :: true :: true :: false :: true :: false :: false :: false :: false :: false :: false :: false :: false :: false :: false :: false :: false :: false :: false :: false :: false :: false :: false :: false :: false :: false :: false :: false :: false :: false :: []).toArray by kernel_rfl) ?rest93
        case hy93 => intro X hX; (try dsimp only at hX); obtain ⟨z1, z2, z3⟩ := (gB.keep hX).cells; go_simp <;> with_reducible rfl
        try dsimp only [List.getElem_toArray, List.getElem_cons_succ, List.getElem_cons_zero]
        try simp only [Act.put, List.setIfInBounds_toArray]
        try dsimp only [List.set_cons_zero, List.set_cons_succ]
        refine wpAnyH_take2 (i := 44) (fuel := 25) (v := ?v94) rfl (by kernel_rfl) (by kernel_rfl) (by kernel_rfl) (fun _ _ _ h => h) (Or.inl ⟨by kernel_rfl, ?hy94⟩) hHeld (show _ = (true :: true :: true :: true :: true :: true :: true :: true :: true :: true :: true :: true :: true :: true :: true :: true :: true :: true :: true :: true :: true :: true :: true :: true :: true :: true :: true :: true :: true :: true :: true :: true :: true :: true :: true :: true :: true :: true :: true :: true :: true :: true :: false :: true :: true :: false :: false :: false :: false :: false :: false :: false :: false :: false :: false :: false :: false :: false :: false :: false :: false :: false :: false :: false :: false :: false :: false :: false :: false :: []).toArray by kernel_rfl) ?rest94
        case hy94 => intro X hX; (try dsimp only at hX); obtain ⟨z1, z2, z3⟩ := (gA.keep hX).cells; go_simp <;> with_reducible rfl
        try dsimp only [List.getElem_toArray, List.getElem_cons_succ, List.getElem_cons_zero]
        try simp only [Act.put, List.setIfInBounds_toArray]
        try dsimp only [List.set_cons_zero, List.set_cons_succ]
        refine wpAnyH_fn (i := 42) (fuel := 24) (by kernel_rfl) rfl (by kernel_rfl) (by kernel_rfl) (show _ = (true :: true :: true :: true :: true :: true :: true :: true :: true :: true :: true :: true :: true :: true :: true :: true :: true :: true :: true :: true :: true :: true :: true :: true :: true :: true :: true :: true :: true :: true :: true :: true :: true :: true :: true :: true :: true :: true :: true :: true :: true :: true :: true :: true :: true :: false :: false :: false :: false :: false :: false :: false :: false :: false :: false :: false :: false :: false :: false :: false :: false :: false :: false :: false :: false :: false :: false :: false :: false :: []).toArray by kernel_rfl) (KI.out _) ?_
        rintro e q8 ⟨rfl, hb⟩
        refine ⟨_, rfl, hHeld.trans (hb.mono hHeld.size), ?_⟩
        replace hHeld := hHeld.trans (hb.mono hHeld.size)
        clear hb
        try dsimp only [List.getElem_toArray, List.getElem_cons_succ, List.getElem_cons_zero]
        try simp only [Act.put, List.setIfInBounds_toArray]
        try dsimp only [List.set_cons_zero, List.set_cons_succ]
        refine wpAnyH_fn (i := 45) (fuel := 23) (by kernel_rfl) rfl (by kernel_rfl) (by kernel_rfl) (show _ = (true :: true :: true :: true :: true :: true :: true :: true :: true :: true :: true :: true :: true :: true :: true :: true :: true :: true :: true :: true :: true :: true :: true :: true :: true :: true :: true :: true :: true :: true :: true :: true :: true :: true :: true :: true :: true :: true :: true :: true :: true :: true :: true :: true :: true :: true :: false :: false :: false :: false :: false :: false :: false :: false :: false :: false :: false :: false :: false :: false :: false :: false :: false :: false :: false :: false :: false :: false :: false :: []).toArray by kernel_rfl) (KB.out _) ?_
        rintro e q9 ⟨rfl, hb⟩
        refine ⟨_, rfl, hHeld.trans (hb.mono hHeld.size), ?_⟩
        replace hHeld := hHeld.trans (hb.mono hHeld.size)
        clear hb
        try dsimp only [List.getElem_toArray, List.getElem_cons_succ, List.getElem_cons_zero]
        try simp only [Act.put, List.setIfInBounds_toArray]
        try dsimp only [List.set_cons_zero, List.set_cons_succ]
        refine wpAnyH_take2 (i := 46) (fuel := 22) (v := ?v95) rfl (by kernel_rfl) (by kernel_rfl) (by kernel_rfl) (fun _ _ _ h => h) (Or.inl ⟨by kernel_rfl, ?hy95⟩) hHeld (show _ = (true :: true :: true :: true :: true :: true :: true :: true :: true :: true :: true :: true :: true :: true :: true :: true :: true :: true :: true :: true :: true :: true :: true :: true :: true :: true :: true :: true :: true :: true :: true :: true :: true :: true :: true :: true :: true :: true :: true :: true :: true :: true :: true :: true :: true :: true :: true :: false :: false :: false :: false :: false :: false :: false :: false :: false :: false :: false :: false :: false :: false :: false :: false :: false :: false :: false :: false :: false :: false :: []).toArray by kernel_rfl) ?rest95
        case hy95 => intro X hX; (try dsimp only at hX); go_simp <;> with_reducible rfl
        try dsimp only [List.getElem_toArray, List.getElem_cons_succ, List.getElem_cons_zero]
        try simp only [Act.put, List.setIfInBounds_toArray]
        try dsimp only [List.set_cons_zero, List.set_cons_succ]
        refine wpAnyH_take2 (i := 47) (fuel := 21) (v := ?v96) rfl (by kernel_rfl) (by kernel_rfl) (by kernel_rfl) (fun _ _ _ h => h) (Or.inl ⟨by kernel_rfl, ?hy96⟩) hHeld (show _ = (true :: true :: true :: true :: true :: true :: true :: true :: true :: true :: true :: true :: true :: true :: true :: true :: true :: true :: true :: true :: true :: true :: true :: true :: true :: true :: true :: true :: true :: true :: true :: true :: true :: true :: true :: true :: true :: true :: true :: true :: true :: true :: true :: true :: true :: true :: true :: true :: false :: false :: false :: false :: false :: false :: false :: false :: false :: false :: false :: false :: false :: false :: false :: false :: false :: false :: false :: false :: false :: []).toArray by kernel_rfl) ?rest96
        case hy96 => intro X hX; (try dsimp only at hX); go_simp <;> with_reducible rfl
        try dsimp only [List.getElem_toArray, List.getElem_cons_succ, List.getElem_cons_zero]
        try simp only [Act.put, List.setIfInBounds_toArray]
        try dsimp only [List.set_cons_zero, List.set_cons_succ]
        refine wpAnyH_take2 (i := 48) (fuel := 20) (v := ?v97) rfl (by kernel_rfl) (by kernel_rfl) (by kernel_rfl) (fun _ _ _ h => h) (Or.inl ⟨by kernel_rfl, ?hy97⟩) hHeld (show _ = (true :: true :: true :: true :: true :: true :: true :: true :: true :: true :: true :: true :: true :: true :: true :: true :: true :: true :: true :: true :: true :: true :: true :: true :: true :: true :: true :: true :: true :: true :: true :: true :: true :: true :: true :: true :: true :: true :: true :: true :: true :: true :: true :: true :: true :: true :: true :: true :: true :: false :: false :: false :: false :: false :: false :: false :: false :: false :: false :: false :: false :: false :: false :: false :: false :: false :: false :: false :: false :: []).toArray by kernel_rfl) ?rest97
        case hy97 => intro X hX; (try dsimp only at hX); go_simp <;> with_reducible rfl
        try dsimp only [List.getElem_toArray, List.getElem_cons_succ, List.getElem_cons_zero]
        try simp only [Act.put, List.setIfInBounds_toArray]
        try dsimp only [List.set_cons_zero, List.set_cons_succ]
        refine wpAnyH_take2 (i := 49) (fuel := 19) (v := ?v98) rfl (by kernel_rfl) (by kernel_rfl) (by kernel_rfl) (fun _ _ _ h => h) (Or.inl ⟨by kernel_rfl, ?hy98⟩) hHeld (show _ = (true :: true :: true :: true :: true :: true :: true :: true :: true :: true :: true :: true :: true :: true :: true :: true :: true :: true :: true :: true :: true :: true :: true :: true :: true :: true :: true :: true :: true :: true :: true :: true :: true :: true :: true :: true :: true :: true :: true :: true :: true :: true :: true :: true :: true :: true :: true :: true :: true :: true :: false :: false :: false :: false :: false :: false :: false :: false :: false :: false :: false :: false :: false :: false :: false :: false :: false :: false :: false :: []).toArray by kernel_rfl) ?rest98
        case hy98 => intro X hX; (try dsimp only at hX); go_simp <;> with_reducible rfl
        try dsimp only [List.getElem_toArray, List.getElem_cons_succ, List.getElem_cons_zero]
        try simp only [Act.put, List.setIfInBounds_toArray]
        try dsimp only [List.set_cons_zero, List.set_cons_succ]
        refine wpAnyH_take2 (i := 50) (fuel := 18) (v := ?v99) rfl (by kernel_rfl) (by kernel_rfl) (by kernel_rfl) (fun _ _ _ h => h) (Or.inl ⟨by kernel_rfl, ?hy99⟩) hHeld (show _ = (true :: true :: true :: true :: true :: true :: true :: true :: true :: true :: true :: true :: true :: true :: true :: true :: true :: true :: true :: true :: true :: true :: true :: true :: true :: true :: true :: true :: true :: true :: true :: true :: true :: true :: true :: true :: true :: true :: true :: true :: true :: true :: true :: true :: true :: true :: true :: true :: true :: true :: true :: false :: false :: false :: false :: false :: false :: false :: false :: false :: false :: false :: false :: false :: false :: false :: false :: false :: false :: []).toArray by kernel_rfl) ?rest99
        case hy99 => intro X hX; (try dsimp only at hX); go_simp <;> with_reducible rfl
        try dsimp only [List.getElem_toArray, List.getElem_cons_succ, List.getElem_cons_zero]
        try simp only [Act.put, List.setIfInBounds_toArray]
        try dsimp only [List.set_cons_zero, List.set_cons_succ]
        refine wpAnyH_take2 (i := 51) (fuel := 17) (v := ?v100) rfl (by kernel_rfl) (by kernel_rfl) (by kernel_rfl) (fun _ _ _ h => h) (Or.inl ⟨by kernel_rfl, ?hy100⟩) hHeld (show _ = (true :: true :: true :: true :: true :: true :: true :: true :: true :: true :: true :: true :: true :: true :: true :: true :: true :: true :: true :: true :: true :: true :: true :: true :: true :: true :: true :: true :: true :: true :: true :: true :: true :: true :: true :: true :: true :: true :: true :: true :: true :: true :: true :: true :: true :: true :: true :: true :: true :: true :: true :: true :: false :: false :: false :: false :: false :: false :: false :: false :: false :: false :: false :: false :: false :: false :: false :: false :: false :: []).toArray by kernel_rfl) ?rest100
        case hy100 => intro X hX; (try dsimp only at hX); go_simp <;> with_reducible rfl
        try dsimp only [List.getElem_toArray, List.getElem_cons_succ, List.getElem_cons_zero]
        try simp only [Act.put, List.setIfInBounds_toArray]
        try dsimp only [List.set_cons_zero, List.set_cons_succ]
        refine wpAnyH_take2 (i := 52) (fuel := 16) (v := ?v101) rfl (by kernel_rfl) (by kernel_rfl) (by kernel_rfl) (fun _ _ _ h => h) (Or.inl ⟨by kernel_rfl, ?hy101⟩) hHeld (show _ = (true :: true :: true :: true :: true :: true :: true :: true :: true :: true :: true :: true :: true :: true :: true :: true :: true :: true :: true :: true :: true :: true :: true :: true :: true :: true :: true :: true :: true :: true :: true :: true :: true :: true :: true :: true :: true :: true :: true :: true :: true :: true :: true :: true :: true :: true :: true :: true :: true :: true :: true :: true :: true :: false :: false :: false :: false :: false :: false :: false :: false :: false :: false :: false :: false :: false :: false :: false :: false :: []).toArray by kernel_rfl) ?rest101
        case hy101 => intro X hX; (try dsimp only at hX); go_simp <;> with_reducible rfl
        try dsimp only [List.getElem_toArray, List.getElem_cons_succ, List.getElem_cons_zero]
        try simp only [Act.put, List.setIfInBounds_toArray]
        try dsimp only [List.set_cons_zero, List.set_cons_succ]
        refine wpAnyH_take2 (i := 53) (fuel := 15) (v := ?v102) rfl (by kernel_rfl) (by kernel_rfl) (by kernel_rfl) (fun _ _ _ h => h) (Or.inl ⟨by kernel_rfl, ?hy102⟩) hHeld (show _ = (true :: true :: true :: true :: true :: true :: true :: true :: true :: true :: true :: true :: true :: true :: true :: true :: true :: true :: true :: true :: true :: true :: true :: true :: true :: true :: true :: true :: true :: true :: true :: true :: true :: true :: true :: true :: true :: true :: true :: true :: true :: true :: true :: true :: true :: true :: true :: true :: true :: true :: true :: true :: true :: true :: false :: false :: false :: false :: false :: false :: false :: false :: false :: false :: false :: false :: false :: false :: false :: []).toArray by kernel_rfl) ?rest102
        case hy102 => intro X hX; (try dsimp only at hX); go_simp <;> with_reducible rfl
        try dsimp only [List.getElem_toArray, List.getElem_cons_succ, List.getElem_cons_zero]
        try simp only [Act.put, List.setIfInBounds_toArray]
        try dsimp only [List.set_cons_zero, List.set_cons_succ]
        refine wpAnyH_take2 (i := 54) (fuel := 14) (v := ?v103) rfl (by kernel_rfl) (by kernel_rfl) (by kernel_rfl) (fun _ _ _ h => h) (Or.inl ⟨by kernel_rfl, ?hy103⟩) hHeld (show _ = (true :: true :: true :: true :: true :: true :: true :: true :: true :: true :: true :: true :: true :: true :: true :: true :: true :: true :: true :: true :: true :: true :: true :: true :: true :: true :: true :: true :: true :: true :: true :: true :: true :: true :: true :: true :: true :: true :: true :: true :: true :: true :: true :: true :: true :: true :: true :: true :: true :: true :: true :: true :: true :: true :: true :: false :: false :: false :: false :: false :: false :: false :: false :: false :: false :: false :: false :: false :: false :: []).toArray by kernel_rfl) ?rest103
        case hy103 => intro X hX; (try dsimp only at hX); go_simp <;> with_reducible rfl
        try dsimp only [List.getElem_toArray, List.getElem_cons_succ, List.getElem_cons_zero]
        try simp only [Act.put, List.setIfInBounds_toArray]
        try dsimp only [List.set_cons_zero, List.set_cons_succ]
        refine wpAnyH_take2 (i := 55) (fuel := 13) (v := ?v104) rfl (by kernel_rfl) (by kernel_rfl) (by kernel_rfl) (fun _ _ _ h => h) (Or.inl ⟨by kernel_rfl, ?hy104⟩) hHeld (show _ = (true :: true :: true :: true :: true :: true :: true :: true :: true :: true :: true :: true :: true :: true :: true :: true :: true :: true :: true :: true :: true :: true :: true :: true :: true :: true :: true :: true :: true :: true :: true :: true :: true :: true :: true :: true :: true :: true :: true :: true :: true :: true :: true :: true :: true :: true :: true :: true :: true :: true :: true :: true :: true :: true :: true :: true :: false :: false :: false :: false :: false :: false :: false :: false :: false :: false :: false :: false :: false :: []).toArray by kernel_rfl) ?rest104
        case hy104 => intro X hX; (try dsimp only at hX); obtain ⟨z1, z2, z3⟩ := (gP.keep hX).cells; go_simp <;> with_reducible rfl
        try dsimp only [List.getElem_toArray, List.getElem_cons_succ, List.getElem_cons_zero]
        try simp only [Act.put, List.setIfInBounds_toArray]
        try dsimp only [List.set_cons_zero, List.set_cons_succ]
        refine wpAnyH_take2 (i := 56) (fuel := 12) (v := ?v105) rfl (by kernel_rfl) (by kernel_rfl) (by kernel_rfl) (fun _ _ _ h => h) (Or.inl ⟨by kernel_rfl, ?hy105⟩) hHeld (show _ = (true :: true :: true :: true :: true :: true :: true :: true :: true :: true :: true :: true :: true :: true :: true :: true :: true :: true :: true :: true :: true :: true :: true :: true :: true :: true :: true :: true :: true :: true :: true :: true :: true :: true :: true :: true :: true :: true :: true :: true :: true :: true :: true :: true :: true :: true :: true :: true :: true :: true :: true :: true :: true :: true :: true :: true :: true :: false :: false :: false :: false :: false :: false :: false :: false :: false :: false :: false :: false :: []).toArray by kernel_rfl) ?rest105
        case hy105 => intro X hX; (try dsimp only at hX); obtain ⟨z1, z2, z3⟩ := (gQ.keep hX).cells; go_simp <;> with_reducible rfl
        try dsimp only [List.getElem_toArray, List.getElem_cons_succ, List.getElem_cons_zero]
        try simp only [Act.put, List.setIfInBounds_toArray]
        try dsimp only [List.set_cons_zero, List.set_cons_succ]
        refine wpAnyH_fn (i := 57) (fuel := 11) (by kernel_rfl) rfl (by kernel_rfl) (by kernel_rfl) (show _ = (true :: true :: true :: true :: true :: true :: true :: true :: true :: true :: true :: true :: true :: true :: true :: true :: true :: true :: true :: true :: true :: true :: true :: true :: true :: true :: true :: true :: true :: true :: true :: true :: true :: true :: true :: true :: true :: true :: true :: true :: true :: true :: true :: true :: true :: true :: true :: true :: true :: true :: true :: true :: true :: true :: true :: true :: true :: true :: false :: false :: false :: false :: false :: false :: false :: false :: false :: false :: false :: []).toArray by kernel_rfl) (sameG_any R20 N20 _ _ L20 _ (gP.keep hHeld).row (gQ.keep hHeld).row (by omega)) ?_
        rintro e q10 ⟨rfl, hb⟩
        refine ⟨_, rfl, hHeld.trans (hb.mono hHeld.size), ?_⟩
        replace hHeld := hHeld.trans (hb.mono hHeld.size)
        clear hb
        try dsimp only [List.getElem_toArray, List.getElem_cons_succ, List.getElem_cons_zero]
        try simp only [Act.put, List.setIfInBounds_toArray]
        try dsimp only [List.set_cons_zero, List.set_cons_succ]
        refine wpAnyH_take2 (i := 58) (fuel := 10) (v := ?v106) rfl (by kernel_rfl) (by kernel_rfl) (by kernel_rfl) (fun _ _ _ h => h) (Or.inl ⟨by kernel_rfl, ?hy106⟩) hHeld (show _ = (true :: true :: true :: true :: true :: true :: true :: true :: true :: true :: true :: true :: true :: true :: true :: true :: true :: true :: true :: true :: true :: true :: true :: true :: true :: true :: true :: true :: true :: true :: true :: true :: true :: true :: true :: true :: true :: true :: true :: true :: true :: true :: true :: true :: true :: true :: true :: true :: true :: true :: true :: true :: true :: true :: true :: true :: true :: true :: true :: false :: false :: false :: false :: false :: false :: false :: false :: false :: false :: []).toArray by kernel_rfl) ?rest106
        case hy106 => intro X hX; (try dsimp only at hX); go_simp <;> with_reducible rfl
        try dsimp only [List.getElem_toArray, List.getElem_cons_succ, List.getElem_cons_zero]
        try simp only [Act.put, List.setIfInBounds_toArray]
        try dsimp only [List.set_cons_zero, List.set_cons_succ]
        refine wpAnyH_take2 (i := 59) (fuel := 9) (v := ?v107) rfl (by kernel_rfl) (by kernel_rfl) (by kernel_rfl) (fun _ _ _ h => h) (Or.inl ⟨by kernel_rfl, ?hy107⟩) hHeld (show _ = (true :: true :: true :: true :: true :: true :: true :: true :: true :: true :: true :: true :: true :: true :: true :: true :: true :: true :: true :: true :: true :: true :: true :: true :: true :: true :: true :: true :: true :: true :: true :: true :: true :: true :: true :: true :: true :: true :: true :: true :: true :: true :: true :: true :: true :: true :: true :: true :: true :: true :: true :: true :: true :: true :: true :: true :: true :: true :: true :: true :: false :: false :: false :: false :: false :: false :: false :: false :: false :: []).toArray by kernel_rfl) ?rest107
        case hy107 => intro X hX; (try dsimp only at hX); go_simp <;> with_reducible rfl
        try dsimp only [List.getElem_toArray, List.getElem_cons_succ, List.getElem_cons_zero]
        try simp only [Act.put, List.setIfInBounds_toArray]
        try dsimp only [List.set_cons_zero, List.set_cons_succ]
        refine wpAnyH_take2 (i := 60) (fuel := 8) (v := ?v108) rfl (by kernel_rfl) (by kernel_rfl) (by kernel_rfl) (fun _ _ _ h => h) (Or.inl ⟨by kernel_rfl, ?hy108⟩) hHeld (show _ = (true :: true :: true :: true :: true :: true :: true :: true :: true :: true :: true :: true :: true :: true :: true :: true :: true :: true :: true :: true :: true :: true :: true :: true :: true :: true :: true :: true :: true :: true :: true :: true :: true :: true :: true :: true :: true :: true :: true :: true :: true :: true :: true :: true :: true :: true :: true :: true :: true :: true :: true :: true :: true :: true :: true :: true :: true :: true :: true :: true :: true :: false :: false :: false :: false :: false :: false :: false :: false :: []).toArray by kernel_rfl) ?rest108
        case hy108 => intro X hX; (try dsimp only at hX); obtain ⟨z1, z2, z3⟩ := (gM.keep hX).cells; go_simp <;> with_reducible rfl
        try dsimp only [List.getElem_toArray, List.getElem_cons_succ, List.getElem_cons_zero]
        try simp only [Act.put, List.setIfInBounds_toArray]
        try dsimp only [List.set_cons_zero, List.set_cons_succ]
        refine wpAnyH_take2 (i := 61) (fuel := 7) (v := ?v109) rfl (by kernel_rfl) (by kernel_rfl) (by kernel_rfl) (fun _ _ _ h => h) (Or.inl ⟨by kernel_rfl, ?hy109⟩) hHeld (show _ = (true :: true :: true :: true :: true :: true :: true :: true :: true :: true :: true :: true :: true :: true :: true :: true :: true :: true :: true :: true :: true :: true :: true :: true :: true :: true :: true :: true :: true :: true :: true :: true :: true :: true :: true :: true :: true :: true :: true :: true :: true :: true :: true :: true :: true :: true :: true :: true :: true :: true :: true :: true :: true :: true :: true :: true :: true :: true :: true :: true :: true :: true :: false :: false :: false :: false :: false :: false :: false :: []).toArray by kernel_rfl) ?rest109
        case hy109 => intro X hX; (try dsimp only at hX); obtain ⟨z1, z2, z3⟩ := (gN.keep hX).cells; go_simp <;> with_reducible rfl
        try dsimp only [List.getElem_toArray, List.getElem_cons_succ, List.getElem_cons_zero]
        try simp only [Act.put, List.setIfInBounds_toArray]
        try dsimp only [List.set_cons_zero, List.set_cons_succ]
        refine wpAnyH_take2 (i := 63) (fuel := 6) (v := ?v110) rfl (by kernel_rfl) (by kernel_rfl) (by kernel_rfl) (fun _ _ _ h => h) (Or.inl ⟨by kernel_rfl, ?hy110⟩) hHeld (show _ = (true :: true :: true :: true :: true :: true :: true :: true :: true :: true :: true :: true :: true :: true :: true :: true :: true :: true :: true :: true :: true :: true :: true :: true :: true :: true :: true :: true :: true :: true :: true :: true :: true :: true :: true :: true :: true :: true :: true :: true :: true :: true :: true :: true :: true :: true :: true :: true :: true :: true :: true :: true :: true :: true :: true :: true :: true :: true :: true :: true :: true :: true :: false :: true :: false :: false :: false :: false :: false :: []).toArray by kernel_rfl) ?rest110
        case hy110 => intro X hX; (try dsimp only at hX); obtain ⟨z1, z2, z3⟩ := (gM.keep hX).cells; go_simp <;> with_reducible rfl
        try dsimp only [List.getElem_toArray, List.getElem_cons_succ, List.getElem_cons_zero]
        try simp only [Act.put, List.setIfInBounds_toArray]
        try dsimp only [List.set_cons_zero, List.set_cons_succ]
        refine wpAnyH_take2 (i := 64) (fuel := 5) (v := ?v111) rfl (by kernel_rfl) (by kernel_rfl) (by kernel_rfl) (fun _ _ _ h => h) (Or.inl ⟨by kernel_rfl, ?hy111⟩) hHeld (show _ = (true :: true :: true :: true :: true :: true :: true :: true :: true :: true :: true :: true :: true :: true :: true :: true :: true :: true :: true :: true :: true :: true :: true :: true :: true :: true :: true :: true :: true :: true :: true :: true :: true :: true :: true :: true :: true :: true :: true :: true :: true :: true :: true :: true :: true :: true :: true :: true :: true :: true :: true :: true :: true :: true :: true :: true :: true :: true :: true :: true :: true :: true :: false :: true :: true :: false :: false :: false :: false :: []).toArray by kernel_rfl) ?rest111
        case hy111 => intro X hX; (try dsimp only at hX); obtain ⟨z1, z2, z3⟩ := (gN.keep hX).cells; go_simp <;> with_reducible rfl
        try dsimp only [List.getElem_toArray, List.getElem_cons_succ, List.getElem_cons_zero]
        try simp only [Act.put, List.setIfInBounds_toArray]
        try dsimp only [List.set_cons_zero, List.set_cons_succ]
        refine wpAnyH_fn (i := 62) (fuel := 4) (by kernel_rfl) rfl (by kernel_rfl) (by kernel_rfl) (show _ = (true :: true :: true :: true :: true :: true :: true :: true :: true :: true :: true :: true :: true :: true :: true :: true :: true :: true :: true :: true :: true :: true :: true :: true :: true :: true :: true :: true :: true :: true :: true :: true :: true :: true :: true :: true :: true :: true :: true :: true :: true :: true :: true :: true :: true :: true :: true :: true :: true :: true :: true :: true :: true :: true :: true :: true :: true :: true :: true :: true :: true :: true :: true :: true :: true :: false :: false :: false :: false :: []).toArray by kernel_rfl) (EI.out _ _ _ (gM.keep hHeld).row (gN.keep hHeld).row) ?_
        rintro e q11 ⟨rfl, hb⟩
        refine ⟨_, rfl, hHeld.trans (hb.mono hHeld.size), ?_⟩
        replace hHeld := hHeld.trans (hb.mono hHeld.size)
        clear hb
        try dsimp only [List.getElem_toArray, List.getElem_cons_succ, List.getElem_cons_zero]
        try simp only [Act.put, List.setIfInBounds_toArray]
        try dsimp only [List.set_cons_zero, List.set_cons_succ]
        refine wpAnyH_fn (i := 65) (fuel := 3) (by kernel_rfl) rfl (by kernel_rfl) (by kernel_rfl) (show _ = (true :: true :: true :: true :: true :: true :: true :: true :: true :: true :: true :: true :: true :: true :: true :: true :: true :: true :: true :: true :: true :: true :: true :: true :: true :: true :: true :: true :: true :: true :: true :: true :: true :: true :: true :: true :: true :: true :: true :: true :: true :: true :: true :: true :: true :: true :: true :: true :: true :: true :: true :: true :: true :: true :: true :: true :: true :: true :: true :: true :: true :: true :: true :: true :: true :: true :: false :: false :: false :: []).toArray by kernel_rfl) (ES.out _ _ _ (gM.keep hHeld).row (gN.keep hHeld).row) ?_
        rintro e q12 ⟨rfl, hb⟩
        refine ⟨_, rfl, hHeld.trans (hb.mono hHeld.size), ?_⟩
        replace hHeld := hHeld.trans (hb.mono hHeld.size)
        clear hb
        try dsimp only [List.getElem_toArray, List.getElem_cons_succ, List.getElem_cons_zero]
        try simp only [Act.put, List.setIfInBounds_toArray]
        try dsimp only [List.set_cons_zero, List.set_cons_succ]
        refine wpAnyH_take2 (i := 66) (fuel := 2) (v := ?v112) rfl (by kernel_rfl) (by kernel_rfl) (by kernel_rfl) (fun _ _ _ h => h) (Or.inl ⟨by kernel_rfl, ?hy112⟩) hHeld (show _ = (true :: true :: true :: true :: true :: true :: true :: true :: true :: true :: true :: true :: true :: true :: true :: true :: true :: true :: true :: true :: true :: true :: true :: true :: true :: true :: true :: true :: true :: true :: true :: true :: true :: true :: true :: true :: true :: true :: true :: true :: true :: true :: true :: true :: true :: true :: true :: true :: true :: true :: true :: true :: true :: true :: true :: true :: true :: true :: true :: true :: true :: true :: true :: true :: true :: true :: true :: false :: false :: []).toArray by kernel_rfl) ?rest112
        case hy112 => intro X hX; (try dsimp only at hX); go_simp <;> with_reducible rfl
        try dsimp only [List.getElem_toArray, List.getElem_cons_succ, List.getElem_cons_zero]
        try simp only [Act.put, List.setIfInBounds_toArray]
        try dsimp only [List.set_cons_zero, List.set_cons_succ]
        refine wpAnyH_take2 (i := 67) (fuel := 1) (v := ?v113) rfl (by kernel_rfl) (by kernel_rfl) (by kernel_rfl) (fun _ _ _ h => h) (Or.inl ⟨by kernel_rfl, ?hy113⟩) hHeld (show _ = (true :: true :: true :: true :: true :: true :: true :: true :: true :: true :: true :: true :: true :: true :: true :: true :: true :: true :: true :: true :: true :: true :: true :: true :: true :: true :: true :: true :: true :: true :: true :: true :: true :: true :: true :: true :: true :: true :: true :: true :: true :: true :: true :: true :: true :: true :: true :: true :: true :: true :: true :: true :: true :: true :: true :: true :: true :: true :: true :: true :: true :: true :: true :: true :: true :: true :: true :: true :: false :: []).toArray by kernel_rfl) ?rest113
        case hy113 => intro X hX; (try dsimp only at hX); go_simp <;> with_reducible rfl
        try dsimp only [List.getElem_toArray, List.getElem_cons_succ, List.getElem_cons_zero]
        try simp only [Act.put, List.setIfInBounds_toArray]
        try dsimp only [List.set_cons_zero, List.set_cons_succ]
        refine wpAnyH_take2 (i := 68) (fuel := 0) (v := ?v114) rfl (by kernel_rfl) (by kernel_rfl) (by kernel_rfl) (fun _ _ _ h => h) (Or.inl ⟨by kernel_rfl, ?hy114⟩) hHeld (show _ = (true :: true :: true :: true :: true :: true :: true :: true :: true :: true :: true :: true :: true :: true :: true :: true :: true :: true :: true :: true :: true :: true :: true :: true :: true :: true :: true :: true :: true :: true :: true :: true :: true :: true :: true :: true :: true :: true :: true :: true :: true :: true :: true :: true :: true :: true :: true :: true :: true :: true :: true :: true :: true :: true :: true :: true :: true :: true :: true :: true :: true :: true :: true :: true :: true :: true :: true :: true :: true :: []).toArray by kernel_rfl) ?rest114
        case hy114 => intro X hX; (try dsimp only at hX); go_simp <;> with_reducible rfl
        try dsimp only [List.getElem_toArray, List.getElem_cons_succ, List.getElem_cons_zero]
        try simp only [Act.put, List.setIfInBounds_toArray]
        try dsimp only [List.set_cons_zero, List.set_cons_succ]
        refine wpAnyH_done (by kernel_rfl) ?_ _
        have HF := Lib.hid (hB.trans (hHeld.mono hB.size))
        clear hHeld
        go_wp2
        go_ret
        exact ⟨rfl, HF.out⟩
end Go.Proofs.YtpebiacdkfpnpaaGreat
