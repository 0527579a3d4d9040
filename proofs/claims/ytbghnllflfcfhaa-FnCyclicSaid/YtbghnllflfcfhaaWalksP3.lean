/- The walk of the law FnCyclic. Conditions: none. -/
import Derived.Test.YtbghnllflfcfhaaDrawZ
import Derived.Test.YtbghnllflfcfhaaCycF
import Derived.Test.YtbghnllflfcfhaaCycG
import Derived.Test.YtbghnllflfcfhaaCycD
import Derived.Test.YtbghnllflfcfhaaWordC
import Derived.Test.YtbghnllflfcfhaaFreeC
namespace Go.Proofs.Ytbghnllflfcfhaa
open Go.RowKit

theorem sameInts_ne (v1 v2 : Value) (l1 l2 : List Int) (w : World) (h1 : Ints w v1 l1) (h2 : Ints w v2 l2) (hn : l1.length ≤ 134217728) (he : l1 ≠ l2) :
    Calls Try.prog 19 #[v1, v2] w (RetV w (.bool false)) := by
  have h := sameInts_any v1 v2 l1 l2 w h1 h2 hn
  have e : eqL l1 l2 = false := by simpa [eqL] using he
  rwa [e] at h
theorem lr_same {l : List Int} {m : Nat} (h : Kept (m = lrAt l (l.length - 1))) : rotL l m = rotL l (rotK (m : Int) l.length) := by
  by_cases h0 : l = []
  · subst h0
    have := h.out
    simp [lrAt] at this
    subst this
    rfl
  · have h1 : m < l.length := by rw [h.out]; have := lrAt_le l (l.length - 1); have := List.length_pos_iff.2 h0; omega
    rw [rotK_nat h1]
theorem lrI_is (v : Value) (l : List Int) (m : Nat) (w : World) (h : Ints w v l) (hn : l.length ≤ 33554432) (hm : Kept (m = lrAt l (l.length - 1))) :
    Calls Try.prog 64 #[v] w (RetI2 w (rotL l m) (.int .i64 m)) := by
  rw [hm.out]; exact leastRotation_any v l w h hn
theorem lrS_is (v : Value) (l : List Int) (m : Nat) (w : World) (h : Ints w v l) (hn : l.length ≤ 33554432) (hm : Kept (m = lrAt l (l.length - 1))) :
    Calls Try.prog 65 #[v] w (RetI2 w (rotL l m) (.int .i64 m)) := by
  rw [hm.out]; exact leastRotationS_any v l w h hn
theorem coreI_is (v : Value) (l c p : List Int) (w : World) (h : Ints w v l) (hn : l.length ≤ 67108864) (hc : Kept (c = coreX (red l))) (hp : Kept (p = coreP (red l))) :
    Calls Try.prog 56 #[v] w (RetII w c p) := by
  rw [hc.out, hp.out]; exact cyclicCore_any v l w h hn
theorem coreS_is (v : Value) (l c p : List Int) (w : World) (h : Ints w v l) (hn : l.length ≤ 67108864) (hc : Kept (c = coreX (red l))) (hp : Kept (p = coreP (red l))) :
    Calls Try.prog 57 #[v] w (RetII w c p) := by
  rw [hc.out, hp.out]; exact cyclicCoreS_any v l w h hn
theorem clenI_is (v : Value) (l c : List Int) (w : World) (h : Ints w v l) (hn : l.length ≤ 33554432) (hc : Kept (c = coreX (red l))) :
    Calls Try.prog 58 #[v] w (RetV w (.int .i64 (c.length : Nat))) := by
  rw [hc.out]; exact cyclicLength_any v l w h hn
theorem conjI_is (va vb : Value) (la lb : List Int) (D : Bool) (w : World) (ha : Ints w va la) (hb : Ints w vb lb) (na : la.length ≤ 4194304) (nb : lb.length ≤ 4194304) (hD : Kept (D = conjOk la lb)) :
    Calls Try.prog 60 #[va, vb] w (RetI2 w (conjW la lb) (.bool D)) := by
  rw [hD.out]; exact areConjugate_any va vb la lb w ha hb na nb
theorem conjS_is (va vb : Value) (la lb : List Int) (D : Bool) (w : World) (ha : Ints w va la) (hb : Ints w vb lb) (na : la.length ≤ 4194304) (nb : lb.length ≤ 4194304) (hD : Kept (D = conjOk la lb)) :
    Calls Try.prog 61 #[va, vb] w (RetI2 w (conjW la lb) (.bool D)) := by
  rw [hD.out]; exact areConjugateS_any va vb la lb w ha hb na nb
theorem conj_cases {la lb : List Int} {D : Bool} (ga : Good la) (gb : Good lb) (hD : Kept (D = conjOk la lb)) :
    (D = true ∧ red (invW (conjW la lb) ++ red la ++ conjW la lb) = red lb ∧ cycF la = cycF lb) ∨ (D = false ∧ cycF la ≠ cycF lb) := by
  have hf := conj_form (b := lb) ga.small
  have hD := hD.out
  by_cases he : cycF la = cycF lb
  · left
    rw [decide_eq_true he] at hf
    exact ⟨by rw [hD, hf], conj_law ga gb hf, he⟩
  · right
    rw [decide_eq_false he] at hf
    exact ⟨by rw [hD, hf], he⟩

set_option maxHeartbeats 3200000 in
theorem walkFnCyclic (w : World) (A : Option Addr) (len cap : Nat) (zs : List Int) (hz : IsRow .u8 w A len cap zs) :
    Calls Try.prog 7 #[.slice A len cap] w fun e w' => e = .returned (.bool true) ∧ Below w.heap.size w w' := by
  by_cases c0 : (len : Int) ≤ 1048576
  case neg =>
    go_enter Try.func7, Try.ntmps7
    go_wp2_with fail
    refine (big_over A len cap _ (by omega)).mono ?_
    rintro e w1 ⟨rfl, hb⟩
    go_wp2
    go_ret
    exact ⟨rfl, hb⟩
  have hl : len ≤ 1048576 := by omega
  have hC := codeArg_of_row hz
  have hcap := row_cap hz
  have hB := Below.refl w.heap.size w
  clear hz
  go_enter Try.func7, Try.ntmps7
  go_wp2_with fail
  refine (big_fits A len cap _ c0).mono ?_
  rintro e w1 ⟨rfl, hb⟩
  replace hC := hC.keep hb
  replace hB := hB.trans (hb.mono hB.size)
  clear hb
  go_wp2_with fail
  refine (drawCyclicCore_any A len cap _ hC hl).mono ?_
  rintro e w2 ⟨vw, lw, rfl, ow, fw, hb⟩
  replace hC := hC.keep hb
  replace hB := hB.trans (hb.mono hB.size)
  clear hb
  have Iw := ow.ints
  have nw := fw.len
  clear ow
  obtain ⟨c, hc⟩ : ∃ c, c = coreX (red lw) := ⟨_, rfl⟩
  obtain ⟨p, hp⟩ : ∃ p, p = coreP (red lw) := ⟨_, rfl⟩
  have ncl : c.length ≤ 100 := by rw [hc]; have := coreX_short lw; omega
  have npl : p.length ≤ 100 := by rw [hp, coreP_length]; have := coreN_le (red lw); have := red_length lw; omega
  have hlaw := core_law lw
  rw [← hc, ← hp] at hlaw
  have HLAW := Lib.hid hlaw
  have HCC : Kept (c = coreX (red lw)) := ⟨hc⟩
  have HCP : Kept (p = coreP (red lw)) := ⟨hp⟩
  clear hc hp hlaw fw
  go_wp2_with fail
  refine (coreI_is _ _ _ _ _ Iw (by omega) HCC HCP).mono ?_
  rintro e w3 ⟨vc, vp, rfl, oc, op, _, hb⟩
  replace hC := hC.keep hb
  replace Iw := Iw.keep hb
  replace hB := hB.trans (hb.mono hB.size)
  clear hb
  have Ic := oc.ints
  have Ip := op.ints
  clear oc op
  go_wp2_with fail
  refine (coreS_is _ _ _ _ _ Iw (by omega) HCC HCP).mono ?_
  rintro e w4 ⟨vd, vq, rfl, od, oq, _, hb⟩
  replace hC := hC.keep hb
  replace Iw := Iw.keep hb
  replace Ic := Ic.keep hb
  replace Ip := Ip.keep hb
  replace hB := hB.trans (hb.mono hB.size)
  clear hb
  have Id := od.ints
  have Iq := oq.ints
  clear od oq
  obtain ⟨bd, offd, capd, rfl, _, _⟩ := Id.form
  go_wp2_with fail
  refine (sameInts_eq _ _ _ _ _ Ic Id (by omega) rfl).mono ?_
  rintro e w5 ⟨rfl, hb⟩
  replace hC := hC.keep hb
  replace Iw := Iw.keep hb
  replace Ic := Ic.keep hb
  replace Ip := Ip.keep hb
  replace Id := Id.keep hb
  replace Iq := Iq.keep hb
  replace hB := hB.trans (hb.mono hB.size)
  clear hb
  go_wp2_with fail
  refine (sameInts_eq _ _ _ _ _ Ip Iq (by omega) rfl).mono ?_
  rintro e w6 ⟨rfl, hb⟩
  replace hC := hC.keep hb
  replace Iw := Iw.keep hb
  replace Ic := Ic.keep hb
  replace Ip := Ip.keep hb
  replace Id := Id.keep hb
  replace Iq := Iq.keep hb
  replace hB := hB.trans (hb.mono hB.size)
  clear hb
  clear Iq
  clear Id
  go_wp2_with fail
  refine (multiplyWordsS_any _ _ _ _ _ Ip Ic (by omega) (by omega)).mono ?_
  rintro e w7 ⟨vx, rfl, ox, hb⟩
  replace hC := hC.keep hb
  replace Iw := Iw.keep hb
  replace Ic := Ic.keep hb
  replace Ip := Ip.keep hb
  replace hB := hB.trans (hb.mono hB.size)
  clear hb
  have Ix := ox.ints
  clear ox
  go_wp2_with fail
  refine (invertWordS_any _ _ _ Ip (by omega)).mono ?_
  rintro e w8 ⟨vy, rfl, oy, hb⟩
  replace hC := hC.keep hb
  replace Iw := Iw.keep hb
  replace Ic := Ic.keep hb
  replace Ip := Ip.keep hb
  replace Ix := Ix.keep hb
  replace hB := hB.trans (hb.mono hB.size)
  clear hb
  have Iy := oy.ints
  clear oy
  clear Ip
  clear Ic
  have nx := red_length (p ++ c)
  have ny := invW_length p
  simp only [List.length_append] at nx
  have NY := Lib.hid ny
  clear ny
  go_wp2_with fail
  refine (multiplyWordsS_any _ _ _ _ _ Ix Iy (by omega) (by have := NY.out; omega)).mono ?_
  rintro e w9 ⟨vz, rfl, oz, hb⟩
  replace hC := hC.keep hb
  replace Iw := Iw.keep hb
  replace Ix := Ix.keep hb
  replace Iy := Iy.keep hb
  replace hB := hB.trans (hb.mono hB.size)
  clear hb
  have Iz := oz.ints
  clear oz
  clear Ix
  clear Iy
  go_wp2_with fail
  refine (reduceLettersS_any _ _ _ Iw (by omega)).mono ?_
  rintro e w10 ⟨vx, rfl, ox, hb⟩
  replace hC := hC.keep hb
  replace Iw := Iw.keep hb
  replace Iz := Iz.keep hb
  replace hB := hB.trans (hb.mono hB.size)
  clear hb
  have Ix := ox.ints
  clear ox
  have nz := red_length lw
  go_wp2_with fail
  refine (sameInts_eq _ _ _ _ _ Iz Ix (by rw [HLAW.out]; omega) HLAW.out).mono ?_
  rintro e w11 ⟨rfl, hb⟩
  replace hC := hC.keep hb
  replace Iw := Iw.keep hb
  replace Iz := Iz.keep hb
  replace Ix := Ix.keep hb
  replace hB := hB.trans (hb.mono hB.size)
  clear hb
  clear Iz
  clear Ix
  go_wp2_with fail
  refine (clenI_is _ _ _ _ Iw (by omega) HCC).mono ?_
  rintro e w12 ⟨rfl, hb⟩
  replace hC := hC.keep hb
  replace Iw := Iw.keep hb
  replace hB := hB.trans (hb.mono hB.size)
  clear hb
  clear HLAW HCC HCP NY nx npl ncl nz
  go_wp2_with fail
  refine (drawAreConjugate_any A len cap _ hC hl).mono ?_
  rintro e w13 ⟨va, la, vb, lb, rfl, oa, ob, fa, fb, hb⟩
  replace hC := hC.keep hb
  replace Iw := Iw.keep hb
  replace hB := hB.trans (hb.mono hB.size)
  clear hb
  have Ia := oa.ints
  have Ib := ob.ints
  have na := fa.len
  have nb := fb.len
  clear oa ob
  obtain ⟨D, hD⟩ : ∃ D, D = conjOk la lb := ⟨_, rfl⟩
  have HD : Kept (D = conjOk la lb) := ⟨hD⟩
  clear hD
  have HF := conj_cases fa.good fb.good HD
  clear fa fb
  have ncj := conjW_length la lb
  have nca := cycF_length la
  have nsa := coreX_short la
  go_wp2_with fail
  refine (conjI_is _ _ _ _ _ _ Ia Ib (by omega) (by omega) HD).mono ?_
  rintro e w14 ⟨vx, rfl, ox, hb⟩
  replace hC := hC.keep hb
  replace Iw := Iw.keep hb
  replace Ia := Ia.keep hb
  replace Ib := Ib.keep hb
  replace hB := hB.trans (hb.mono hB.size)
  clear hb
  have Ix := ox.ints
  clear ox
  go_wp2_with fail
  refine (conjS_is _ _ _ _ _ _ Ia Ib (by omega) (by omega) HD).mono ?_
  rintro e w15 ⟨vy, rfl, oy, hb⟩
  replace hC := hC.keep hb
  replace Iw := Iw.keep hb
  replace Ia := Ia.keep hb
  replace Ib := Ib.keep hb
  replace Ix := Ix.keep hb
  replace hB := hB.trans (hb.mono hB.size)
  clear hb
  have Iy := oy.ints
  clear oy
  rcases HF with ⟨rfl, h1, h2⟩ | ⟨rfl, h2⟩
  · have H1 := Lib.hid h1
    have H2 := Lib.hid h2
    clear h1 h2
    go_wp2_with fail
    refine (sameInts_eq _ _ _ _ _ Ix Iy (by omega) rfl).mono ?_
    rintro e w16 ⟨rfl, hb⟩
    replace hC := hC.keep hb
    replace Iw := Iw.keep hb
    replace Ia := Ia.keep hb
    replace Ib := Ib.keep hb
    replace Ix := Ix.keep hb
    replace Iy := Iy.keep hb
    replace hB := hB.trans (hb.mono hB.size)
    clear hb
    clear Iy
    go_wp2_with fail
    refine (reduceLettersS_any _ _ _ Ia (by omega)).mono ?_
    rintro e w17 ⟨vy, rfl, oy, hb⟩
    replace hC := hC.keep hb
    replace Iw := Iw.keep hb
    replace Ia := Ia.keep hb
    replace Ib := Ib.keep hb
    replace Ix := Ix.keep hb
    replace hB := hB.trans (hb.mono hB.size)
    clear hb
    have Iy := oy.ints
    clear oy
    have nra := red_length la
    have nrb := red_length lb
    go_wp2_with fail
    refine (conjugateWordS_any _ _ _ _ _ Iy Ix (by omega) (by omega)).mono ?_
    rintro e w18 ⟨vz, rfl, oz, hb⟩
    replace hC := hC.keep hb
    replace Iw := Iw.keep hb
    replace Ia := Ia.keep hb
    replace Ib := Ib.keep hb
    replace Ix := Ix.keep hb
    replace Iy := Iy.keep hb
    replace hB := hB.trans (hb.mono hB.size)
    clear hb
    have Iz := oz.ints
    clear oz
    clear Ix
    clear Iy
    go_wp2_with fail
    refine (reduceLettersS_any _ _ _ Ib (by omega)).mono ?_
    rintro e w19 ⟨vy, rfl, oy, hb⟩
    replace hC := hC.keep hb
    replace Iw := Iw.keep hb
    replace Ia := Ia.keep hb
    replace Ib := Ib.keep hb
    replace Iz := Iz.keep hb
    replace hB := hB.trans (hb.mono hB.size)
    clear hb
    have Iy := oy.ints
    clear oy
    go_wp2_with fail
    refine (sameInts_eq _ _ _ _ _ Iz Iy (by rw [H1.out]; omega) H1.out).mono ?_
    rintro e w20 ⟨rfl, hb⟩
    replace hC := hC.keep hb
    replace Iw := Iw.keep hb
    replace Ia := Ia.keep hb
    replace Ib := Ib.keep hb
    replace Iz := Iz.keep hb
    replace Iy := Iy.keep hb
    replace hB := hB.trans (hb.mono hB.size)
    clear hb
    clear Iz
    clear Iy
    go_wp2_with fail
    refine (cyclicForm_any _ _ _ Ia (by omega)).mono ?_
    rintro e w21 ⟨vx, rfl, ox, hb⟩
    replace hC := hC.keep hb
    replace Iw := Iw.keep hb
    replace Ia := Ia.keep hb
    replace Ib := Ib.keep hb
    replace hB := hB.trans (hb.mono hB.size)
    clear hb
    have Ix := ox.ints
    clear ox
    clear Ia
    go_wp2_with fail
    refine (cyclicForm_any _ _ _ Ib (by omega)).mono ?_
    rintro e w22 ⟨vy, rfl, oy, hb⟩
    replace hC := hC.keep hb
    replace Iw := Iw.keep hb
    replace Ib := Ib.keep hb
    replace Ix := Ix.keep hb
    replace hB := hB.trans (hb.mono hB.size)
    clear hb
    have Iy := oy.ints
    clear oy
    clear Ib
    go_wp2_with fail
    refine (sameInts_eq _ _ _ _ _ Ix Iy (by omega) H2.out).mono ?_
    rintro e w23 ⟨rfl, hb⟩
    replace hC := hC.keep hb
    replace Iw := Iw.keep hb
    replace Ix := Ix.keep hb
    replace Iy := Iy.keep hb
    replace hB := hB.trans (hb.mono hB.size)
    clear hb
    clear Ix
    clear Iy
    clear H1 H2 ncj nca nsa nra nrb HD na nb
    go_wp2_with fail
    refine (drawRotateWord_any A len cap _ hC hl).mono ?_
    rintro e w24 ⟨va, la, k, rfl, oa, fa, hk, hb⟩
    replace hC := hC.keep hb
    replace Iw := Iw.keep hb
    replace hB := hB.trans (hb.mono hB.size)
    clear hb
    have Ia := oa.ints
    have na := fa.len
    have HK := Lib.hid hk
    clear oa hk fa
    go_wp2_with fail
    refine (drawLeastRotation_any A len cap _ hC hl).mono ?_
    rintro e w25 ⟨vb, lb, rfl, ob, fb, hb⟩
    replace hC := hC.keep hb
    replace Iw := Iw.keep hb
    replace Ia := Ia.keep hb
    replace hB := hB.trans (hb.mono hB.size)
    clear hb
    have Ib := ob.ints
    have nb := fb.len
    clear ob fb
    obtain ⟨m, hm⟩ : ∃ m, m = lrAt lb (lb.length - 1) := ⟨_, rfl⟩
    have hml : m ≤ lb.length := by rw [hm]; have := lrAt_le lb (lb.length - 1); omega
    have HM : Kept (m = lrAt lb (lb.length - 1)) := ⟨hm⟩
    clear hm
    have nrot := rotL_length lb m
    go_wp2_with fail
    refine (lrI_is _ _ m _ Ib (by omega) HM).mono ?_
    rintro e w26 ⟨vm, rfl, om, hb⟩
    replace hC := hC.keep hb
    replace Iw := Iw.keep hb
    replace Ia := Ia.keep hb
    replace Ib := Ib.keep hb
    replace hB := hB.trans (hb.mono hB.size)
    clear hb
    have Im := om.ints
    clear om
    go_wp2_with fail
    refine (lrS_is _ _ m _ Ib (by omega) HM).mono ?_
    rintro e w27 ⟨vo, rfl, oo, hb⟩
    replace hC := hC.keep hb
    replace Iw := Iw.keep hb
    replace Ia := Ia.keep hb
    replace Ib := Ib.keep hb
    replace Im := Im.keep hb
    replace hB := hB.trans (hb.mono hB.size)
    clear hb
    have Io := oo.ints
    clear oo
    go_wp2_with fail
    refine (rotateWord_any _ _ k _ Ia (by omega)).mono ?_
    rintro e w28 ⟨vx, rfl, ox, hb⟩
    replace hC := hC.keep hb
    replace Iw := Iw.keep hb
    replace Ia := Ia.keep hb
    replace Ib := Ib.keep hb
    replace Im := Im.keep hb
    replace Io := Io.keep hb
    replace hB := hB.trans (hb.mono hB.size)
    clear hb
    have Ix := ox.ints
    clear ox
    go_wp2_with fail
    refine (rotateWordS_any _ _ k _ Ia (by have := HK.out; unfold I64; omega) (by omega)).mono ?_
    rintro e w29 ⟨vy, rfl, oy, hb⟩
    replace hC := hC.keep hb
    replace Iw := Iw.keep hb
    replace Ia := Ia.keep hb
    replace Ib := Ib.keep hb
    replace Im := Im.keep hb
    replace Io := Io.keep hb
    replace Ix := Ix.keep hb
    replace hB := hB.trans (hb.mono hB.size)
    clear hb
    have Iy := oy.ints
    clear oy
    have nrk := rotL_length la (rotK k la.length)
    go_wp2_with fail
    refine (sameInts_eq _ _ _ _ _ Ix Iy (by omega) rfl).mono ?_
    rintro e w30 ⟨rfl, hb⟩
    replace hC := hC.keep hb
    replace Iw := Iw.keep hb
    replace Ia := Ia.keep hb
    replace Ib := Ib.keep hb
    replace Im := Im.keep hb
    replace Io := Io.keep hb
    replace Ix := Ix.keep hb
    replace Iy := Iy.keep hb
    replace hB := hB.trans (hb.mono hB.size)
    clear hb
    clear Ix
    clear Iy
    go_wp2_with fail
    refine (sameInts_eq _ _ _ _ _ Im Io (by omega) rfl).mono ?_
    rintro e w31 ⟨rfl, hb⟩
    replace hC := hC.keep hb
    replace Iw := Iw.keep hb
    replace Ia := Ia.keep hb
    replace Ib := Ib.keep hb
    replace Im := Im.keep hb
    replace Io := Io.keep hb
    replace hB := hB.trans (hb.mono hB.size)
    clear hb
    go_wp2_with fail
    refine (rotateWordS_any _ _ (m : Int) _ Ib (by unfold I64; omega) (by omega)).mono ?_
    rintro e w32 ⟨vx, rfl, ox, hb⟩
    replace hC := hC.keep hb
    replace Iw := Iw.keep hb
    replace Ia := Ia.keep hb
    replace Ib := Ib.keep hb
    replace Im := Im.keep hb
    replace Io := Io.keep hb
    replace hB := hB.trans (hb.mono hB.size)
    clear hb
    have Ix := ox.ints
    clear ox
    go_wp2_with fail
    refine (sameInts_eq _ _ _ _ _ Im Ix (by omega) (lr_same HM)).mono ?_
    rintro e w33 ⟨rfl, hb⟩
    replace hC := hC.keep hb
    replace Iw := Iw.keep hb
    replace Ia := Ia.keep hb
    replace Ib := Ib.keep hb
    replace Im := Im.keep hb
    replace Io := Io.keep hb
    replace Ix := Ix.keep hb
    replace hB := hB.trans (hb.mono hB.size)
    clear hb
    clear Im
    clear Ix
    go_wp2_with fail
    refine (cyclicForm_any _ _ _ Iw (by omega)).mono ?_
    rintro e w34 ⟨vx, rfl, ox, hb⟩
    replace hC := hC.keep hb
    replace Iw := Iw.keep hb
    replace Ia := Ia.keep hb
    replace Ib := Ib.keep hb
    replace Io := Io.keep hb
    replace hB := hB.trans (hb.mono hB.size)
    clear hb
    have Ix := ox.ints
    clear ox
    go_wp2_with fail
    refine (cyclicFormS_any _ _ _ Iw (by omega)).mono ?_
    rintro e w35 ⟨vy, rfl, oy, hb⟩
    replace hC := hC.keep hb
    replace Iw := Iw.keep hb
    replace Ia := Ia.keep hb
    replace Ib := Ib.keep hb
    replace Io := Io.keep hb
    replace Ix := Ix.keep hb
    replace hB := hB.trans (hb.mono hB.size)
    clear hb
    have Iy := oy.ints
    clear oy
    have ncf := cycF_length lw
    have ncs := coreX_short lw
    go_wp2_with fail
    refine (sameInts_eq _ _ _ _ _ Ix Iy (by omega) rfl).mono ?_
    rintro e w36 ⟨rfl, hb⟩
    replace hC := hC.keep hb
    replace Iw := Iw.keep hb
    replace Ia := Ia.keep hb
    replace Ib := Ib.keep hb
    replace Io := Io.keep hb
    replace Ix := Ix.keep hb
    replace Iy := Iy.keep hb
    replace hB := hB.trans (hb.mono hB.size)
    clear hb
    clear Ix
    clear Iy
    go_wp2
    go_ret
    exact ⟨rfl, hB⟩
  · have H2 := Lib.hid h2
    clear h2
    go_wp2_with fail
    refine (sameInts_eq _ _ _ _ _ Ix Iy (by omega) rfl).mono ?_
    rintro e w16 ⟨rfl, hb⟩
    replace hC := hC.keep hb
    replace Iw := Iw.keep hb
    replace Ia := Ia.keep hb
    replace Ib := Ib.keep hb
    replace Ix := Ix.keep hb
    replace Iy := Iy.keep hb
    replace hB := hB.trans (hb.mono hB.size)
    clear hb
    clear Ix
    clear Iy
    go_wp2_with fail
    refine (cyclicForm_any _ _ _ Ia (by omega)).mono ?_
    rintro e w17 ⟨vx, rfl, ox, hb⟩
    replace hC := hC.keep hb
    replace Iw := Iw.keep hb
    replace Ia := Ia.keep hb
    replace Ib := Ib.keep hb
    replace hB := hB.trans (hb.mono hB.size)
    clear hb
    have Ix := ox.ints
    clear ox
    clear Ia
    go_wp2_with fail
    refine (cyclicForm_any _ _ _ Ib (by omega)).mono ?_
    rintro e w18 ⟨vy, rfl, oy, hb⟩
    replace hC := hC.keep hb
    replace Iw := Iw.keep hb
    replace Ib := Ib.keep hb
    replace Ix := Ix.keep hb
    replace hB := hB.trans (hb.mono hB.size)
    clear hb
    have Iy := oy.ints
    clear oy
    clear Ib
    go_wp2_with fail
    refine (sameInts_ne _ _ _ _ _ Ix Iy (by omega) H2.out).mono ?_
    rintro e w19 ⟨rfl, hb⟩
    replace hC := hC.keep hb
    replace Iw := Iw.keep hb
    replace Ix := Ix.keep hb
    replace Iy := Iy.keep hb
    replace hB := hB.trans (hb.mono hB.size)
    clear hb
    clear Ix
    clear Iy
    clear H2 ncj nca nsa HD na nb
    go_wp2_with fail
    refine (drawRotateWord_any A len cap _ hC hl).mono ?_
    rintro e w20 ⟨va, la, k, rfl, oa, fa, hk, hb⟩
    replace hC := hC.keep hb
    replace Iw := Iw.keep hb
    replace hB := hB.trans (hb.mono hB.size)
    clear hb
    have Ia := oa.ints
    have na := fa.len
    have HK := Lib.hid hk
    clear oa hk fa
    go_wp2_with fail
    refine (drawLeastRotation_any A len cap _ hC hl).mono ?_
    rintro e w21 ⟨vb, lb, rfl, ob, fb, hb⟩
    replace hC := hC.keep hb
    replace Iw := Iw.keep hb
    replace Ia := Ia.keep hb
    replace hB := hB.trans (hb.mono hB.size)
    clear hb
    have Ib := ob.ints
    have nb := fb.len
    clear ob fb
    obtain ⟨m, hm⟩ : ∃ m, m = lrAt lb (lb.length - 1) := ⟨_, rfl⟩
    have hml : m ≤ lb.length := by rw [hm]; have := lrAt_le lb (lb.length - 1); omega
    have HM : Kept (m = lrAt lb (lb.length - 1)) := ⟨hm⟩
    clear hm
    have nrot := rotL_length lb m
    go_wp2_with fail
    refine (lrI_is _ _ m _ Ib (by omega) HM).mono ?_
    rintro e w22 ⟨vm, rfl, om, hb⟩
    replace hC := hC.keep hb
    replace Iw := Iw.keep hb
    replace Ia := Ia.keep hb
    replace Ib := Ib.keep hb
    replace hB := hB.trans (hb.mono hB.size)
    clear hb
    have Im := om.ints
    clear om
    go_wp2_with fail
    refine (lrS_is _ _ m _ Ib (by omega) HM).mono ?_
    rintro e w23 ⟨vo, rfl, oo, hb⟩
    replace hC := hC.keep hb
    replace Iw := Iw.keep hb
    replace Ia := Ia.keep hb
    replace Ib := Ib.keep hb
    replace Im := Im.keep hb
    replace hB := hB.trans (hb.mono hB.size)
    clear hb
    have Io := oo.ints
    clear oo
    go_wp2_with fail
    refine (rotateWord_any _ _ k _ Ia (by omega)).mono ?_
    rintro e w24 ⟨vx, rfl, ox, hb⟩
    replace hC := hC.keep hb
    replace Iw := Iw.keep hb
    replace Ia := Ia.keep hb
    replace Ib := Ib.keep hb
    replace Im := Im.keep hb
    replace Io := Io.keep hb
    replace hB := hB.trans (hb.mono hB.size)
    clear hb
    have Ix := ox.ints
    clear ox
    go_wp2_with fail
    refine (rotateWordS_any _ _ k _ Ia (by have := HK.out; unfold I64; omega) (by omega)).mono ?_
    rintro e w25 ⟨vy, rfl, oy, hb⟩
    replace hC := hC.keep hb
    replace Iw := Iw.keep hb
    replace Ia := Ia.keep hb
    replace Ib := Ib.keep hb
    replace Im := Im.keep hb
    replace Io := Io.keep hb
    replace Ix := Ix.keep hb
    replace hB := hB.trans (hb.mono hB.size)
    clear hb
    have Iy := oy.ints
    clear oy
    have nrk := rotL_length la (rotK k la.length)
    go_wp2_with fail
    refine (sameInts_eq _ _ _ _ _ Ix Iy (by omega) rfl).mono ?_
    rintro e w26 ⟨rfl, hb⟩
    replace hC := hC.keep hb
    replace Iw := Iw.keep hb
    replace Ia := Ia.keep hb
    replace Ib := Ib.keep hb
    replace Im := Im.keep hb
    replace Io := Io.keep hb
    replace Ix := Ix.keep hb
    replace Iy := Iy.keep hb
    replace hB := hB.trans (hb.mono hB.size)
    clear hb
    clear Ix
    clear Iy
    go_wp2_with fail
    refine (sameInts_eq _ _ _ _ _ Im Io (by omega) rfl).mono ?_
    rintro e w27 ⟨rfl, hb⟩
    replace hC := hC.keep hb
    replace Iw := Iw.keep hb
    replace Ia := Ia.keep hb
    replace Ib := Ib.keep hb
    replace Im := Im.keep hb
    replace Io := Io.keep hb
    replace hB := hB.trans (hb.mono hB.size)
    clear hb
    go_wp2_with fail
    refine (rotateWordS_any _ _ (m : Int) _ Ib (by unfold I64; omega) (by omega)).mono ?_
    rintro e w28 ⟨vx, rfl, ox, hb⟩
    replace hC := hC.keep hb
    replace Iw := Iw.keep hb
    replace Ia := Ia.keep hb
    replace Ib := Ib.keep hb
    replace Im := Im.keep hb
    replace Io := Io.keep hb
    replace hB := hB.trans (hb.mono hB.size)
    clear hb
    have Ix := ox.ints
    clear ox
    go_wp2_with fail
    refine (sameInts_eq _ _ _ _ _ Im Ix (by omega) (lr_same HM)).mono ?_
    rintro e w29 ⟨rfl, hb⟩
    replace hC := hC.keep hb
    replace Iw := Iw.keep hb
    replace Ia := Ia.keep hb
    replace Ib := Ib.keep hb
    replace Im := Im.keep hb
    replace Io := Io.keep hb
    replace Ix := Ix.keep hb
    replace hB := hB.trans (hb.mono hB.size)
    clear hb
    clear Im
    clear Ix
    go_wp2_with fail
    refine (cyclicForm_any _ _ _ Iw (by omega)).mono ?_
    rintro e w30 ⟨vx, rfl, ox, hb⟩
    replace hC := hC.keep hb
    replace Iw := Iw.keep hb
    replace Ia := Ia.keep hb
    replace Ib := Ib.keep hb
    replace Io := Io.keep hb
    replace hB := hB.trans (hb.mono hB.size)
    clear hb
    have Ix := ox.ints
    clear ox
    go_wp2_with fail
    refine (cyclicFormS_any _ _ _ Iw (by omega)).mono ?_
    rintro e w31 ⟨vy, rfl, oy, hb⟩
    replace hC := hC.keep hb
    replace Iw := Iw.keep hb
    replace Ia := Ia.keep hb
    replace Ib := Ib.keep hb
    replace Io := Io.keep hb
    replace Ix := Ix.keep hb
    replace hB := hB.trans (hb.mono hB.size)
    clear hb
    have Iy := oy.ints
    clear oy
    have ncf := cycF_length lw
    have ncs := coreX_short lw
    go_wp2_with fail
    refine (sameInts_eq _ _ _ _ _ Ix Iy (by omega) rfl).mono ?_
    rintro e w32 ⟨rfl, hb⟩
    replace hC := hC.keep hb
    replace Iw := Iw.keep hb
    replace Ia := Ia.keep hb
    replace Ib := Ib.keep hb
    replace Io := Io.keep hb
    replace Ix := Ix.keep hb
    replace Iy := Iy.keep hb
    replace hB := hB.trans (hb.mono hB.size)
    clear hb
    clear Ix
    clear Iy
    go_wp2
    go_ret
    exact ⟨rfl, hB⟩
end Go.Proofs.Ytbghnllflfcfhaa
