/- The walk of the law FnWords. Conditions: none. -/
import Derived.Test.YtbghnllflfcfhaaLawA
import Derived.Test.YtbghnllflfcfhaaWordD
import Derived.Test.YtbghnllflfcfhaaWordF
namespace Go.Proofs.Ytbghnllflfcfhaa
open Go.RowKit

set_option maxHeartbeats 3200000 in
theorem walkFnWords (w : World) (A : Option Addr) (len cap : Nat) (zs : List Int) (hz : IsRow .u8 w A len cap zs) :
    Calls Try.prog 4 #[.slice A len cap] w fun e w' => e = .returned (.bool true) ∧ Below w.heap.size w w' := by
  by_cases c0 : (len : Int) ≤ 1048576
  case neg =>
    go_enter Try.func4, Try.ntmps4
    go_wp2_with fail
    refine (big_over A len cap _ (by omega)).mono ?_
    rintro e w1 ⟨rfl, hb⟩
    go_wp2
    go_ret
    exact ⟨rfl, hb⟩
  have hl : len ≤ 1048576 := by omega
  have hC := codeArg_of_row hz
  have hcap := row_cap hz
  have hB := Below.refl w.heap.size w
  clear hz
  go_enter Try.func4, Try.ntmps4
  go_wp2_with fail
  refine (big_fits A len cap _ c0).mono ?_
  rintro e w1 ⟨rfl, hb⟩
  replace hC := hC.keep hb
  replace hB := hB.trans (hb.mono hB.size)
  clear hb
  go_wp2_with fail
  refine (drawMultiplyWords_any A len cap _ hC hl).mono ?_
  rintro e w2 ⟨va, la, vb, lb, rfl, oa, ob, fa, fb, hb⟩
  replace hC := hC.keep hb
  replace hB := hB.trans (hb.mono hB.size)
  clear hb
  have Ia := oa.ints
  have Ib := ob.ints
  have na := fa.len
  have nb := fb.len
  clear oa ob
  go_wp2_with fail
  refine (drawInvertWord_any A (len / 2) _ _ (hC.less (by omega)) (by omega)).mono ?_
  rintro e w3 ⟨vz, lz, rfl, oz, fz, hb⟩
  replace hC := hC.keep hb
  replace Ia := Ia.keep hb
  replace Ib := Ib.keep hb
  replace hB := hB.trans (hb.mono hB.size)
  clear hb
  have Iz := oz.ints
  have nz := fz.len
  clear oz
  go_wp2_with fail
  refine (reduceLettersS_any _ _ _ Iz (by omega)).mono ?_
  rintro e w4 ⟨vc, rfl, oc, hb⟩
  replace hC := hC.keep hb
  replace Ia := Ia.keep hb
  replace Ib := Ib.keep hb
  replace Iz := Iz.keep hb
  replace hB := hB.trans (hb.mono hB.size)
  clear hb
  have Ic := oc.ints
  clear oc
  clear Iz
  have nc := red_length lz
  go_wp2_with fail
  refine (multiplyWords_any _ _ _ _ _ Ia Ib (by omega) (by omega)).mono ?_
  rintro e w5 ⟨vx, rfl, ox, hb⟩
  replace hC := hC.keep hb
  replace Ia := Ia.keep hb
  replace Ib := Ib.keep hb
  replace Ic := Ic.keep hb
  replace hB := hB.trans (hb.mono hB.size)
  clear hb
  have Ix := ox.ints
  clear ox
  go_wp2_with fail
  refine (multiplyWordsS_any _ _ _ _ _ Ia Ib (by omega) (by omega)).mono ?_
  rintro e w6 ⟨vy, rfl, oy, hb⟩
  replace hC := hC.keep hb
  replace Ia := Ia.keep hb
  replace Ib := Ib.keep hb
  replace Ic := Ic.keep hb
  replace Ix := Ix.keep hb
  replace hB := hB.trans (hb.mono hB.size)
  clear hb
  have Iy := oy.ints
  clear oy
  have nab := red_length (la ++ lb)
  simp only [List.length_append] at nab
  go_wp2_with fail
  refine (sameInts_eq _ _ _ _ _ Ix Iy (by omega) rfl).mono ?_
  rintro e w7 ⟨rfl, hb⟩
  replace hC := hC.keep hb
  replace Ia := Ia.keep hb
  replace Ib := Ib.keep hb
  replace Ic := Ic.keep hb
  replace Ix := Ix.keep hb
  replace Iy := Iy.keep hb
  replace hB := hB.trans (hb.mono hB.size)
  clear hb
  clear Ix
  clear Iy
  go_wp2_with fail
  refine (reduceLettersS_any _ _ _ Ia (by omega)).mono ?_
  rintro e w8 ⟨vp, rfl, op, hb⟩
  replace hC := hC.keep hb
  replace Ia := Ia.keep hb
  replace Ib := Ib.keep hb
  replace Ic := Ic.keep hb
  replace hB := hB.trans (hb.mono hB.size)
  clear hb
  have Ip := op.ints
  clear op
  clear Ia
  go_wp2_with fail
  refine (reduceLettersS_any _ _ _ Ib (by omega)).mono ?_
  rintro e w9 ⟨vq, rfl, oq, hb⟩
  replace hC := hC.keep hb
  replace Ib := Ib.keep hb
  replace Ic := Ic.keep hb
  replace Ip := Ip.keep hb
  replace hB := hB.trans (hb.mono hB.size)
  clear hb
  have Iq := oq.ints
  clear oq
  clear Ib
  have np := red_length la
  have nq := red_length lb
  go_wp2_with fail
  refine (multiplyWords_any _ _ _ _ _ Ip Iq (by omega) (by omega)).mono ?_
  rintro e w10 ⟨vx, rfl, ox, hb⟩
  replace hC := hC.keep hb
  replace Ic := Ic.keep hb
  replace Ip := Ip.keep hb
  replace Iq := Iq.keep hb
  replace hB := hB.trans (hb.mono hB.size)
  clear hb
  have Ix := ox.ints
  clear ox
  have npq := red_length (red la ++ red lb)
  simp only [List.length_append] at npq
  go_wp2_with fail
  refine (multiplyWords_any _ _ _ _ _ Ix Ic (by omega) (by omega)).mono ?_
  rintro e w11 ⟨vy, rfl, oy, hb⟩
  replace hC := hC.keep hb
  replace Ic := Ic.keep hb
  replace Ip := Ip.keep hb
  replace Iq := Iq.keep hb
  replace Ix := Ix.keep hb
  replace hB := hB.trans (hb.mono hB.size)
  clear hb
  have Iy := oy.ints
  clear oy
  clear Ix
  go_wp2_with fail
  refine (multiplyWords_any _ _ _ _ _ Iq Ic (by omega) (by omega)).mono ?_
  rintro e w12 ⟨vx, rfl, ox, hb⟩
  replace hC := hC.keep hb
  replace Ic := Ic.keep hb
  replace Ip := Ip.keep hb
  replace Iq := Iq.keep hb
  replace Iy := Iy.keep hb
  replace hB := hB.trans (hb.mono hB.size)
  clear hb
  have Ix := ox.ints
  clear ox
  have nqc := red_length (red lb ++ red lz)
  simp only [List.length_append] at nqc
  go_wp2_with fail
  refine (multiplyWords_any _ _ _ _ _ Ip Ix (by omega) (by omega)).mono ?_
  rintro e w13 ⟨vu, rfl, ou, hb⟩
  replace hC := hC.keep hb
  replace Ic := Ic.keep hb
  replace Ip := Ip.keep hb
  replace Iq := Iq.keep hb
  replace Iy := Iy.keep hb
  replace Ix := Ix.keep hb
  replace hB := hB.trans (hb.mono hB.size)
  clear hb
  have Iu := ou.ints
  clear ou
  clear Ix
  clear Ic
  have nl := red_length (red (red la ++ red lb) ++ red lz)
  simp only [List.length_append] at nl
  go_wp2_with fail
  refine (sameInts_eq _ _ _ _ _ Iy Iu (by omega) (assoc_red la lb lz)).mono ?_
  rintro e w14 ⟨rfl, hb⟩
  replace hC := hC.keep hb
  replace Ip := Ip.keep hb
  replace Iq := Iq.keep hb
  replace Iy := Iy.keep hb
  replace Iu := Iu.keep hb
  replace hB := hB.trans (hb.mono hB.size)
  clear hb
  clear Iy
  clear Iu
  go_wp2_with fail
  refine (multiplyWords_any _ _ _ _ _ Ip Iq (by omega) (by omega)).mono ?_
  rintro e w15 ⟨vx, rfl, ox, hb⟩
  replace hC := hC.keep hb
  replace Ip := Ip.keep hb
  replace Iq := Iq.keep hb
  replace hB := hB.trans (hb.mono hB.size)
  clear hb
  have Ix := ox.ints
  clear ox
  go_wp2_with fail
  refine (invertWord_any _ _ _ Ix (by omega)).mono ?_
  rintro e w16 ⟨vy, rfl, oy, hb⟩
  replace hC := hC.keep hb
  replace Ip := Ip.keep hb
  replace Iq := Iq.keep hb
  replace Ix := Ix.keep hb
  replace hB := hB.trans (hb.mono hB.size)
  clear hb
  have Iy := oy.ints
  clear oy
  clear Ix
  go_wp2_with fail
  refine (invertWord_any _ _ _ Iq (by omega)).mono ?_
  rintro e w17 ⟨vu, rfl, ou, hb⟩
  replace hC := hC.keep hb
  replace Ip := Ip.keep hb
  replace Iq := Iq.keep hb
  replace Iy := Iy.keep hb
  replace hB := hB.trans (hb.mono hB.size)
  clear hb
  have Iu := ou.ints
  clear ou
  go_wp2_with fail
  refine (invertWord_any _ _ _ Ip (by omega)).mono ?_
  rintro e w18 ⟨vt, rfl, ot, hb⟩
  replace hC := hC.keep hb
  replace Ip := Ip.keep hb
  replace Iq := Iq.keep hb
  replace Iy := Iy.keep hb
  replace Iu := Iu.keep hb
  replace hB := hB.trans (hb.mono hB.size)
  clear hb
  have It := ot.ints
  clear ot
  have nu := invW_length (red lb)
  have nt := invW_length (red la)
  have ny := invW_length (red (red la ++ red lb))
  have NU := Lib.hid nu
  have NT := Lib.hid nt
  have NY := Lib.hid ny
  clear nu nt ny
  go_wp2_with fail
  refine (multiplyWords_any _ _ _ _ _ Iu It (by have := NU.out; omega) (by have := NT.out; omega)).mono ?_
  rintro e w19 ⟨vx, rfl, ox, hb⟩
  replace hC := hC.keep hb
  replace Ip := Ip.keep hb
  replace Iq := Iq.keep hb
  replace Iy := Iy.keep hb
  replace Iu := Iu.keep hb
  replace It := It.keep hb
  replace hB := hB.trans (hb.mono hB.size)
  clear hb
  have Ix := ox.ints
  clear ox
  clear Iu
  clear It
  clear Ip
  clear Iq
  go_wp2_with fail
  refine (sameInts_eq _ _ _ _ _ Iy Ix (by have := NY.out; omega) (inv_product (few_small fa).red (few_small fb).red)).mono ?_
  rintro e w20 ⟨rfl, hb⟩
  replace hC := hC.keep hb
  replace Iy := Iy.keep hb
  replace Ix := Ix.keep hb
  replace hB := hB.trans (hb.mono hB.size)
  clear hb
  clear Iy
  clear Ix
  clear NU NT NY fa fb fz nl nqc npq np nq nab nc na nb nz
  go_wp2_with fail
  refine (drawPowerWord_any A len cap _ hC hl).mono ?_
  rintro e w21 ⟨va, la, k, rfl, oa, hk, fa, hb⟩
  replace hC := hC.keep hb
  replace hB := hB.trans (hb.mono hB.size)
  clear hb
  have Ia := oa.ints
  have na := fa.len
  have HK := Lib.hid hk
  clear oa hk
  go_wp2_with fail
  refine (powerWord_any _ _ k _ Ia (by omega)).mono ?_
  rintro e w22 ⟨vx, rfl, ox, hb⟩
  replace hC := hC.keep hb
  replace Ia := Ia.keep hb
  replace hB := hB.trans (hb.mono hB.size)
  clear hb
  have Ix := ox.ints
  clear ox
  go_wp2_with fail
  refine (powerWordS_any _ _ k _ Ia (by have := HK.out; unfold I64; omega) (by omega)).mono ?_
  rintro e w23 ⟨vy, rfl, oy, hb⟩
  replace hC := hC.keep hb
  replace Ia := Ia.keep hb
  replace Ix := Ix.keep hb
  replace hB := hB.trans (hb.mono hB.size)
  clear hb
  have Iy := oy.ints
  clear oy
  clear Ia
  have np := powW_length la k
  go_wp2_with fail
  refine (sameInts_eq _ _ _ _ _ Ix Iy (by omega) rfl).mono ?_
  rintro e w24 ⟨rfl, hb⟩
  replace hC := hC.keep hb
  replace Ix := Ix.keep hb
  replace Iy := Iy.keep hb
  replace hB := hB.trans (hb.mono hB.size)
  clear hb
  clear Ix
  clear Iy
  clear np na fa HK
  go_wp2_with fail
  refine (drawCommutatorOf_any A len cap _ hC hl).mono ?_
  rintro e w25 ⟨va, la, vb, lb, rfl, oa, ob, fa, fb, hb⟩
  replace hC := hC.keep hb
  replace hB := hB.trans (hb.mono hB.size)
  clear hb
  have Ia := oa.ints
  have Ib := ob.ints
  have na := fa.len
  have nb := fb.len
  clear oa ob
  go_wp2_with fail
  refine (drawConjugateWord_any A len cap _ hC hl).mono ?_
  rintro e w26 ⟨vc, lc, vd, ld, rfl, oc, od, fc, fd, hb⟩
  replace hC := hC.keep hb
  replace Ia := Ia.keep hb
  replace Ib := Ib.keep hb
  replace hB := hB.trans (hb.mono hB.size)
  clear hb
  have Ic := oc.ints
  have Id := od.ints
  have nc := fc.len
  have nd := fd.len
  clear oc od
  go_wp2_with fail
  refine (drawIsWord_any A len cap _ hC hl).mono ?_
  rintro e w27 ⟨r, vz, lz, rfl, oz, hr, fz, hb⟩
  replace hC := hC.keep hb
  replace Ia := Ia.keep hb
  replace Ib := Ib.keep hb
  replace Ic := Ic.keep hb
  replace Id := Id.keep hb
  replace hB := hB.trans (hb.mono hB.size)
  clear hb
  have Iz := oz.ints
  have nz := fz.len
  clear oz hr
  go_wp2_with fail
  refine (drawReduceLetters_any A len cap _ hC hl).mono ?_
  rintro e w28 ⟨vr, lr, rfl, or, fr, hb⟩
  replace hC := hC.keep hb
  replace Ia := Ia.keep hb
  replace Ib := Ib.keep hb
  replace Ic := Ic.keep hb
  replace Id := Id.keep hb
  replace Iz := Iz.keep hb
  replace hB := hB.trans (hb.mono hB.size)
  clear hb
  have Ir := or.ints
  have nr := fr.len
  clear or
  go_wp2_with fail
  refine (commutatorOf_any _ _ _ _ _ Ia Ib (by omega) (by omega)).mono ?_
  rintro e w29 ⟨vx, rfl, ox, hb⟩
  replace hC := hC.keep hb
  replace Ia := Ia.keep hb
  replace Ib := Ib.keep hb
  replace Ic := Ic.keep hb
  replace Id := Id.keep hb
  replace Iz := Iz.keep hb
  replace Ir := Ir.keep hb
  replace hB := hB.trans (hb.mono hB.size)
  clear hb
  have Ix := ox.ints
  clear ox
  go_wp2_with fail
  refine (commutatorOfS_any _ _ _ _ _ Ia Ib (by omega) (by omega)).mono ?_
  rintro e w30 ⟨vy, rfl, oy, hb⟩
  replace hC := hC.keep hb
  replace Ia := Ia.keep hb
  replace Ib := Ib.keep hb
  replace Ic := Ic.keep hb
  replace Id := Id.keep hb
  replace Iz := Iz.keep hb
  replace Ir := Ir.keep hb
  replace Ix := Ix.keep hb
  replace hB := hB.trans (hb.mono hB.size)
  clear hb
  have Iy := oy.ints
  clear oy
  have nx := red_length (la ++ lb ++ invW la ++ invW lb)
  simp only [List.length_append, invW_length] at nx
  go_wp2_with fail
  refine (sameInts_eq _ _ _ _ _ Ix Iy (by omega) rfl).mono ?_
  rintro e w31 ⟨rfl, hb⟩
  replace hC := hC.keep hb
  replace Ia := Ia.keep hb
  replace Ib := Ib.keep hb
  replace Ic := Ic.keep hb
  replace Id := Id.keep hb
  replace Iz := Iz.keep hb
  replace Ir := Ir.keep hb
  replace Ix := Ix.keep hb
  replace Iy := Iy.keep hb
  replace hB := hB.trans (hb.mono hB.size)
  clear hb
  clear Ix
  clear Iy
  go_wp2_with fail
  refine (conjugateWord_any _ _ _ _ _ Ic Id (by omega) (by omega)).mono ?_
  rintro e w32 ⟨vx, rfl, ox, hb⟩
  replace hC := hC.keep hb
  replace Ia := Ia.keep hb
  replace Ib := Ib.keep hb
  replace Ic := Ic.keep hb
  replace Id := Id.keep hb
  replace Iz := Iz.keep hb
  replace Ir := Ir.keep hb
  replace hB := hB.trans (hb.mono hB.size)
  clear hb
  have Ix := ox.ints
  clear ox
  go_wp2_with fail
  refine (conjugateWordS_any _ _ _ _ _ Ic Id (by omega) (by omega)).mono ?_
  rintro e w33 ⟨vy, rfl, oy, hb⟩
  replace hC := hC.keep hb
  replace Ia := Ia.keep hb
  replace Ib := Ib.keep hb
  replace Ic := Ic.keep hb
  replace Id := Id.keep hb
  replace Iz := Iz.keep hb
  replace Ir := Ir.keep hb
  replace Ix := Ix.keep hb
  replace hB := hB.trans (hb.mono hB.size)
  clear hb
  have Iy := oy.ints
  clear oy
  have ny := red_length (invW ld ++ lc ++ ld)
  simp only [List.length_append, invW_length] at ny
  go_wp2_with fail
  refine (sameInts_eq _ _ _ _ _ Ix Iy (by omega) rfl).mono ?_
  rintro e w34 ⟨rfl, hb⟩
  replace hC := hC.keep hb
  replace Ia := Ia.keep hb
  replace Ib := Ib.keep hb
  replace Ic := Ic.keep hb
  replace Id := Id.keep hb
  replace Iz := Iz.keep hb
  replace Ir := Ir.keep hb
  replace Ix := Ix.keep hb
  replace Iy := Iy.keep hb
  replace hB := hB.trans (hb.mono hB.size)
  clear hb
  clear Ix
  clear Iy
  go_wp2_with fail
  refine (isWord_any r _ _ _ Iz (by omega)).mono ?_
  rintro e w35 ⟨rfl, hb⟩
  replace hC := hC.keep hb
  replace Ia := Ia.keep hb
  replace Ib := Ib.keep hb
  replace Ic := Ic.keep hb
  replace Id := Id.keep hb
  replace Iz := Iz.keep hb
  replace Ir := Ir.keep hb
  replace hB := hB.trans (hb.mono hB.size)
  clear hb
  go_wp2_with fail
  refine (isWordS_any r _ _ _ Iz (by omega)).mono ?_
  rintro e w36 ⟨rfl, hb⟩
  replace hC := hC.keep hb
  replace Ia := Ia.keep hb
  replace Ib := Ib.keep hb
  replace Ic := Ic.keep hb
  replace Id := Id.keep hb
  replace Iz := Iz.keep hb
  replace Ir := Ir.keep hb
  replace hB := hB.trans (hb.mono hB.size)
  clear hb
  have nq := red_length lr
  have nqq := red_length (red lr)
  go_wp2_with fail
  refine (reduceLetters_any _ _ _ Ir (by omega)).mono ?_
  rintro e w37 ⟨vx, rfl, ox, hb⟩
  replace hC := hC.keep hb
  replace Ia := Ia.keep hb
  replace Ib := Ib.keep hb
  replace Ic := Ic.keep hb
  replace Id := Id.keep hb
  replace Iz := Iz.keep hb
  replace Ir := Ir.keep hb
  replace hB := hB.trans (hb.mono hB.size)
  clear hb
  have Ix := ox.ints
  clear ox
  go_wp2_with fail
  refine (reduceLettersS_any _ _ _ Ir (by omega)).mono ?_
  rintro e w38 ⟨vy, rfl, oy, hb⟩
  replace hC := hC.keep hb
  replace Ia := Ia.keep hb
  replace Ib := Ib.keep hb
  replace Ic := Ic.keep hb
  replace Id := Id.keep hb
  replace Iz := Iz.keep hb
  replace Ir := Ir.keep hb
  replace Ix := Ix.keep hb
  replace hB := hB.trans (hb.mono hB.size)
  clear hb
  have Iy := oy.ints
  clear oy
  go_wp2_with fail
  refine (sameInts_eq _ _ _ _ _ Ix Iy (by omega) rfl).mono ?_
  rintro e w39 ⟨rfl, hb⟩
  replace hC := hC.keep hb
  replace Ia := Ia.keep hb
  replace Ib := Ib.keep hb
  replace Ic := Ic.keep hb
  replace Id := Id.keep hb
  replace Iz := Iz.keep hb
  replace Ir := Ir.keep hb
  replace Ix := Ix.keep hb
  replace Iy := Iy.keep hb
  replace hB := hB.trans (hb.mono hB.size)
  clear hb
  clear Ix
  clear Iy
  go_wp2_with fail
  refine (reduceLettersS_any _ _ _ Ir (by omega)).mono ?_
  rintro e w40 ⟨vx, rfl, ox, hb⟩
  replace hC := hC.keep hb
  replace Ia := Ia.keep hb
  replace Ib := Ib.keep hb
  replace Ic := Ic.keep hb
  replace Id := Id.keep hb
  replace Iz := Iz.keep hb
  replace Ir := Ir.keep hb
  replace hB := hB.trans (hb.mono hB.size)
  clear hb
  have Ix := ox.ints
  clear ox
  go_wp2_with fail
  refine (reduceLetters_any _ _ _ Ix (by omega)).mono ?_
  rintro e w41 ⟨vy, rfl, oy, hb⟩
  replace hC := hC.keep hb
  replace Ia := Ia.keep hb
  replace Ib := Ib.keep hb
  replace Ic := Ic.keep hb
  replace Id := Id.keep hb
  replace Iz := Iz.keep hb
  replace Ir := Ir.keep hb
  replace Ix := Ix.keep hb
  replace hB := hB.trans (hb.mono hB.size)
  clear hb
  have Iy := oy.ints
  clear oy
  clear Ix
  go_wp2_with fail
  refine (reduceLettersS_any _ _ _ Ir (by omega)).mono ?_
  rintro e w42 ⟨vx, rfl, ox, hb⟩
  replace hC := hC.keep hb
  replace Ia := Ia.keep hb
  replace Ib := Ib.keep hb
  replace Ic := Ic.keep hb
  replace Id := Id.keep hb
  replace Iz := Iz.keep hb
  replace Ir := Ir.keep hb
  replace Iy := Iy.keep hb
  replace hB := hB.trans (hb.mono hB.size)
  clear hb
  have Ix := ox.ints
  clear ox
  go_wp2_with fail
  refine (sameInts_eq _ _ _ _ _ Iy Ix (by omega) (red_red lr)).mono ?_
  rintro e w43 ⟨rfl, hb⟩
  replace hC := hC.keep hb
  replace Ia := Ia.keep hb
  replace Ib := Ib.keep hb
  replace Ic := Ic.keep hb
  replace Id := Id.keep hb
  replace Iz := Iz.keep hb
  replace Ir := Ir.keep hb
  replace Iy := Iy.keep hb
  replace Ix := Ix.keep hb
  replace hB := hB.trans (hb.mono hB.size)
  clear hb
  clear Iy
  clear Ix
  go_wp2
  go_ret
  exact ⟨rfl, hB⟩
end Go.Proofs.Ytbghnllflfcfhaa
