/- The walk of the law FnTexts. Conditions: none. -/
import Derived.Test.YtbghnllflfcfhaaDrawV
import Derived.Test.YtbghnllflfcfhaaLawA
import Derived.Test.YtbghnllflfcfhaaWordE
import Derived.Test.YtbghnllflfcfhaaWordF
import Derived.Test.YtbghnllflfcfhaaWordG
import Derived.Test.YtbghnllflfcfhaaWordH
import Derived.Test.YtbghnllflfcfhaaWordC
import Derived.Test.YtbghnllflfcfhaaFreeC
namespace Go.Proofs.Ytbghnllflfcfhaa
open Go.RowKit

theorem letOf_of_chr {x : Int} (h : letOk x = true) : letOf (chr x).toNat = x := by
  have h := of_decide_eq_true h
  obtain rfl | rfl | rfl | rfl | rfl | rfl : x = 1 ∨ x = 2 ∨ x = 3 ∨ x = -1 ∨ x = -2 ∨ x = -3 := by omega
  all_goals decide
theorem chr_one {x : Int} (h : letOk x = true) : chr x ≠ 49 := by
  have h := of_decide_eq_true h
  obtain rfl | rfl | rfl | rfl | rfl | rfl : x = 1 ∨ x = 2 ∨ x = 3 ∨ x = -1 ∨ x = -2 ∨ x = -3 := by omega
  all_goals decide
theorem parse_fmt (r : Int) (l : List Int) : parseOk r (fmtW l) = isWord r l ∧ (isWord r l = true → parseW r (fmtW l) = l) := by
  have key : parseOk r (fmtW l) = isWord r l ∧ (isWord r l = true → parseL (fmtW l) = l) := by
    cases l with
    | nil => exact ⟨rfl, fun _ => rfl⟩
    | cons a l =>
      by_cases hb : (a :: l).all letOk = true
      · have e : fmtW (a :: l) = (a :: l).map chr := by simp only [fmtW, hb]
        have hall : ∀ x ∈ a :: l, letOk x = true := List.all_eq_true.1 hb
        have e2 : parseL ((a :: l).map chr) = a :: l := by
          have hne : ¬ (a :: l).map chr = [49] := fun h => by
            simp only [List.map_cons, List.cons.injEq] at h
            exact chr_one (hall a (by simp)) h.1
          unfold parseL
          rw [decide_eq_false hne]
          simp only [List.map_map]
          refine (List.map_congr_left fun x hx => ?_).trans (List.map_id _)
          exact letOf_of_chr (hall x hx)
        rw [e]
        exact ⟨by unfold parseOk; rw [e2]; rfl, fun _ => e2⟩
      · have hb' : (a :: l).all letOk = false := by simpa using hb
        have e : fmtW (a :: l) = [] := by simp only [fmtW, hb']
        have hf : isWord r (a :: l) = false := by
          by_cases h : isWord r (a :: l) = true
          · exfalso
            unfold isWord at h
            simp only [Bool.and_eq_true, decide_eq_true_eq] at h
            have hm := okFrom_mem h.2.2
            refine hb (List.all_eq_true.2 fun x hx => ?_)
            have := hm x hx
            exact decide_eq_true (by omega)
          · simpa using h
        rw [e, hf]
        exact ⟨rfl, fun h => by cases h⟩
  refine ⟨key.1, fun h => ?_⟩
  have h2 := key.2 h
  unfold parseW
  rw [key.1, h]
  exact h2
theorem text_cases (r : Int) (l : List Int) (hn : l.length ≤ 1000) : ∃ (S : ByteArray) (X : List Int) (B : Bool),
    Kept (∀ W v, Ints W v l → Calls Try.prog 44 #[v] W (RetV W (.string S))) ∧ Kept (∀ W v, Ints W v l → Calls Try.prog 46 #[v] W (RetV W (.string S))) ∧
    Kept (∀ W, Calls Try.prog 45 #[.int .i64 r, .string S] W (RetI2 W X (.bool B))) ∧ Kept (∀ W v, Ints W v l → Calls Try.prog 34 #[.int .i64 r, v] W (RetV W (.bool B))) ∧
    (B = false ∨ (B = true ∧ X = l)) := by
  have hp := parse_fmt r l
  have hsz : (⟨(fmtW l).toArray⟩ : ByteArray).size ≤ 1048576 := by have := fmtW_length l; simp [ByteArray.size]; omega
  refine ⟨⟨(fmtW l).toArray⟩, parseW r (fmtW l), isWord r l, ⟨fun W v h => formatWord_any v l W h (by omega)⟩, ⟨fun W v h => formatWordS_any v l W h (by omega)⟩, ⟨fun W => ?_⟩, ⟨fun W v h => isWordS_any r v l W h (by omega)⟩, ?_⟩
  · have h := parseWord_any r ⟨(fmtW l).toArray⟩ hsz W
    rw [show (⟨(fmtW l).toArray⟩ : ByteArray).data.toList = fmtW l from rfl, hp.1] at h
    exact h
  · by_cases h : isWord r l = true
    · exact .inr ⟨h, hp.2 h⟩
    · exact .inl (by simpa using h)
theorem cmp_cases {a b : List Int} (ha : Few a) (hb : Few b) : ∃ (K J : Int),
    Kept (∀ W v1 v2, Ints W v1 a → Ints W v2 b → Calls Try.prog 48 #[v1, v2] W (RetV W (.int .i64 K))) ∧ Kept (∀ W v1 v2, Ints W v1 a → Ints W v2 b → Calls Try.prog 52 #[v1, v2] W (RetV W (.int .i64 K))) ∧
    Kept (∀ W v1 v2, Ints W v1 a → Ints W v2 b → Calls Try.prog 48 #[v2, v1] W (RetV W (.int .i64 J))) ∧ ((K = -1 ∧ J = 1) ∨ (K = 0 ∧ J = 0) ∨ (K = 1 ∧ J = -1)) := by
  have na := ha.len
  have nb := hb.len
  refine ⟨cmpW a b, cmpW b a, ⟨fun W v1 v2 h1 h2 => compareWords_any v1 v2 a b W h1 h2 (by omega) (by omega)⟩, ⟨fun W v1 v2 h1 h2 => compareWordsS_any v1 v2 a b W h1 h2 (by omega) (by omega)⟩, ⟨fun W v1 v2 h1 h2 => compareWords_any v2 v1 b a W h2 h1 (by omega) (by omega)⟩, ?_⟩
  have h := cmpW_anti (few_small ha) (few_small hb)
  have hr : cmpW a b = -1 ∨ cmpW a b = 0 ∨ cmpW a b = 1 := by
    unfold cmpW
    split
    · left; rfl
    · right; right; rfl
    · exact cmpL_range a b
  omega

set_option maxHeartbeats 3200000 in
theorem walkFnTexts (w : World) (A : Option Addr) (len cap : Nat) (zs : List Int) (hz : IsRow .u8 w A len cap zs) :
    Calls Try.prog 6 #[.slice A len cap] w fun e w' => e = .returned (.bool true) ∧ Below w.heap.size w w' := by
  by_cases c0 : (len : Int) ≤ 1048576
  case neg =>
    go_enter Try.func6, Try.ntmps6
    go_wp2_with fail
    refine (big_over A len cap _ (by omega)).mono ?_
    rintro e w1 ⟨rfl, hb⟩
    go_wp2
    go_ret
    exact ⟨rfl, hb⟩
  have hl : len ≤ 1048576 := by omega
  have hC := codeArg_of_row hz
  have hcap := row_cap hz
  have hB := Below.refl w.heap.size w
  clear hz
  go_enter Try.func6, Try.ntmps6
  go_wp2_with fail
  refine (big_fits A len cap _ c0).mono ?_
  rintro e w1 ⟨rfl, hb⟩
  replace hC := hC.keep hb
  replace hB := hB.trans (hb.mono hB.size)
  clear hb
  go_wp2_with fail
  refine (drawIsWord_any A len cap _ hC hl).mono ?_
  rintro e w2 ⟨r, vw, lw, rfl, ow, hr, fw, hb⟩
  replace hC := hC.keep hb
  replace hB := hB.trans (hb.mono hB.size)
  clear hb
  have Iw := ow.ints
  have nw := fw.len
  clear ow hr
  obtain ⟨S, X, B, FI, FS, PI, WS, hcs⟩ := text_cases r lw (by omega)
  go_wp2_with fail
  refine (FI.out _ _ Iw).mono ?_
  rintro e w3 ⟨rfl, hb⟩
  replace hC := hC.keep hb
  replace Iw := Iw.keep hb
  replace hB := hB.trans (hb.mono hB.size)
  clear hb
  go_wp2_with fail
  refine (PI.out _).mono ?_
  rintro e w4 ⟨vx, rfl, ox, hb⟩
  replace hC := hC.keep hb
  replace Iw := Iw.keep hb
  replace hB := hB.trans (hb.mono hB.size)
  clear hb
  have Ix := ox.ints
  clear ox
  go_wp2_with fail
  refine (FS.out _ _ Iw).mono ?_
  rintro e w5 ⟨rfl, hb⟩
  replace hC := hC.keep hb
  replace Iw := Iw.keep hb
  replace Ix := Ix.keep hb
  replace hB := hB.trans (hb.mono hB.size)
  clear hb
  go_wp2_with fail
  refine (WS.out _ _ Iw).mono ?_
  rintro e w6 ⟨rfl, hb⟩
  replace hC := hC.keep hb
  replace Iw := Iw.keep hb
  replace Ix := Ix.keep hb
  replace hB := hB.trans (hb.mono hB.size)
  clear hb
  clear FI FS PI WS
  rcases hcs with rfl | ⟨rfl, rfl⟩
  · clear Ix Iw nw fw
    go_wp2_with fail
    refine (drawCompareWords_any A len cap _ hC hl).mono ?_
    rintro e w7 ⟨va, la, vb, lb, rfl, oa, ob, fa, fb, hb⟩
    replace hC := hC.keep hb
    replace hB := hB.trans (hb.mono hB.size)
    clear hb
    have Ia := oa.ints
    have Ib := ob.ints
    clear oa ob
    obtain ⟨K, J, CI, CS, CB, hcc⟩ := cmp_cases fa fb
    clear fa fb
    rcases hcc with ⟨rfl, rfl⟩ | ⟨rfl, rfl⟩ | ⟨rfl, rfl⟩
    · go_wp2_with fail
      refine (CI.out _ _ _ Ia Ib).mono ?_
      rintro e w8 ⟨rfl, hb⟩
      replace hC := hC.keep hb
      replace Ia := Ia.keep hb
      replace Ib := Ib.keep hb
      replace hB := hB.trans (hb.mono hB.size)
      clear hb
      go_wp2_with fail
      refine (drawParseWord_any A len cap _ hC hl).mono ?_
      rintro e w9 ⟨n, t, rfl, ht, hb⟩
      replace hC := hC.keep hb
      replace Ia := Ia.keep hb
      replace Ib := Ib.keep hb
      replace hB := hB.trans (hb.mono hB.size)
      clear hb
      go_wp2_with fail
      refine (parseWord_any n t (by omega) _).mono ?_
      rintro e w10 ⟨vx, rfl, ox, hb⟩
      replace hC := hC.keep hb
      replace Ia := Ia.keep hb
      replace Ib := Ib.keep hb
      replace hB := hB.trans (hb.mono hB.size)
      clear hb
      clear ox
      go_wp2_with fail
      refine (parseWordS_any n t (by omega) _).mono ?_
      rintro e w11 ⟨vy, rfl, oy, hb⟩
      replace hC := hC.keep hb
      replace Ia := Ia.keep hb
      replace Ib := Ib.keep hb
      replace hB := hB.trans (hb.mono hB.size)
      clear hb
      clear oy ht
      go_wp2_with fail
      refine (drawEqualWords_any A len cap _ hC hl).mono ?_
      rintro e w12 ⟨vu, lu, vv, lv, rfl, ou, ov, fu, fv, hb⟩
      replace hC := hC.keep hb
      replace Ia := Ia.keep hb
      replace Ib := Ib.keep hb
      replace hB := hB.trans (hb.mono hB.size)
      clear hb
      have Iu := ou.ints
      have Iv := ov.ints
      have nu := fu.len
      have nv := fv.len
      clear ou ov fu fv
      go_wp2_with fail
      refine (CS.out _ _ _ Ia Ib).mono ?_
      rintro e w13 ⟨rfl, hb⟩
      replace hC := hC.keep hb
      replace Ia := Ia.keep hb
      replace Ib := Ib.keep hb
      replace Iu := Iu.keep hb
      replace Iv := Iv.keep hb
      replace hB := hB.trans (hb.mono hB.size)
      clear hb
      go_wp2_with fail
      refine (CB.out _ _ _ Ia Ib).mono ?_
      rintro e w14 ⟨rfl, hb⟩
      replace hC := hC.keep hb
      replace Ia := Ia.keep hb
      replace Ib := Ib.keep hb
      replace Iu := Iu.keep hb
      replace Iv := Iv.keep hb
      replace hB := hB.trans (hb.mono hB.size)
      clear hb
      go_wp2_with fail
      refine (equalWords_any _ _ _ _ _ Iu Iv (by omega)).mono ?_
      rintro e w15 ⟨rfl, hb⟩
      replace hC := hC.keep hb
      replace Ia := Ia.keep hb
      replace Ib := Ib.keep hb
      replace Iu := Iu.keep hb
      replace Iv := Iv.keep hb
      replace hB := hB.trans (hb.mono hB.size)
      clear hb
      go_wp2_with fail
      refine (equalWordsS_any _ _ _ _ _ Iu Iv (by omega)).mono ?_
      rintro e w16 ⟨rfl, hb⟩
      replace hC := hC.keep hb
      replace Ia := Ia.keep hb
      replace Ib := Ib.keep hb
      replace Iu := Iu.keep hb
      replace Iv := Iv.keep hb
      replace hB := hB.trans (hb.mono hB.size)
      clear hb
      go_wp2
      go_ret
      exact ⟨rfl, hB⟩
    · go_wp2_with fail
      refine (CI.out _ _ _ Ia Ib).mono ?_
      rintro e w8 ⟨rfl, hb⟩
      replace hC := hC.keep hb
      replace Ia := Ia.keep hb
      replace Ib := Ib.keep hb
      replace hB := hB.trans (hb.mono hB.size)
      clear hb
      go_wp2_with fail
      refine (drawParseWord_any A len cap _ hC hl).mono ?_
      rintro e w9 ⟨n, t, rfl, ht, hb⟩
      replace hC := hC.keep hb
      replace Ia := Ia.keep hb
      replace Ib := Ib.keep hb
      replace hB := hB.trans (hb.mono hB.size)
      clear hb
      go_wp2_with fail
      refine (parseWord_any n t (by omega) _).mono ?_
      rintro e w10 ⟨vx, rfl, ox, hb⟩
      replace hC := hC.keep hb
      replace Ia := Ia.keep hb
      replace Ib := Ib.keep hb
      replace hB := hB.trans (hb.mono hB.size)
      clear hb
      clear ox
      go_wp2_with fail
      refine (parseWordS_any n t (by omega) _).mono ?_
      rintro e w11 ⟨vy, rfl, oy, hb⟩
      replace hC := hC.keep hb
      replace Ia := Ia.keep hb
      replace Ib := Ib.keep hb
      replace hB := hB.trans (hb.mono hB.size)
      clear hb
      clear oy ht
      go_wp2_with fail
      refine (drawEqualWords_any A len cap _ hC hl).mono ?_
      rintro e w12 ⟨vu, lu, vv, lv, rfl, ou, ov, fu, fv, hb⟩
      replace hC := hC.keep hb
      replace Ia := Ia.keep hb
      replace Ib := Ib.keep hb
      replace hB := hB.trans (hb.mono hB.size)
      clear hb
      have Iu := ou.ints
      have Iv := ov.ints
      have nu := fu.len
      have nv := fv.len
      clear ou ov fu fv
      go_wp2_with fail
      refine (CS.out _ _ _ Ia Ib).mono ?_
      rintro e w13 ⟨rfl, hb⟩
      replace hC := hC.keep hb
      replace Ia := Ia.keep hb
      replace Ib := Ib.keep hb
      replace Iu := Iu.keep hb
      replace Iv := Iv.keep hb
      replace hB := hB.trans (hb.mono hB.size)
      clear hb
      go_wp2_with fail
      refine (CB.out _ _ _ Ia Ib).mono ?_
      rintro e w14 ⟨rfl, hb⟩
      replace hC := hC.keep hb
      replace Ia := Ia.keep hb
      replace Ib := Ib.keep hb
      replace Iu := Iu.keep hb
      replace Iv := Iv.keep hb
      replace hB := hB.trans (hb.mono hB.size)
      clear hb
      go_wp2_with fail
      refine (equalWords_any _ _ _ _ _ Iu Iv (by omega)).mono ?_
      rintro e w15 ⟨rfl, hb⟩
      replace hC := hC.keep hb
      replace Ia := Ia.keep hb
      replace Ib := Ib.keep hb
      replace Iu := Iu.keep hb
      replace Iv := Iv.keep hb
      replace hB := hB.trans (hb.mono hB.size)
      clear hb
      go_wp2_with fail
      refine (equalWordsS_any _ _ _ _ _ Iu Iv (by omega)).mono ?_
      rintro e w16 ⟨rfl, hb⟩
      replace hC := hC.keep hb
      replace Ia := Ia.keep hb
      replace Ib := Ib.keep hb
      replace Iu := Iu.keep hb
      replace Iv := Iv.keep hb
      replace hB := hB.trans (hb.mono hB.size)
      clear hb
      go_wp2
      go_ret
      exact ⟨rfl, hB⟩
    · go_wp2_with fail
      refine (CI.out _ _ _ Ia Ib).mono ?_
      rintro e w8 ⟨rfl, hb⟩
      replace hC := hC.keep hb
      replace Ia := Ia.keep hb
      replace Ib := Ib.keep hb
      replace hB := hB.trans (hb.mono hB.size)
      clear hb
      go_wp2_with fail
      refine (drawParseWord_any A len cap _ hC hl).mono ?_
      rintro e w9 ⟨n, t, rfl, ht, hb⟩
      replace hC := hC.keep hb
      replace Ia := Ia.keep hb
      replace Ib := Ib.keep hb
      replace hB := hB.trans (hb.mono hB.size)
      clear hb
      go_wp2_with fail
      refine (parseWord_any n t (by omega) _).mono ?_
      rintro e w10 ⟨vx, rfl, ox, hb⟩
      replace hC := hC.keep hb
      replace Ia := Ia.keep hb
      replace Ib := Ib.keep hb
      replace hB := hB.trans (hb.mono hB.size)
      clear hb
      clear ox
      go_wp2_with fail
      refine (parseWordS_any n t (by omega) _).mono ?_
      rintro e w11 ⟨vy, rfl, oy, hb⟩
      replace hC := hC.keep hb
      replace Ia := Ia.keep hb
      replace Ib := Ib.keep hb
      replace hB := hB.trans (hb.mono hB.size)
      clear hb
      clear oy ht
      go_wp2_with fail
      refine (drawEqualWords_any A len cap _ hC hl).mono ?_
      rintro e w12 ⟨vu, lu, vv, lv, rfl, ou, ov, fu, fv, hb⟩
      replace hC := hC.keep hb
      replace Ia := Ia.keep hb
      replace Ib := Ib.keep hb
      replace hB := hB.trans (hb.mono hB.size)
      clear hb
      have Iu := ou.ints
      have Iv := ov.ints
      have nu := fu.len
      have nv := fv.len
      clear ou ov fu fv
      go_wp2_with fail
      refine (CS.out _ _ _ Ia Ib).mono ?_
      rintro e w13 ⟨rfl, hb⟩
      replace hC := hC.keep hb
      replace Ia := Ia.keep hb
      replace Ib := Ib.keep hb
      replace Iu := Iu.keep hb
      replace Iv := Iv.keep hb
      replace hB := hB.trans (hb.mono hB.size)
      clear hb
      go_wp2_with fail
      refine (CB.out _ _ _ Ia Ib).mono ?_
      rintro e w14 ⟨rfl, hb⟩
      replace hC := hC.keep hb
      replace Ia := Ia.keep hb
      replace Ib := Ib.keep hb
      replace Iu := Iu.keep hb
      replace Iv := Iv.keep hb
      replace hB := hB.trans (hb.mono hB.size)
      clear hb
      go_wp2_with fail
      refine (equalWords_any _ _ _ _ _ Iu Iv (by omega)).mono ?_
      rintro e w15 ⟨rfl, hb⟩
      replace hC := hC.keep hb
      replace Ia := Ia.keep hb
      replace Ib := Ib.keep hb
      replace Iu := Iu.keep hb
      replace Iv := Iv.keep hb
      replace hB := hB.trans (hb.mono hB.size)
      clear hb
      go_wp2_with fail
      refine (equalWordsS_any _ _ _ _ _ Iu Iv (by omega)).mono ?_
      rintro e w16 ⟨rfl, hb⟩
      replace hC := hC.keep hb
      replace Ia := Ia.keep hb
      replace Ib := Ib.keep hb
      replace Iu := Iu.keep hb
      replace Iv := Iv.keep hb
      replace hB := hB.trans (hb.mono hB.size)
      clear hb
      go_wp2
      go_ret
      exact ⟨rfl, hB⟩
  · go_wp2_with fail
    refine (sameInts_eq _ _ _ _ _ Ix Iw (by omega) rfl).mono ?_
    rintro e w7 ⟨rfl, hb⟩
    replace hC := hC.keep hb
    replace Iw := Iw.keep hb
    replace Ix := Ix.keep hb
    replace hB := hB.trans (hb.mono hB.size)
    clear hb
    clear Ix
    clear Iw
    clear nw fw
    go_wp2_with fail
    refine (drawCompareWords_any A len cap _ hC hl).mono ?_
    rintro e w8 ⟨va, la, vb, lb, rfl, oa, ob, fa, fb, hb⟩
    replace hC := hC.keep hb
    replace hB := hB.trans (hb.mono hB.size)
    clear hb
    have Ia := oa.ints
    have Ib := ob.ints
    clear oa ob
    obtain ⟨K, J, CI, CS, CB, hcc⟩ := cmp_cases fa fb
    clear fa fb
    rcases hcc with ⟨rfl, rfl⟩ | ⟨rfl, rfl⟩ | ⟨rfl, rfl⟩
    · go_wp2_with fail
      refine (CI.out _ _ _ Ia Ib).mono ?_
      rintro e w9 ⟨rfl, hb⟩
      replace hC := hC.keep hb
      replace Ia := Ia.keep hb
      replace Ib := Ib.keep hb
      replace hB := hB.trans (hb.mono hB.size)
      clear hb
      go_wp2_with fail
      refine (drawParseWord_any A len cap _ hC hl).mono ?_
      rintro e w10 ⟨n, t, rfl, ht, hb⟩
      replace hC := hC.keep hb
      replace Ia := Ia.keep hb
      replace Ib := Ib.keep hb
      replace hB := hB.trans (hb.mono hB.size)
      clear hb
      go_wp2_with fail
      refine (parseWord_any n t (by omega) _).mono ?_
      rintro e w11 ⟨vx, rfl, ox, hb⟩
      replace hC := hC.keep hb
      replace Ia := Ia.keep hb
      replace Ib := Ib.keep hb
      replace hB := hB.trans (hb.mono hB.size)
      clear hb
      clear ox
      go_wp2_with fail
      refine (parseWordS_any n t (by omega) _).mono ?_
      rintro e w12 ⟨vy, rfl, oy, hb⟩
      replace hC := hC.keep hb
      replace Ia := Ia.keep hb
      replace Ib := Ib.keep hb
      replace hB := hB.trans (hb.mono hB.size)
      clear hb
      clear oy ht
      go_wp2_with fail
      refine (drawEqualWords_any A len cap _ hC hl).mono ?_
      rintro e w13 ⟨vu, lu, vv, lv, rfl, ou, ov, fu, fv, hb⟩
      replace hC := hC.keep hb
      replace Ia := Ia.keep hb
      replace Ib := Ib.keep hb
      replace hB := hB.trans (hb.mono hB.size)
      clear hb
      have Iu := ou.ints
      have Iv := ov.ints
      have nu := fu.len
      have nv := fv.len
      clear ou ov fu fv
      go_wp2_with fail
      refine (CS.out _ _ _ Ia Ib).mono ?_
      rintro e w14 ⟨rfl, hb⟩
      replace hC := hC.keep hb
      replace Ia := Ia.keep hb
      replace Ib := Ib.keep hb
      replace Iu := Iu.keep hb
      replace Iv := Iv.keep hb
      replace hB := hB.trans (hb.mono hB.size)
      clear hb
      go_wp2_with fail
      refine (CB.out _ _ _ Ia Ib).mono ?_
      rintro e w15 ⟨rfl, hb⟩
      replace hC := hC.keep hb
      replace Ia := Ia.keep hb
      replace Ib := Ib.keep hb
      replace Iu := Iu.keep hb
      replace Iv := Iv.keep hb
      replace hB := hB.trans (hb.mono hB.size)
      clear hb
      go_wp2_with fail
      refine (equalWords_any _ _ _ _ _ Iu Iv (by omega)).mono ?_
      rintro e w16 ⟨rfl, hb⟩
      replace hC := hC.keep hb
      replace Ia := Ia.keep hb
      replace Ib := Ib.keep hb
      replace Iu := Iu.keep hb
      replace Iv := Iv.keep hb
      replace hB := hB.trans (hb.mono hB.size)
      clear hb
      go_wp2_with fail
      refine (equalWordsS_any _ _ _ _ _ Iu Iv (by omega)).mono ?_
      rintro e w17 ⟨rfl, hb⟩
      replace hC := hC.keep hb
      replace Ia := Ia.keep hb
      replace Ib := Ib.keep hb
      replace Iu := Iu.keep hb
      replace Iv := Iv.keep hb
      replace hB := hB.trans (hb.mono hB.size)
      clear hb
      go_wp2
      go_ret
      exact ⟨rfl, hB⟩
    · go_wp2_with fail
      refine (CI.out _ _ _ Ia Ib).mono ?_
      rintro e w9 ⟨rfl, hb⟩
      replace hC := hC.keep hb
      replace Ia := Ia.keep hb
      replace Ib := Ib.keep hb
      replace hB := hB.trans (hb.mono hB.size)
      clear hb
      go_wp2_with fail
      refine (drawParseWord_any A len cap _ hC hl).mono ?_
      rintro e w10 ⟨n, t, rfl, ht, hb⟩
      replace hC := hC.keep hb
      replace Ia := Ia.keep hb
      replace Ib := Ib.keep hb
      replace hB := hB.trans (hb.mono hB.size)
      clear hb
      go_wp2_with fail
      refine (parseWord_any n t (by omega) _).mono ?_
      rintro e w11 ⟨vx, rfl, ox, hb⟩
      replace hC := hC.keep hb
      replace Ia := Ia.keep hb
      replace Ib := Ib.keep hb
      replace hB := hB.trans (hb.mono hB.size)
      clear hb
      clear ox
      go_wp2_with fail
      refine (parseWordS_any n t (by omega) _).mono ?_
      rintro e w12 ⟨vy, rfl, oy, hb⟩
      replace hC := hC.keep hb
      replace Ia := Ia.keep hb
      replace Ib := Ib.keep hb
      replace hB := hB.trans (hb.mono hB.size)
      clear hb
      clear oy ht
      go_wp2_with fail
      refine (drawEqualWords_any A len cap _ hC hl).mono ?_
      rintro e w13 ⟨vu, lu, vv, lv, rfl, ou, ov, fu, fv, hb⟩
      replace hC := hC.keep hb
      replace Ia := Ia.keep hb
      replace Ib := Ib.keep hb
      replace hB := hB.trans (hb.mono hB.size)
      clear hb
      have Iu := ou.ints
      have Iv := ov.ints
      have nu := fu.len
      have nv := fv.len
      clear ou ov fu fv
      go_wp2_with fail
      refine (CS.out _ _ _ Ia Ib).mono ?_
      rintro e w14 ⟨rfl, hb⟩
      replace hC := hC.keep hb
      replace Ia := Ia.keep hb
      replace Ib := Ib.keep hb
      replace Iu := Iu.keep hb
      replace Iv := Iv.keep hb
      replace hB := hB.trans (hb.mono hB.size)
      clear hb
      go_wp2_with fail
      refine (CB.out _ _ _ Ia Ib).mono ?_
      rintro e w15 ⟨rfl, hb⟩
      replace hC := hC.keep hb
      replace Ia := Ia.keep hb
      replace Ib := Ib.keep hb
      replace Iu := Iu.keep hb
      replace Iv := Iv.keep hb
      replace hB := hB.trans (hb.mono hB.size)
      clear hb
      go_wp2_with fail
      refine (equalWords_any _ _ _ _ _ Iu Iv (by omega)).mono ?_
      rintro e w16 ⟨rfl, hb⟩
      replace hC := hC.keep hb
      replace Ia := Ia.keep hb
      replace Ib := Ib.keep hb
      replace Iu := Iu.keep hb
      replace Iv := Iv.keep hb
      replace hB := hB.trans (hb.mono hB.size)
      clear hb
      go_wp2_with fail
      refine (equalWordsS_any _ _ _ _ _ Iu Iv (by omega)).mono ?_
      rintro e w17 ⟨rfl, hb⟩
      replace hC := hC.keep hb
      replace Ia := Ia.keep hb
      replace Ib := Ib.keep hb
      replace Iu := Iu.keep hb
      replace Iv := Iv.keep hb
      replace hB := hB.trans (hb.mono hB.size)
      clear hb
      go_wp2
      go_ret
      exact ⟨rfl, hB⟩
    · go_wp2_with fail
      refine (CI.out _ _ _ Ia Ib).mono ?_
      rintro e w9 ⟨rfl, hb⟩
      replace hC := hC.keep hb
      replace Ia := Ia.keep hb
      replace Ib := Ib.keep hb
      replace hB := hB.trans (hb.mono hB.size)
      clear hb
      go_wp2_with fail
      refine (drawParseWord_any A len cap _ hC hl).mono ?_
      rintro e w10 ⟨n, t, rfl, ht, hb⟩
      replace hC := hC.keep hb
      replace Ia := Ia.keep hb
      replace Ib := Ib.keep hb
      replace hB := hB.trans (hb.mono hB.size)
      clear hb
      go_wp2_with fail
      refine (parseWord_any n t (by omega) _).mono ?_
      rintro e w11 ⟨vx, rfl, ox, hb⟩
      replace hC := hC.keep hb
      replace Ia := Ia.keep hb
      replace Ib := Ib.keep hb
      replace hB := hB.trans (hb.mono hB.size)
      clear hb
      clear ox
      go_wp2_with fail
      refine (parseWordS_any n t (by omega) _).mono ?_
      rintro e w12 ⟨vy, rfl, oy, hb⟩
      replace hC := hC.keep hb
      replace Ia := Ia.keep hb
      replace Ib := Ib.keep hb
      replace hB := hB.trans (hb.mono hB.size)
      clear hb
      clear oy ht
      go_wp2_with fail
      refine (drawEqualWords_any A len cap _ hC hl).mono ?_
      rintro e w13 ⟨vu, lu, vv, lv, rfl, ou, ov, fu, fv, hb⟩
      replace hC := hC.keep hb
      replace Ia := Ia.keep hb
      replace Ib := Ib.keep hb
      replace hB := hB.trans (hb.mono hB.size)
      clear hb
      have Iu := ou.ints
      have Iv := ov.ints
      have nu := fu.len
      have nv := fv.len
      clear ou ov fu fv
      go_wp2_with fail
      refine (CS.out _ _ _ Ia Ib).mono ?_
      rintro e w14 ⟨rfl, hb⟩
      replace hC := hC.keep hb
      replace Ia := Ia.keep hb
      replace Ib := Ib.keep hb
      replace Iu := Iu.keep hb
      replace Iv := Iv.keep hb
      replace hB := hB.trans (hb.mono hB.size)
      clear hb
      go_wp2_with fail
      refine (CB.out _ _ _ Ia Ib).mono ?_
      rintro e w15 ⟨rfl, hb⟩
      replace hC := hC.keep hb
      replace Ia := Ia.keep hb
      replace Ib := Ib.keep hb
      replace Iu := Iu.keep hb
      replace Iv := Iv.keep hb
      replace hB := hB.trans (hb.mono hB.size)
      clear hb
      go_wp2_with fail
      refine (equalWords_any _ _ _ _ _ Iu Iv (by omega)).mono ?_
      rintro e w16 ⟨rfl, hb⟩
      replace hC := hC.keep hb
      replace Ia := Ia.keep hb
      replace Ib := Ib.keep hb
      replace Iu := Iu.keep hb
      replace Iv := Iv.keep hb
      replace hB := hB.trans (hb.mono hB.size)
      clear hb
      go_wp2_with fail
      refine (equalWordsS_any _ _ _ _ _ Iu Iv (by omega)).mono ?_
      rintro e w17 ⟨rfl, hb⟩
      replace hC := hC.keep hb
      replace Ia := Ia.keep hb
      replace Ib := Ib.keep hb
      replace Iu := Iu.keep hb
      replace Iv := Iv.keep hb
      replace hB := hB.trans (hb.mono hB.size)
      clear hb
      go_wp2
      go_ret
      exact ⟨rfl, hB⟩
end Go.Proofs.Ytbghnllflfcfhaa
