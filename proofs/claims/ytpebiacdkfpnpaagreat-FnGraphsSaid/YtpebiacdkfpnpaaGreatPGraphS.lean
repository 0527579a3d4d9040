/- Contract of the reference's ParseGraph. Conditions: texts of at most 2^20 bytes. -/
import Derived.Test.YtpebiacdkfpnpaaGreatPGraph
namespace Go.Proofs.YtpebiacdkfpnpaaGreat
open Go.RowKit

set_option maxHeartbeats 3200000 in
theorem parseGraphS_any (s : ByteArray) (hs : s.size ≤ 1048576) (w : World) :
    Calls Tryz.prog 15 #[.string s] w (RetG2 w (pgR s.data.toList) (pgN s.data.toList) (pgL s.data.toList) (.bool (pgOk s.data.toList))) := by
  obtain ⟨S, hS⟩ : ∃ z, z = s.data.toList := ⟨_, rfl⟩
  obtain ⟨ts, hts⟩ : ∃ z, z = cutB 32 S := ⟨_, rfl⟩
  have hcut := fun W => l4Cut_any s 32 32 rfl W hs
  rw [← hS, ← hts] at hcut
  rw [← hS]
  have hsz : S.length = s.size := by rw [hS]; simp
  have hlen : ts.length ≤ 1048577 := by have := cutB_len 32 S; rw [← hts, hsz] at this; omega
  have hsum : (ts.map List.length).sum ≤ 1048576 := by have := cutB_sum 32 S; rw [← hts, hsz] at this; omega
  have hpos : 0 < ts.length := by rw [hts]; exact cutB_pos _ _
  have hword : ∀ k (hk : k < ts.length), ts[k].length ≤ 1048576 := fun k hk => by
    have := sum_mem (t := ts[k]) (ts := ts) (List.getElem_mem hk); omega
  have hat : ∀ k (hk : k < ts.length), wordAt S k = ts[k] := fun k hk => by
    unfold wordAt; rw [← hts, List.getD_eq_getElem?_getD, List.getElem?_eq_getElem hk]; rfl
  obtain ⟨t0, ht0⟩ : ∃ z, z = ts[0] := ⟨_, rfl⟩
  have hl0 : t0.length ≤ 1048576 := by rw [ht0]; exact hword 0 hpos
  obtain ⟨r, hr⟩ : ∃ z, z = rS S := ⟨_, rfl⟩
  have hnum0 := fun W => l4Num_any ⟨t0.toArray⟩ (by show t0.toArray.size ≤ _; simpa using hl0) W
  have hte : (⟨t0.toArray⟩ : ByteArray).data.toList = t0 := by simp
  have hr2 : numS t0 = r := by rw [hr, rS, hat 0 hpos, ht0]
  rw [hte, hr2] at hnum0
  have HC := Lib.hid hcut
  have HN0 := Lib.hid hnum0
  have HT0 := Lib.hid ht0
  have HAT := Lib.hid hat
  have HW := Lib.hid hword
  have HS := Lib.hid hS
  have HTS := Lib.hid hts
  have HR := Lib.hid hr
  clear hcut hnum0 ht0 hat hword hS hts hr hte hl0 hr2 hsum hsz
  go_enter Tryz.func15, Tryz.ntmps15
  go_wp2_with fail
  refine (HC.out _).mono ?_
  rintro e w1 ⟨vp, rfl, op, hb1⟩
  obtain ⟨gp, capp, rfl, hpo⟩ := op
  have c0 := strs_cell hpos hpo
  rw [← HT0.out] at c0
  have hp0 : (0 : Int) < (ts.length : Int) := by omega
  go_wp2_with fail
  refine (HN0.out _).mono ?_
  rintro e w2 ⟨rfl, hb2⟩
  have hb12 := hb1.trans (hb2.mono hb1.size)
  have hres := (Box.new w (.cells #[.int .i64 0, .int .i64 0, .slice none 0 0] 26 (0, 0))).keep hb12
  have hgp : w.heap.size < gp ∧ gp < w2.heap.size := by
    have h1 := (ownsRow_parts hpo).1
    have h2 := (ownsRow_parts (ownsRow_keep hpo hb2)).2.1
    simp only [World.alloc, Array.size_push] at h1
    omega
  have hpo2 := ownsRow_base (b' := w.heap.size) (ownsRow_keep hpo hb2) (by simp)
  have hst := PGSt.start r hres hpo2 (((Below.refl _ _).alloc (Nat.le_refl _) _).trans (hb12.mono (by simp)))
  obtain ⟨W, hW⟩ : ∃ W, W = w2.alloc (.cells #[.int .i64 r, .int .i64 0, .slice none 0 0] 26 (0, 0)) := ⟨_, rfl⟩
  rw [← hW] at hst
  have HWW := Lib.hid hW
  clear hW hpo2 hres hpo hb12 hb1 c0
  by_cases h1 : 1 < ts.length
  · have hI1 : (1 : Int) < (ts.length : Int) := by omega
    obtain ⟨t1, ht1⟩ : ∃ z, z = ts[1] := ⟨_, rfl⟩
    have hl1 : t1.length ≤ 1048576 := by rw [ht1]; exact HW.out 1 h1
    obtain ⟨n, hn⟩ : ∃ z, z = nS S := ⟨_, rfl⟩
    have hnum1 := fun W => l4Num_any ⟨t1.toArray⟩ (by show t1.toArray.size ≤ _; simpa using hl1) W
    have hte1 : (⟨t1.toArray⟩ : ByteArray).data.toList = t1 := by simp
    have hn2 : numS t1 = n := by
      have := HTS.out
      rw [hn, nS, decide_eq_true (by rw [← this]; exact h1), HAT.out 1 h1, ht1]
    rw [hte1, hn2] at hnum1
    have HN1 := Lib.hid hnum1
    have c1 := strs_cell h1 hst.words
    rw [← ht1, HWW.out] at c1
    have HN := Lib.hid hn
    clear hnum1 hte1 hn2 hl1 ht1 hn
    go_wp2_with fail
    refine (HN1.out _).mono ?_
    rintro e w3 ⟨rfl, hb3⟩
    replace hst := (HWW.out ▸ hst).keep hb3
    obtain ⟨q1, q2, q3⟩ := hst.box.cells
    have f2 := Box.froz hst.box 1
    replace hst := hst.setF 1 (.int .i64 n) r n rfl hgp
    go_wp2
    clear q1 q2 q3 f2 c1
    obtain ⟨kg, hkg⟩ : ∃ z, z = w2.heap.size := ⟨_, rfl⟩
    rw [← hkg] at hst hgp ⊢
    clear hkg
    go_loopw [6, 7] (fun i _ wr => ∃ (k : Nat) (A : Option Addr) (cap : Nat) (es : List Ed), 2 ≤ k ∧ (k = 2 ∨ k ≤ ts.length) ∧ es.length + 2 ≤ k ∧ i = .int .i64 k ∧ Kept (es = ((ts.take k).drop 2).map (readS [])) ∧ PGSt w wr kg gp capp ts r n A cap es) (fun i _ _ => ts.length - (intOf i).toNat)
    case atStart => exact ⟨2, none, 0, [], by omega, .inl rfl, by simp, rfl, ⟨by rw [List.drop_of_length_le (by simp; omega)]; rfl⟩, hst⟩
    case round =>
      obtain ⟨k, A, cap, es, hk2, hk, hel, rfl, hes, hst⟩ := hrel
      by_cases hlt : k < ts.length
      · have hkI : (k : Int) < (ts.length : Int) := by omega
        have c1 := strs_cell hlt hst.words
        obtain ⟨t, ht⟩ : ∃ z, z = ts[k] := ⟨_, rfl⟩
        have htl : t.length ≤ 1048576 := by rw [ht]; exact HW.out k hlt
        have hrd := fun W => l4Read_any ⟨t.toArray⟩ (by show t.toArray.size ≤ _; simpa using htl) W
        have hte : (⟨t.toArray⟩ : ByteArray).data.toList = t := by simp
        rw [hte] at hrd
        have hri := readS_i64 t []
        have hnext : Kept (es ++ [readS [] t] = ((ts.take (k + 1)).drop 2).map (readS [])) := ⟨by
          rw [hes.out, ht, take_get hlt, List.drop_append_of_le_length (by rw [List.length_take]; omega), List.map_append]; rfl⟩
        obtain ⟨⟨f, x, z⟩, hfx⟩ : ∃ e : Ed, e = readS [] t := ⟨_, rfl⟩
        rw [← hfx] at hrd hnext hri
        rw [← ht] at c1
        have HRD := Lib.hid hrd
        have hel2 : es.length ≤ 1048576 := by omega
        clear hrd hte htl ht hfx
        go_wp2_with fail
        refine (HRD.out _).mono ?_
        rintro e w4 ⟨rfl, hb4⟩
        have hst4 := hst.keep hb4
        obtain ⟨q1, q2, q3⟩ := hst4.box.cells
        have hkb : kg < w4.heap.size := hst4.box.lt
        have hkb2 : kg ≠ w4.heap.size := by omega
        have f3 := Box.froz hst4.box 2
        clear c1
        go_wp2_with (at_builtin; refine wpl_appV elemE rfl (.tmp 35) (.tmp 37) rfl rfl (ownsRow_keep hst4.own (((Below.refl _ _).alloc (Nat.le_refl _) _).alloc (by simp) _)) rfl (m := 1) (news := edC (f, x, z)) rfl (World.news_of_block (cs := #[.int .i64 f, .int .i64 x, .int .i64 z]) (Box.two _ _ _)) (by simp [edC, Value.oneCell']) (by omega) (by omega) (by have := hst4.below.size; simp; omega) ?_; intro g' cap' w5 hown5 hgrow5 hat5; have hst5 := hst4.push hri (((Below.refl _ _).alloc (Nat.le_refl _) _).alloc (by simp) _) hgp hown5 hgrow5 hat5; have b5 := (hst4.keep (((Below.refl _ _).alloc (Nat.le_refl _) (.cells #[.int .i64 f, .int .i64 x, .int .i64 z] 28 (0, 0))).alloc (by simp) (.cells #[.int .i64 f, .int .i64 x, .int .i64 z] 28 (0, 0)))).box.grown (v := .slice A es.length cap) hgrow5 (fun j hj => by have := hst4.far j hj; omega); obtain ⟨d1, d2, d3⟩ := b5.cells; have df := Box.froz b5 2)
        clear d1 d2 d3 df b5 q1 q2 q3 f3 hown5 hgrow5 hat5
        go_roundw
        case rel => exact ⟨k + 1, _, cap', es ++ [(f, x, z)], by omega, by omega, by simp; omega, by go_num, hnext, hst5⟩
        case measure => simp [intOf]; omega
      · have hfin : Kept (es = lS S) := ⟨by
          rw [hes.out, lS, ← HTS.out, List.take_of_length_le (by omega)]⟩
        have hkI : ¬ (k : Int) < (ts.length : Int) := by omega
        have hel2 : es.length ≤ 1048576 := by omega
        clear hes
        obtain ⟨q1, q2, q3⟩ := hst.box.cells
        obtain ⟨p1, p2, p3⟩ := hst.res.cells
        have f1 := Box.froz hst.res 0
        have f2 := Box.froz hst.res 1
        have f3 := Box.froz hst.res 2
        by_cases hS0 : S = []
        · have t1 : s.toList.isEmpty = true := by rw [ByteArray.toList_eq, ← HS.out, hS0]; rfl
          have hno := Lib.hid (pg_no (.inl hS0))
          clear hS0
          go_wp2
          refine bodyPost_ret (v := .tuple #[graphV 0 0 (.slice none 0 0), .bool false]) (by simp [results, Tryz.results15, go_sem, p1, p2, p3]) rfl ⟨_, by rw [hno.out.1, hno.out.2.1, hno.out.2.2.1], ?_, ?_⟩
          · rw [hno.out.2.2.2]; exact .inl ⟨rfl, rfl⟩
          · exact ((hst.below.setCell (Nat.le_refl _) _).setCell (Nat.le_refl _) _).setCell (Nat.le_refl _) _
        · have t1 : s.toList.isEmpty = false := by
            rw [ByteArray.toList_eq, ← HS.out]
            cases S with
            | nil => exact absurd rfl hS0
            | cons a b => rfl
          have hfmt := fun W (hb : Below wr.heap.size wr W) => formatGraphS_any r n _ es W (hst.ownN.edges.keep hb) (by omega)
          obtain ⟨F, hF⟩ : ∃ z, z = fmtG r n es := ⟨_, rfl⟩
          rw [← hF] at hfmt
          have HF := Lib.hid hfmt
          have HFF := Lib.hid hF
          have hkw : w.heap.size < kg := by omega
          clear hfmt hF
          go_wp2_with fail
          refine (HF.out _ (Below.refl _ _)).mono ?_
          rintro e w5 ⟨rfl, hb5⟩
          replace hst := hst.keep hb5
          clear q1 q2 q3 p1 p2 p3 f1 f2 f3
          obtain ⟨q1, q2, q3⟩ := hst.box.cells
          obtain ⟨p1, p2, p3⟩ := hst.res.cells
          have f1 := Box.froz hst.res 0
          have f2 := Box.froz hst.res 1
          have f3 := Box.froz hst.res 2
          by_cases hSF : F = S
          · have t2 : (F == s.toList) = true := by rw [ByteArray.toList_eq, ← HS.out]; exact beq_iff_eq.2 hSF
            have hyes := pg_yes hS0 (by rw [← HR.out, ← HN.out, ← hfin.out, ← HFF.out]; exact hSF)
            rw [← HR.out, ← HN.out, ← hfin.out] at hyes
            have hyes := Lib.hid hyes
            have hdone := hst.finish hkw (.int .i64 r) (.int .i64 n) (.slice A es.length cap)
            clear hSF
            go_wp2
            exact bodyPost_ret (v := .tuple #[graphV r n (.slice A es.length cap), .bool true]) (by simp [results, Tryz.results15, go_sem, p1, p2, p3]) rfl ⟨_, by rw [hyes.out.1, hyes.out.2.1, hyes.out.2.2.1], by rw [hyes.out.2.2.2]; exact hdone.1, hdone.2⟩
          · have t2 : (F == s.toList) = false := by rw [ByteArray.toList_eq, ← HS.out]; exact beq_eq_false_iff_ne.2 hSF
            have hno := Lib.hid (pg_no (.inr (by rw [← HR.out, ← HN.out, ← hfin.out, ← HFF.out]; exact hSF)))
            clear hSF
            go_wp2
            refine bodyPost_ret (v := .tuple #[graphV 0 0 (.slice none 0 0), .bool false]) (by simp [results, Tryz.results15, go_sem, p1, p2, p3]) rfl ⟨_, by rw [hno.out.1, hno.out.2.1, hno.out.2.2.1], ?_, ?_⟩
            · rw [hno.out.2.2.2]; exact .inl ⟨rfl, rfl⟩
            · exact ((hst.below.setCell (Nat.le_refl _) _).setCell (Nat.le_refl _) _).setCell (Nat.le_refl _) _
  · have hI1 : ¬ (1 : Int) < (ts.length : Int) := by omega
    obtain ⟨n, hn⟩ : ∃ z : Int, z = 0 := ⟨_, rfl⟩
    replace hst : PGSt w (w2.alloc (.cells #[.int .i64 r, .int .i64 0, .slice none 0 0] 26 (0, 0))) w2.heap.size gp capp ts r n none 0 [] := by rw [hn, ← HWW.out]; exact hst
    have HN : Hid (n = nS S) := Lib.hid (by rw [hn, nS, decide_eq_false (by rw [← HTS.out]; exact h1)])
    go_wp2
    clear hn
    obtain ⟨kg, hkg⟩ : ∃ z, z = w2.heap.size := ⟨_, rfl⟩
    rw [← hkg] at hst hgp ⊢
    clear hkg
    go_loopw [6, 7] (fun i _ wr => ∃ (k : Nat) (A : Option Addr) (cap : Nat) (es : List Ed), 2 ≤ k ∧ (k = 2 ∨ k ≤ ts.length) ∧ es.length + 2 ≤ k ∧ i = .int .i64 k ∧ Kept (es = ((ts.take k).drop 2).map (readS [])) ∧ PGSt w wr kg gp capp ts r n A cap es) (fun i _ _ => ts.length - (intOf i).toNat)
    case atStart => exact ⟨2, none, 0, [], by omega, .inl rfl, by simp, rfl, ⟨by rw [List.drop_of_length_le (by simp; omega)]; rfl⟩, hst⟩
    case round =>
      obtain ⟨k, A, cap, es, hk2, hk, hel, rfl, hes, hst⟩ := hrel
      by_cases hlt : k < ts.length
      · exfalso; omega
      · have hfin : Kept (es = lS S) := ⟨by
          rw [hes.out, lS, ← HTS.out, List.take_of_length_le (by omega)]⟩
        have hkI : ¬ (k : Int) < (ts.length : Int) := by omega
        have hel2 : es.length ≤ 1048576 := by omega
        clear hes
        obtain ⟨q1, q2, q3⟩ := hst.box.cells
        obtain ⟨p1, p2, p3⟩ := hst.res.cells
        have f1 := Box.froz hst.res 0
        have f2 := Box.froz hst.res 1
        have f3 := Box.froz hst.res 2
        by_cases hS0 : S = []
        · have t1 : s.toList.isEmpty = true := by rw [ByteArray.toList_eq, ← HS.out, hS0]; rfl
          have hno := Lib.hid (pg_no (.inl hS0))
          clear hS0
          go_wp2
          refine bodyPost_ret (v := .tuple #[graphV 0 0 (.slice none 0 0), .bool false]) (by simp [results, Tryz.results15, go_sem, p1, p2, p3]) rfl ⟨_, by rw [hno.out.1, hno.out.2.1, hno.out.2.2.1], ?_, ?_⟩
          · rw [hno.out.2.2.2]; exact .inl ⟨rfl, rfl⟩
          · exact ((hst.below.setCell (Nat.le_refl _) _).setCell (Nat.le_refl _) _).setCell (Nat.le_refl _) _
        · have t1 : s.toList.isEmpty = false := by
            rw [ByteArray.toList_eq, ← HS.out]
            cases S with
            | nil => exact absurd rfl hS0
            | cons a b => rfl
          have hfmt := fun W (hb : Below wr.heap.size wr W) => formatGraphS_any r n _ es W (hst.ownN.edges.keep hb) (by omega)
          obtain ⟨F, hF⟩ : ∃ z, z = fmtG r n es := ⟨_, rfl⟩
          rw [← hF] at hfmt
          have HF := Lib.hid hfmt
          have HFF := Lib.hid hF
          have hkw : w.heap.size < kg := by omega
          clear hfmt hF
          go_wp2_with fail
          refine (HF.out _ (Below.refl _ _)).mono ?_
          rintro e w5 ⟨rfl, hb5⟩
          replace hst := hst.keep hb5
          clear q1 q2 q3 p1 p2 p3 f1 f2 f3
          obtain ⟨q1, q2, q3⟩ := hst.box.cells
          obtain ⟨p1, p2, p3⟩ := hst.res.cells
          have f1 := Box.froz hst.res 0
          have f2 := Box.froz hst.res 1
          have f3 := Box.froz hst.res 2
          by_cases hSF : F = S
          · have t2 : (F == s.toList) = true := by rw [ByteArray.toList_eq, ← HS.out]; exact beq_iff_eq.2 hSF
            have hyes := pg_yes hS0 (by rw [← HR.out, ← HN.out, ← hfin.out, ← HFF.out]; exact hSF)
            rw [← HR.out, ← HN.out, ← hfin.out] at hyes
            have hyes := Lib.hid hyes
            have hdone := hst.finish hkw (.int .i64 r) (.int .i64 n) (.slice A es.length cap)
            clear hSF
            go_wp2
            exact bodyPost_ret (v := .tuple #[graphV r n (.slice A es.length cap), .bool true]) (by simp [results, Tryz.results15, go_sem, p1, p2, p3]) rfl ⟨_, by rw [hyes.out.1, hyes.out.2.1, hyes.out.2.2.1], by rw [hyes.out.2.2.2]; exact hdone.1, hdone.2⟩
          · have t2 : (F == s.toList) = false := by rw [ByteArray.toList_eq, ← HS.out]; exact beq_eq_false_iff_ne.2 hSF
            have hno := Lib.hid (pg_no (.inr (by rw [← HR.out, ← HN.out, ← hfin.out, ← HFF.out]; exact hSF)))
            clear hSF
            go_wp2
            refine bodyPost_ret (v := .tuple #[graphV 0 0 (.slice none 0 0), .bool false]) (by simp [results, Tryz.results15, go_sem, p1, p2, p3]) rfl ⟨_, by rw [hno.out.1, hno.out.2.1, hno.out.2.2.1], ?_, ?_⟩
            · rw [hno.out.2.2.2]; exact .inl ⟨rfl, rfl⟩
            · exact ((hst.below.setCell (Nat.le_refl _) _).setCell (Nat.le_refl _) _).setCell (Nat.le_refl _) _
end Go.Proofs.YtpebiacdkfpnpaaGreat
