/- Contract of the program's ParseGraph. Conditions: texts of at most 2^20 bytes. -/
import Derived.Test.YtpebiacdkfpnpaaGreatPGraph
namespace Go.Proofs.YtpebiacdkfpnpaaGreat
open Go.RowKit

theorem readI_yes {s : ByteArray} {k : Nat} (hk : k < s.size) (h : ¬ letOf s[k].toNat = 0) : readI (s.data.toList.take k) (s.data.toList.drop k) = (parseIV (s.data.toList.take k), letOf s[k].toNat, parseIV (s.data.toList.drop (k + 1))) := by
  have hl : k < s.data.toList.length := by simpa using hk
  rw [List.drop_eq_getElem_cons hl]
  have e : s.data.toList[k] = s[k] := rfl
  rw [e, readI_cons_yes h]
theorem readI_no {s : ByteArray} {k : Nat} (hk : k < s.size) (h : letOf s[k].toNat = 0) : readI (s.data.toList.take k) (s.data.toList.drop k) = readI (s.data.toList.take (k + 1)) (s.data.toList.drop (k + 1)) := by
  have hl : k < s.data.toList.length := by simpa using hk
  rw [List.drop_eq_getElem_cons hl, take_snoc s k hk]
  have e : s.data.toList[k] = s[k] := rfl
  rw [e, readI_cons_no h]
set_option maxHeartbeats 3200000 in
theorem parseGraph_off (s : ByteArray) (hs : s.size ≤ 1048576) (w : World) (hbad : (cutB 32 s.data.toList).length < 2 ∨ 122 < (cutB 32 s.data.toList).length) :
    Calls Tryz.prog 12 #[.string s] w (RetG2 w (pgR s.data.toList) (pgN s.data.toList) (pgL s.data.toList) (.bool (pgOk s.data.toList))) := by
  have hno := Lib.hid (pgI_no (s := s.data.toList) (by rcases hbad with h | h; exact .inr (.inr (.inl h)); exact .inr (.inr (.inr h))))
  have hcut := fun W => cut_any s 32 32 rfl W hs
  obtain ⟨ts, hts⟩ : ∃ z, z = cutB 32 s.data.toList := ⟨_, rfl⟩
  rw [← hts] at hcut hbad
  obtain ⟨S, hS⟩ : ∃ z, z = s.data.toList := ⟨_, rfl⟩
  rw [← hS] at hno ⊢
  have HC := Lib.hid hcut
  have hlen : ts.length ≤ 1048577 := by have := cutB_len 32 s.data.toList; rw [← hts] at this; have : s.data.toList.length = s.size := by simp
                                        omega
  clear hcut hts hS
  rcases hbad with hbad | hbad
  · have hI : (ts.length : Int) < 2 := by omega
    go_enter Tryz.func12, Tryz.ntmps12
    go_wp2_with fail
    refine (HC.out _).mono ?_
    rintro e w1 ⟨vp, rfl, op, hb1⟩
    have hres := (Box.new w (.cells #[.int .i64 0, .int .i64 0, .slice none 0 0] 26 (0, 0))).keep hb1
    have hB := ((Below.refl w.heap.size w).alloc (Nat.le_refl _) (.cells #[.int .i64 0, .int .i64 0, .slice none 0 0] 26 (0, 0))).trans (hb1.mono (by simp))
    obtain ⟨gp, capp, rfl, hpo⟩ := op
    obtain ⟨p1, p2, p3⟩ := hres.cells
    have f1 := Box.froz hres 0
    have f2 := Box.froz hres 1
    have f3 := Box.froz hres 2
    clear hpo
    go_wp2
    refine bodyPost_ret (v := .tuple #[graphV 0 0 (.slice none 0 0), .bool false]) (by simp [results, Tryz.results12, go_sem, p1, p2, p3]) rfl ⟨_, by rw [hno.out.1, hno.out.2.1, hno.out.2.2.1], ?_, ?_⟩
    · rw [hno.out.2.2.2]; exact .inl ⟨rfl, rfl⟩
    · exact ((hB.setCell (Nat.le_refl _) _).setCell (Nat.le_refl _) _).setCell (Nat.le_refl _) _
  · have hI : ¬ (ts.length : Int) < 2 := by omega
    have hI2 : (122 : Int) < ts.length := by omega
    go_enter Tryz.func12, Tryz.ntmps12
    go_wp2_with fail
    refine (HC.out _).mono ?_
    rintro e w1 ⟨vp, rfl, op, hb1⟩
    have hres := (Box.new w (.cells #[.int .i64 0, .int .i64 0, .slice none 0 0] 26 (0, 0))).keep hb1
    have hB := ((Below.refl w.heap.size w).alloc (Nat.le_refl _) (.cells #[.int .i64 0, .int .i64 0, .slice none 0 0] 26 (0, 0))).trans (hb1.mono (by simp))
    obtain ⟨gp, capp, rfl, hpo⟩ := op
    obtain ⟨p1, p2, p3⟩ := hres.cells
    have f1 := Box.froz hres 0
    have f2 := Box.froz hres 1
    have f3 := Box.froz hres 2
    clear hpo
    go_wp2
    refine bodyPost_ret (v := .tuple #[graphV 0 0 (.slice none 0 0), .bool false]) (by simp [results, Tryz.results12, go_sem, p1, p2, p3]) rfl ⟨_, by rw [hno.out.1, hno.out.2.1, hno.out.2.2.1], ?_, ?_⟩
    · rw [hno.out.2.2.2]; exact .inl ⟨rfl, rfl⟩
    · exact ((hB.setCell (Nat.le_refl _) _).setCell (Nat.le_refl _) _).setCell (Nat.le_refl _) _
set_option maxHeartbeats 3200000 in
theorem parseGraph_on (s : ByteArray) (hs : s.size ≤ 1048576) (w : World) (h2 : 2 ≤ (cutB 32 s.data.toList).length) (h122 : (cutB 32 s.data.toList).length ≤ 122) :
    Calls Tryz.prog 12 #[.string s] w (RetG2 w (pgR s.data.toList) (pgN s.data.toList) (pgL s.data.toList) (.bool (pgOk s.data.toList))) := by
  obtain ⟨S, hS⟩ : ∃ z, z = s.data.toList := ⟨_, rfl⟩
  obtain ⟨ts, hts⟩ : ∃ z, z = cutB 32 S := ⟨_, rfl⟩
  have hcut := fun W => cut_any s 32 32 rfl W hs
  rw [← hS, ← hts] at hcut
  rw [← hS] at h2 h122 ⊢
  rw [← hts] at h2 h122
  have hsz : S.length = s.size := by rw [hS]; simp
  have hlen : ts.length ≤ 1048577 := by have := cutB_len 32 S; rw [← hts, hsz] at this; omega
  have hsum : (ts.map List.length).sum ≤ 1048576 := by have := cutB_sum 32 S; rw [← hts, hsz] at this; omega
  have hpos : 0 < ts.length := by rw [hts]; exact cutB_pos _ _
  have hword : ∀ k (hk : k < ts.length), ts[k].length ≤ 1048576 := fun k hk => by
    have := sum_mem (t := ts[k]) (ts := ts) (List.getElem_mem hk); omega
  have hat : ∀ k (hk : k < ts.length), wordAt S k = ts[k] := fun k hk => by
    unfold wordAt; rw [← hts, List.getD_eq_getElem?_getD, List.getElem?_eq_getElem hk]; rfl
  obtain ⟨t0, ht0⟩ : ∃ z, z = ts[0] := ⟨_, rfl⟩
  obtain ⟨t1, ht1⟩ : ∃ z, z = ts[1] := ⟨_, rfl⟩
  have hl0 : t0.length ≤ 1048576 := by rw [ht0]; exact hword 0 hpos
  have hl1 : t1.length ≤ 1048576 := by rw [ht1]; exact hword 1 (by omega)
  obtain ⟨r, hr⟩ : ∃ z, z = rI S := ⟨_, rfl⟩
  obtain ⟨n, hn⟩ : ∃ z, z = nI S := ⟨_, rfl⟩
  have hnum0 := fun W => parseInt_any ⟨t0.toArray⟩ (by show t0.toArray.size ≤ _; simpa using hl0) W
  have hnum1 := fun W => parseInt_any ⟨t1.toArray⟩ (by show t1.toArray.size ≤ _; simpa using hl1) W
  have hte : (⟨t0.toArray⟩ : ByteArray).data.toList = t0 := by simp
  have hte1 : (⟨t1.toArray⟩ : ByteArray).data.toList = t1 := by simp
  have hr2 : parseIV t0 = r := by rw [hr, rI, hat 0 hpos, ht0]
  have hn2 : parseIV t1 = n := by rw [hn, nI, hat 1 (by omega), ht1]
  obtain ⟨k0, hk0⟩ : ∃ z, z = parseIOk t0 := ⟨_, rfl⟩
  obtain ⟨k1, hk1⟩ : ∃ z, z = parseIOk t1 := ⟨_, rfl⟩
  rw [hte, hr2, ← hk0] at hnum0
  rw [hte1, hn2, ← hk1] at hnum1
  have HC := Lib.hid hcut
  have HN0 := Lib.hid hnum0
  have HN1 := Lib.hid hnum1
  have HT0 := Lib.hid ht0
  have HT1 := Lib.hid ht1
  have HW := Lib.hid hword
  have HS := Lib.hid hS
  have HTS := Lib.hid hts
  have HR := Lib.hid hr
  have HN := Lib.hid hn
  have hI : ¬ (ts.length : Int) < 2 := by omega
  have hI1 : (1 : Int) < (ts.length : Int) := by omega
  have hI2 : ¬ (122 : Int) < ts.length := by omega
  have hI3 : (2 : Int) ≤ (ts.length : Int) := by omega
  have hp0 : (0 : Int) < (ts.length : Int) := by omega
  clear hcut hnum0 ht0 hat hword hS hts hr hte hl0 hr2 hsum hsz hnum1 ht1 hn hte1 hl1 hn2 hk0 hk1
  go_enter Tryz.func12, Tryz.ntmps12
  go_wp2_with fail
  refine (HC.out _).mono ?_
  rintro e w1 ⟨vp, rfl, op, hb1⟩
  obtain ⟨gp, capp, rfl, hpo⟩ := op
  have hcap := (ownsRow_parts hpo).2.2.1
  have hcapI : (ts.length : Int) ≤ capp := by omega
  have hres := (Box.new w (.cells #[.int .i64 0, .int .i64 0, .slice none 0 0] 26 (0, 0))).keep hb1
  have hgp : w.heap.size < gp ∧ gp < w1.heap.size := by
    have h1 := (ownsRow_parts hpo).1
    have h2 := (ownsRow_parts hpo).2.1
    simp only [World.alloc, Array.size_push] at h1
    omega
  have hpo2 := ownsRow_base (b' := w.heap.size) hpo (by simp)
  have hst := PGSt.start 0 hres hpo2 (((Below.refl _ _).alloc (Nat.le_refl _) _).trans (hb1.mono (by simp)))
  have c0 := strs_cell hpos hst.words
  rw [← HT0.out] at c0
  clear hpo hpo2 hres hb1
  go_wp2_with fail
  refine (HN0.out _).mono ?_
  rintro e w2 ⟨rfl, hb2⟩
  replace hst := hst.keep hb2
  clear c0
  obtain ⟨q1, q2, q3⟩ := hst.box.cells
  have f1 := Box.froz hst.box 0
  replace hst := hst.setF 0 (.int .i64 r) r 0 rfl hgp
  have c1 := strs_cell (k := 1) (by omega) hst.words
  rw [← HT1.out] at c1
  go_wp2_with fail
  refine (HN1.out _).mono ?_
  rintro e w3 ⟨rfl, hb3⟩
  replace hst := hst.keep hb3
  clear c1 q1 q2 q3 f1
  obtain ⟨q1, q2, q3⟩ := hst.box.cells
  have f2 := Box.froz hst.box 1
  replace hst := hst.setF 1 (.int .i64 n) r n rfl hgp
  obtain ⟨kg, hkg⟩ : ∃ z, z = w1.heap.size := ⟨_, rfl⟩
  rw [← hkg] at hst hgp q1 q2 q3 f2 ⊢
  clear hkg
  by_cases hcap2 : capp = 2
  · have hl2 : ts.length = 2 := by omega
    go_wp2
    go_loopw [7, 8, 9, 41] (fun _ _ _ i wr => ∃ (k : Nat) (A : Option Addr) (cap : Nat) (es : List Ed), k + 2 ≤ ts.length ∧ es.length ≤ k ∧ i = .int .i64 k ∧ Kept (es = ((ts.drop 2).take k).map (readI [])) ∧ PGSt w wr kg gp capp ts r n A cap es) (fun _ _ _ i _ => ts.length - (intOf i).toNat)
    case atStart => exact ⟨0, none, 0, [], by omega, by simp, rfl, ⟨rfl⟩, hst⟩
    case round =>
      clear hst q1 q2 q3 f2
      obtain ⟨k, A, cap, es, hk, hel, rfl, hes, hst⟩ := hrel
      rename World => W0
      by_cases hlt : k + 2 < ts.length
      · exfalso; omega
      · have hfin : Kept (es = lI S) := ⟨by
          rw [hes.out, lI, ← HTS.out, List.take_of_length_le (by rw [List.length_drop]; omega)]⟩
        have hkN : ¬ k < ts.length - 2 := by omega
        have hel2 : es.length ≤ 1048576 := by omega
        clear hes
        obtain ⟨q1, q2, q3⟩ := hst.box.cells
        obtain ⟨p1, p2, p3⟩ := hst.res.cells
        have f1 := Box.froz hst.res 0
        have f2 := Box.froz hst.res 1
        have f3 := Box.froz hst.res 2
        have hkw : w.heap.size < kg := by omega
        by_cases hS0 : S = []
        · have t1 : s.toList.isEmpty = true := by rw [ByteArray.toList_eq, ← HS.out, hS0]; rfl
          have hno := Lib.hid (pgI_no (.inl hS0))
          clear hS0
          go_wp2
          refine bodyPost_ret (v := .tuple #[graphV 0 0 (.slice none 0 0), .bool false]) (by simp [results, Tryz.results12, go_sem, p1, p2, p3]) rfl ⟨_, by rw [hno.out.1, hno.out.2.1, hno.out.2.2.1], ?_, ?_⟩
          · rw [hno.out.2.2.2]; exact .inl ⟨rfl, rfl⟩
          · exact ((hst.below.setCell (Nat.le_refl _) _).setCell (Nat.le_refl _) _).setCell (Nat.le_refl _) _
        · have t1 : s.toList.isEmpty = false := by
            rw [ByteArray.toList_eq, ← HS.out]
            cases S with
            | nil => exact absurd rfl hS0
            | cons a b => rfl
          have hfmt := fun W (hb : Below W0.heap.size W0 W) => formatGraph_any r n _ es W (hst.ownN.edges.keep hb) (by omega)
          obtain ⟨F, hF⟩ : ∃ z, z = fmtG r n es := ⟨_, rfl⟩
          rw [← hF] at hfmt
          have HF := Lib.hid hfmt
          have HFF := Lib.hid hF
          clear hfmt hF
          go_wp2_with fail
          refine (HF.out _ (Below.refl _ _)).mono ?_
          rintro e w5 ⟨rfl, hb5⟩
          replace hst := hst.keep hb5
          clear q1 q2 q3 p1 p2 p3 f1 f2 f3
          obtain ⟨q1, q2, q3⟩ := hst.box.cells
          obtain ⟨p1, p2, p3⟩ := hst.res.cells
          have f1 := Box.froz hst.res 0
          have f2 := Box.froz hst.res 1
          have f3 := Box.froz hst.res 2
          by_cases hSF : F = S
          · have t2 : (F == s.toList) = true := by rw [ByteArray.toList_eq, ← HS.out]; exact beq_iff_eq.2 hSF
            have hyes := pgI_yes hS0 (by rw [← HR.out, ← HN.out, ← hfin.out, ← HFF.out]; exact hSF)
            rw [← HR.out, ← HN.out, ← hfin.out] at hyes
            have hyes := Lib.hid hyes
            have hdone := hst.finish hkw (.int .i64 r) (.int .i64 n) (.slice A es.length cap)
            clear hSF
            go_wp2
            exact bodyPost_ret (v := .tuple #[graphV r n (.slice A es.length cap), .bool true]) (by simp [results, Tryz.results12, go_sem, p1, p2, p3]) rfl ⟨_, by rw [hyes.out.1, hyes.out.2.1, hyes.out.2.2.1], by rw [hyes.out.2.2.2]; exact hdone.1, hdone.2⟩
          · have t2 : (F == s.toList) = false := by rw [ByteArray.toList_eq, ← HS.out]; exact beq_eq_false_iff_ne.2 hSF
            have hno := Lib.hid (pgI_no (.inr (.inl (by rw [← HR.out, ← HN.out, ← hfin.out, ← HFF.out]; exact hSF))))
            clear hSF
            go_wp2
            refine bodyPost_ret (v := .tuple #[graphV 0 0 (.slice none 0 0), .bool false]) (by simp [results, Tryz.results12, go_sem, p1, p2, p3]) rfl ⟨_, by rw [hno.out.1, hno.out.2.1, hno.out.2.2.1], ?_, ?_⟩
            · rw [hno.out.2.2.2]; exact .inl ⟨rfl, rfl⟩
            · exact ((hst.below.setCell (Nat.le_refl _) _).setCell (Nat.le_refl _) _).setCell (Nat.le_refl _) _
  · go_wp2
    go_loopw [7, 8, 9, 41] (fun _ _ _ i wr => ∃ (k : Nat) (A : Option Addr) (cap : Nat) (es : List Ed), k + 2 ≤ ts.length ∧ es.length ≤ k ∧ i = .int .i64 k ∧ Kept (es = ((ts.drop 2).take k).map (readI [])) ∧ PGSt w wr kg gp capp ts r n A cap es) (fun _ _ _ i _ => ts.length - (intOf i).toNat)
    case atStart => exact ⟨0, none, 0, [], by omega, by simp, rfl, ⟨rfl⟩, hst⟩
    case round =>
      clear hst q1 q2 q3 f2
      obtain ⟨k, A, cap, es, hk, hel, rfl, hes, hst⟩ := hrel
      rename World => W0
      by_cases hlt : k + 2 < ts.length
      · have hkN : k < ts.length - 2 := by omega
        have tkN : decide (k < ts.length - 2) = true := decide_eq_true hkN
        have c1 := strs_cell (k := 2 + k) (by omega) hst.words
        obtain ⟨t, ht⟩ : ∃ z, z = ts[2 + k] := ⟨_, rfl⟩
        have htl : t.length ≤ 1048576 := by rw [ht]; exact HW.out (2 + k) (by omega)
        obtain ⟨b, hb⟩ : ∃ z : ByteArray, z = ⟨t.toArray⟩ := ⟨_, rfl⟩
        have hbt : b.data.toList = t := by rw [hb]
        have hbs : b.size ≤ 1048576 := by rw [hb]; show t.toArray.size ≤ _; simpa using htl
        have hnext0 : Kept (es ++ [readI [] t] = ((ts.drop 2).take (k + 1)).map (readI [])) := ⟨by
          rw [hes.out, ht, take_get (by rw [List.length_drop]; omega), List.map_append, List.getElem_drop]; rfl⟩
        rw [← ht, ← hb] at c1
        have HNX := Lib.hid hnext0.out
        have HBT := Lib.hid hbt
        have hel2 : es.length ≤ 1048577 := by omega
        have hxe := Box.new W0 (.cells #[.int .i64 0, .int .i64 0, .int .i64 0] 28)
        have hBe : Below W0.heap.size W0 (W0.alloc (.cells #[.int .i64 0, .int .i64 0, .int .i64 0] 28)) := (Below.refl _ _).alloc (Nat.le_refl _) _
        clear htl ht hb hbt hnext0 hes
        go_wp2
        clear c1
        go_loopw [9] (fun i wx => ∃ j : Nat, j ≤ b.size ∧ i = .int .i64 j ∧ Kept (readI (b.data.toList.take j) (b.data.toList.drop j) = readI [] b.data.toList) ∧ Below W0.heap.size W0 wx ∧ Box wx W0.heap.size (.cells #[.int .i64 0, .int .i64 0, .int .i64 0] 28 (0, 0))) (fun i _ => b.size - (intOf i).toNat)
        case atStart => exact ⟨0, by omega, rfl, ⟨by simp⟩, hBe, hxe⟩
        case round =>
          clear hBe hxe
          obtain ⟨j, hj, rfl, hjk, hBx, hbx⟩ := hrel
          by_cases hjl : j < b.size
          · have hjI : (j : Int) < (b.size : Int) := by omega
            have hlt := letterOf_any b[j].toNat b[j].toNat_lt
            have hyes := readI_yes hjl
            have hno := readI_no hjl
            obtain ⟨x, hx⟩ : ∃ z, z = letOf b[j].toNat := ⟨_, rfl⟩
            rw [← hx] at hlt hyes hno
            have HL := Lib.hid hlt
            have HX := Lib.hid hx
            clear hlt hx
            by_cases hx0 : x = 0
            · have hr : Kept _ := ⟨(hno hx0).symm.trans hjk.out⟩
              clear hyes hno
              subst hx0
              go_wp2_with fail
              refine (HL.out _).mono ?_
              rintro e w4 ⟨rfl, rfl⟩
              go_wp2
              go_roundw
              case rel => exact ⟨j + 1, by omega, by go_num, hr, hBx, hbx⟩
              case measure => simp [intOf]; omega
            · have hr : Kept _ := ⟨(hyes hx0).symm.trans hjk.out⟩
              clear hyes hno hjk
              have tx : (x == 0) = false := by simpa using hx0
              obtain ⟨f, hf⟩ : ∃ z, z = parseIV (b.data.toList.take j) := ⟨_, rfl⟩
              obtain ⟨z, hz⟩ : ∃ z, z = parseIV (b.data.toList.drop (j + 1)) := ⟨_, rfl⟩
              have hi1 := parseIV_i64 (b.data.toList.take j)
              have hi2 := parseIV_i64 (b.data.toList.drop (j + 1))
              have hi3 := letOf_i64 b[j].toNat
              have htk : List.take (b.size - (j + 1)) (List.drop (j + 1) b.data.toList) = List.drop (j + 1) b.data.toList := List.take_of_length_le (by simp)
              have hp1 := fun W => parseInt_any (b.extract 0 j) (by simp [ByteArray.size_extract]; omega) W
              have hp2 := fun W => parseInt_any (b.extract (j + 1) b.size) (by simp [ByteArray.size_extract]; omega) W
              have he1 : (b.extract 0 j).data.toList = b.data.toList.take j := by simp
              have he2 : (b.extract (j + 1) b.size).data.toList = b.data.toList.drop (j + 1) := by rw [← htk]; simp
              rw [← HX.out] at hi3
              rw [← hf] at hi1
              rw [← hz] at hi2
              rw [he1, ← hf] at hp1
              rw [he2, ← hz] at hp2
              rw [← hf, ← hz, HBT.out] at hr
              have hnx : Kept (I64E (f, x, z)) := ⟨⟨hi1, hi3, hi2⟩⟩
              have hnext : Kept (es ++ [(f, x, z)] = ((ts.drop 2).take (k + 1)).map (readI [])) := ⟨by rw [hr.out]; exact HNX.out⟩
              obtain ⟨o1, ho1⟩ : ∃ o, o = parseIOk (b.data.toList.take j) := ⟨_, rfl⟩
              obtain ⟨o2, ho2⟩ : ∃ o, o = parseIOk (b.data.toList.drop (j + 1)) := ⟨_, rfl⟩
              rw [← ho1] at hp1
              rw [← ho2] at hp2
              have hw : IntKind.i64.wrap ((j : Int) + 1) = (j : Int) + 1 := IntWalk.i64_in _ (by omega)
              have ht1 : ((j : Int) + 1).toNat = j + 1 := by omega
              have hz0 : (0 : Int) ≤ (j : Int) + 1 := by omega
              have hz1 : (j : Int) + 1 ≤ (b.size : Int) := by omega
              have HP1 := Lib.hid hp1
              have HP2 := Lib.hid hp2
              clear hp1 hp2 he1 he2 hf hz hr htk hi1 hi2 hi3 hx0 ho1 ho2
              obtain ⟨e1, e2, e3⟩ := hbx.cells
              have g1 := Box.froz hbx 0
              go_wp2_with fail
              refine (HL.out _).mono ?_
              rintro e w4 ⟨rfl, rfl⟩
              go_wp2_with fail
              refine (HP1.out _).mono ?_
              rintro e w4 ⟨rfl, hb4⟩
              replace hBx := hBx.trans (hb4.mono hBx.size)
              replace hbx := hbx.keep hb4
              clear e1 e2 e3 g1
              have g1 := Box.froz hbx 0
              obtain ⟨e1, e2, e3⟩ := hbx.cells
              replace hBx := Below.setCell hBx (p := ⟨W0.heap.size, 0, none⟩) (Nat.le_refl _) (.int .i64 f)
              replace hbx : Box _ W0.heap.size (.cells #[.int .i64 f, .int .i64 0, .int .i64 0] 28 (0, 0)) := hbx.put (i := 0) (.int .i64 f)
              go_wp2_with fail
              refine (HL.out _).mono ?_
              rintro e w5 ⟨rfl, hw5⟩
              subst hw5
              have g2 := Box.froz hbx 1
              clear e1 e2 e3
              obtain ⟨e1, e2, e3⟩ := hbx.cells
              replace hBx := Below.setCell hBx (p := ⟨W0.heap.size, 1, none⟩) (Nat.le_refl _) (.int .i64 x)
              replace hbx : Box _ W0.heap.size (.cells #[.int .i64 f, .int .i64 x, .int .i64 0] 28 (0, 0)) := hbx.put (i := 1) (.int .i64 x)
              go_wp2_with fail
              refine (HP2.out _).mono ?_
              rintro e w5 ⟨rfl, hb5⟩
              replace hBx := hBx.trans (hb5.mono hBx.size)
              replace hbx := hbx.keep hb5
              clear e1 e2 e3 g1 g2
              have g3 := Box.froz hbx 2
              obtain ⟨e1, e2, e3⟩ := hbx.cells
              have hB5 := Below.setCell hBx (p := ⟨W0.heap.size, 2, none⟩) (Nat.le_refl _) (.int .i64 z)
              have hbx5 : Box _ W0.heap.size (.cells #[.int .i64 f, .int .i64 x, .int .i64 z] 28 (0, 0)) := hbx.put (i := 2) (.int .i64 z)
              have hst4 := hst.keep hB5
              obtain ⟨e1, e2, e3⟩ := hbx5.cells
              obtain ⟨q1, q2, q3⟩ := hst4.box.cells
              have hkb : kg < (w5.setCell ⟨W0.heap.size, 2, none⟩ (.int .i64 z)).heap.size := hst4.box.lt
              have hkb2 : kg ≠ (w5.setCell ⟨W0.heap.size, 2, none⟩ (.int .i64 z)).heap.size := by omega
              try simp only [World.size_setCell] at hkb hkb2
              have f3 := Box.froz hst4.box 2
              go_wp2_with (at_builtin; refine wpl_appV elemE rfl (.tmp 80) (.tmp 82) rfl rfl (ownsRow_keep hst4.own ((Below.refl _ _).alloc (Nat.le_refl _) _)) rfl (m := 1) (news := edC (f, x, z)) rfl (World.news_of_block (cs := #[.int .i64 f, .int .i64 x, .int .i64 z]) (Box.at_ _ (by simp))) (by simp [edC, Value.oneCell']) (by omega) (by omega) (by have := hst4.below.size; simp; omega) ?_; intro g' cap' w6 hown6 hgrow6 hat6; have hst6 := hst4.push hnx.out ((Below.refl _ _).alloc (Nat.le_refl _) _) hgp hown6 hgrow6 hat6; have b6 := (hst4.keep ((Below.refl _ _).alloc (Nat.le_refl _) (.cells #[.int .i64 f, .int .i64 x, .int .i64 z] 28 (0, 0)))).box.grown (v := .slice A es.length cap) hgrow6 (fun j hj => by have := hst4.far j hj; omega); obtain ⟨d1, d2, d3⟩ := b6.cells; have df := Box.froz b6 2)
              clear d1 d2 d3 df b6 q1 q2 q3 f3 hown6 hgrow6 hat6 e1 e2 e3
              go_roundw
              case rel => exact ⟨k + 1, _, cap', es ++ [(f, x, z)], by omega, by simp; omega, by go_num, hnext, hst6⟩
              case measure => simp [intOf]; omega
          · obtain rfl : j = b.size := by omega
            have hr : Kept ((0, 0, 0) = readI [] b.data.toList) := ⟨by rw [← hjk.out, List.drop_of_length_le (by simp)]; rfl⟩
            rw [HBT.out] at hr
            have hnx : Kept (I64E (0, 0, 0)) := ⟨by refine ⟨⟨?_, ?_⟩, ⟨?_, ?_⟩, ?_, ?_⟩ <;> decide⟩
            have hnext : Kept (es ++ [(0, 0, 0)] = ((ts.drop 2).take (k + 1)).map (readI [])) := ⟨by rw [hr.out]; exact HNX.out⟩
            have hB5 := hBx
            have hbx5 := hbx
            clear hjk hr
            have hst4 := hst.keep hB5
            obtain ⟨e1, e2, e3⟩ := hbx5.cells
            obtain ⟨q1, q2, q3⟩ := hst4.box.cells
            have hkb : kg < wr.heap.size := hst4.box.lt
            have hkb2 : kg ≠ wr.heap.size := by omega
            try simp only [World.size_setCell] at hkb hkb2
            have f3 := Box.froz hst4.box 2
            go_wp2_with (at_builtin; refine wpl_appV elemE rfl (.tmp 80) (.tmp 82) rfl rfl (ownsRow_keep hst4.own ((Below.refl _ _).alloc (Nat.le_refl _) _)) rfl (m := 1) (news := edC (0, 0, 0)) rfl (World.news_of_block (cs := #[.int .i64 0, .int .i64 0, .int .i64 0]) (Box.at_ _ (by simp))) (by simp [edC, Value.oneCell']) (by omega) (by omega) (by have := hst4.below.size; simp; omega) ?_; intro g' cap' w6 hown6 hgrow6 hat6; have hst6 := hst4.push hnx.out ((Below.refl _ _).alloc (Nat.le_refl _) _) hgp hown6 hgrow6 hat6; have b6 := (hst4.keep ((Below.refl _ _).alloc (Nat.le_refl _) (.cells #[.int .i64 0, .int .i64 0, .int .i64 0] 28 (0, 0)))).box.grown (v := .slice A es.length cap) hgrow6 (fun j hj => by have := hst4.far j hj; omega); obtain ⟨d1, d2, d3⟩ := b6.cells; have df := Box.froz b6 2)
            clear d1 d2 d3 df b6 q1 q2 q3 f3 hown6 hgrow6 hat6 e1 e2 e3
            go_roundw
            case rel => exact ⟨k + 1, _, cap', es ++ [(0, 0, 0)], by omega, by simp; omega, by go_num, hnext, hst6⟩
            case measure => simp [intOf]; omega
      · have hfin : Kept (es = lI S) := ⟨by
          rw [hes.out, lI, ← HTS.out, List.take_of_length_le (by rw [List.length_drop]; omega)]⟩
        have hkN : ¬ k < ts.length - 2 := by omega
        have hel2 : es.length ≤ 1048576 := by omega
        clear hes
        obtain ⟨q1, q2, q3⟩ := hst.box.cells
        obtain ⟨p1, p2, p3⟩ := hst.res.cells
        have f1 := Box.froz hst.res 0
        have f2 := Box.froz hst.res 1
        have f3 := Box.froz hst.res 2
        have hkw : w.heap.size < kg := by omega
        by_cases hS0 : S = []
        · have t1 : s.toList.isEmpty = true := by rw [ByteArray.toList_eq, ← HS.out, hS0]; rfl
          have hno := Lib.hid (pgI_no (.inl hS0))
          clear hS0
          go_wp2
          refine bodyPost_ret (v := .tuple #[graphV 0 0 (.slice none 0 0), .bool false]) (by simp [results, Tryz.results12, go_sem, p1, p2, p3]) rfl ⟨_, by rw [hno.out.1, hno.out.2.1, hno.out.2.2.1], ?_, ?_⟩
          · rw [hno.out.2.2.2]; exact .inl ⟨rfl, rfl⟩
          · exact ((hst.below.setCell (Nat.le_refl _) _).setCell (Nat.le_refl _) _).setCell (Nat.le_refl _) _
        · have t1 : s.toList.isEmpty = false := by
            rw [ByteArray.toList_eq, ← HS.out]
            cases S with
            | nil => exact absurd rfl hS0
            | cons a b => rfl
          have hfmt := fun W (hb : Below W0.heap.size W0 W) => formatGraph_any r n _ es W (hst.ownN.edges.keep hb) (by omega)
          obtain ⟨F, hF⟩ : ∃ z, z = fmtG r n es := ⟨_, rfl⟩
          rw [← hF] at hfmt
          have HF := Lib.hid hfmt
          have HFF := Lib.hid hF
          clear hfmt hF
          go_wp2_with fail
          refine (HF.out _ (Below.refl _ _)).mono ?_
          rintro e w5 ⟨rfl, hb5⟩
          replace hst := hst.keep hb5
          clear q1 q2 q3 p1 p2 p3 f1 f2 f3
          obtain ⟨q1, q2, q3⟩ := hst.box.cells
          obtain ⟨p1, p2, p3⟩ := hst.res.cells
          have f1 := Box.froz hst.res 0
          have f2 := Box.froz hst.res 1
          have f3 := Box.froz hst.res 2
          by_cases hSF : F = S
          · have t2 : (F == s.toList) = true := by rw [ByteArray.toList_eq, ← HS.out]; exact beq_iff_eq.2 hSF
            have hyes := pgI_yes hS0 (by rw [← HR.out, ← HN.out, ← hfin.out, ← HFF.out]; exact hSF)
            rw [← HR.out, ← HN.out, ← hfin.out] at hyes
            have hyes := Lib.hid hyes
            have hdone := hst.finish hkw (.int .i64 r) (.int .i64 n) (.slice A es.length cap)
            clear hSF
            go_wp2
            exact bodyPost_ret (v := .tuple #[graphV r n (.slice A es.length cap), .bool true]) (by simp [results, Tryz.results12, go_sem, p1, p2, p3]) rfl ⟨_, by rw [hyes.out.1, hyes.out.2.1, hyes.out.2.2.1], by rw [hyes.out.2.2.2]; exact hdone.1, hdone.2⟩
          · have t2 : (F == s.toList) = false := by rw [ByteArray.toList_eq, ← HS.out]; exact beq_eq_false_iff_ne.2 hSF
            have hno := Lib.hid (pgI_no (.inr (.inl (by rw [← HR.out, ← HN.out, ← hfin.out, ← HFF.out]; exact hSF))))
            clear hSF
            go_wp2
            refine bodyPost_ret (v := .tuple #[graphV 0 0 (.slice none 0 0), .bool false]) (by simp [results, Tryz.results12, go_sem, p1, p2, p3]) rfl ⟨_, by rw [hno.out.1, hno.out.2.1, hno.out.2.2.1], ?_, ?_⟩
            · rw [hno.out.2.2.2]; exact .inl ⟨rfl, rfl⟩
            · exact ((hst.below.setCell (Nat.le_refl _) _).setCell (Nat.le_refl _) _).setCell (Nat.le_refl _) _
theorem parseGraph_any (s : ByteArray) (hs : s.size ≤ 1048576) (w : World) :
    Calls Tryz.prog 12 #[.string s] w (RetG2 w (pgR s.data.toList) (pgN s.data.toList) (pgL s.data.toList) (.bool (pgOk s.data.toList))) := by
  by_cases h2 : 2 ≤ (cutB 32 s.data.toList).length
  · by_cases h122 : (cutB 32 s.data.toList).length ≤ 122
    · exact parseGraph_on s hs w h2 h122
    · exact parseGraph_off s hs w (.inr (by omega))
  · exact parseGraph_off s hs w (.inl (by omega))
end Go.Proofs.YtpebiacdkfpnpaaGreat
