/- Contracts of ParseWords. Conditions: texts of at most 2^20 bytes. -/
import Derived.Test.YtopelbcikbkdbaaOwnL
import Derived.Test.YtopelbcikbkdbaaCut
import Derived.Test.YtopelbcikbkdbaaListC
import Derived.Test.YtopelbcikbkdbaaWordH
namespace Go.Proofs.Ytopelbcikbkdbaa
open Go.RowKit

def noneT : List UInt8 := [110, 111, 110, 101]
/-- Whether a text is that of a list of words of the rank. -/
def pOk (rank : Int) (s : List UInt8) : Bool := match decide (s = noneT) with
  | true => areW rank []
  | false => (cutB 44 s).all (parseOk rank) && areW rank ((cutB 44 s).map (parseW rank))
def pWs (rank : Int) (s : List UInt8) : List (List Int) := match pOk rank s, decide (s = noneT) with
  | true, false => (cutB 44 s).map (parseW rank)
  | _, _ => []
theorem p_none {rank : Int} {s : List UInt8} (h : s = noneT) : pOk rank s = areW rank [] ∧ pWs rank s = [] := by
  have hd : decide (s = noneT) = true := decide_eq_true h
  refine ⟨by simp only [pOk, hd], ?_⟩
  cases hp : pOk rank s <;> simp only [pWs, hd, hp]
theorem p_bad {rank : Int} {s : List UInt8} {k : Nat} (h : s ≠ noneT) (hk : k < (cutB 44 s).length) (hp : parseOk rank (cutB 44 s)[k] = false) : pOk rank s = false ∧ pWs rank s = [] := by
  have hd : decide (s = noneT) = false := decide_eq_false h
  have ha : (cutB 44 s).all (parseOk rank) = false := by
    rw [Bool.eq_false_iff]
    intro e
    rw [List.all_eq_true] at e
    rw [e _ (List.getElem_mem hk)] at hp
    cases hp
  have e : pOk rank s = false := by simp only [pOk, hd, ha, Bool.false_and]
  exact ⟨e, by simp only [pWs, e]⟩
theorem p_all {rank : Int} {s : List UInt8} (h : s ≠ noneT) (ha : (cutB 44 s).all (parseOk rank) = true) : pOk rank s = areW rank ((cutB 44 s).map (parseW rank)) := by
  have hd : decide (s = noneT) = false := decide_eq_false h
  simp only [pOk, hd, ha, Bool.true_and]
theorem p_yes {rank : Int} {s : List UInt8} (h : s ≠ noneT) (hp : pOk rank s = true) : pWs rank s = (cutB 44 s).map (parseW rank) := by
  have hd : decide (s = noneT) = false := decide_eq_false h
  simp only [pWs, hd, hp]
theorem p_no {rank : Int} {s : List UInt8} (hp : pOk rank s = false) : pWs rank s = [] := by
  simp only [pWs, hp]
theorem areW_nil {rank : Int} : areW rank [] = decide (1 ≤ rank ∧ rank ≤ 3) := by simp [areW, totL]
theorem parseOk_rank {rank : Int} {s : List UInt8} (h : ¬ (1 ≤ rank ∧ rank ≤ 3)) : parseOk rank s = false := by
  simp only [parseOk, isWord, decide_eq_false h, Bool.false_and, Bool.and_false]
/-- Without a good rank nothing is read. -/
theorem p_rank {rank : Int} {s : List UInt8} (h : ¬ (1 ≤ rank ∧ rank ≤ 3)) : pOk rank s = false ∧ pWs rank s = [] := by
  have e : pOk rank s = false := by
    by_cases hs : s = noneT
    · rw [(p_none hs).1, areW_nil]; exact decide_eq_false h
    · rw [pOk, decide_eq_false hs]
      simp only
      rw [areW_rank h, Bool.and_false]
  exact ⟨e, p_no e⟩
theorem parseW_sum (rank : Int) (ts : List (List UInt8)) : totL (ts.map (parseW rank)) ≤ (ts.map List.length).sum := by
  induction ts with
  | nil => simp [totL]
  | cons t ts ih =>
    have := parseW_length rank t
    simp only [totL, List.map_cons, List.sum_cons] at *; omega
theorem cutB_sum (c : UInt8) (s : List UInt8) : ((cutB c s).map List.length).sum ≤ s.length := by
  have := (cutSt_len c s).2
  simp only [cutB, List.map_append, List.sum_append, List.map_cons, List.map_nil, List.sum_cons, List.sum_nil]; omega
theorem sum_mem {ts : List (List UInt8)} {t : List UInt8} (h : t ∈ ts) : t.length ≤ (ts.map List.length).sum := by
  induction ts with
  | nil => simp at h
  | cons a l ih =>
    simp only [List.map_cons, List.sum_cons]
    rcases List.mem_cons.1 h with rfl | h
    · omega
    · have := ih h; omega
theorem pos_len {rank : Int} {ts : List (List UInt8)} (h : ts.all (parseOk rank) = true) : ts.length ≤ (ts.map List.length).sum := by
  induction ts with
  | nil => simp
  | cons a l ih =>
    simp only [List.all_cons, Bool.and_eq_true] at h
    have h1 := ih h.2
    have h2 : 1 ≤ a.length := by
      cases a with
      | nil => simp [parseOk] at h
      | cons b a => simp
    simp only [List.map_cons, List.sum_cons, List.length_cons]; omega
/-- Whatever is read is short. -/
theorem pWs_short (rank : Int) (s : List UInt8) : (pWs rank s).length ≤ 6 ∧ totL (pWs rank s) ≤ 40 := by
  cases hp : pOk rank s with
  | false => rw [p_no hp]; simp [totL]
  | true =>
    by_cases hs : s = noneT
    · rw [(p_none hs).2]; simp [totL]
    · rw [p_yes hs hp]
      have hall : (cutB 44 s).all (parseOk rank) = true := by
        rw [pOk, decide_eq_false hs] at hp
        simp only [Bool.and_eq_true] at hp
        exact hp.1
      rw [p_all hs hall] at hp
      simp only [areW, Bool.and_eq_true, decide_eq_true_eq] at hp
      omega
/-- A list of words in new memory and one value more are handed back. -/
def RetL2 (w : World) (ls : List (List Int)) (x : Value) (e : Ending) (w' : World) : Prop := ∃ v, e = .returned (.tuple #[v, x]) ∧ OwnL w' w.heap.size v ls ∧ Below w.heap.size w w'
set_option maxHeartbeats 3200000 in
theorem parseWords_main (rank : Int) (s : ByteArray) (w : World) (hs : s.size ≤ 1048576) :
    Calls Try.prog 27 #[.int .i64 rank, .string s] w (RetL2 w (pWs rank s.data.toList) (.bool (pOk rank s.data.toList))) := by
  by_cases hn : s.data.toList = noneT
  · have t1 : (s.toList == [110, 111, 110, 101]) = true := by rw [ByteArray.toList_eq, hn]; rfl
    have hh := p_none (rank := rank) hn
    have hA := areWords_any rank (.slice (some ⟨w.heap.size, 0, none⟩) 0 0) [] (w.alloc (.cells #[] 33 (0, 0))) (OwnL.none_ (Nat.le_refl _)).rows (by simp) (by simp [totL])
    obtain ⟨y, hy⟩ : ∃ y, y = areW rank [] := ⟨_, rfl⟩
    rw [← hy] at hA hh
    have HH := Lib.hid hh
    have HA := Lib.hid hA
    clear hA hh hn hy
    go_enter Try.func27, Try.ntmps27
    go_wp2_with fail
    refine (HA.out).mono ?_
    rintro e w2 ⟨rfl, hb2⟩
    have hB2 := ((Below.refl w.heap.size w).alloc (Nat.le_refl _) (.cells #[] 33 (0, 0))).trans (hb2.mono (by simp))
    cases y with
    | false =>
      go_wp2
      go_ret2
      rw [HH.out.1, HH.out.2]
      exact ⟨_, rfl, OwnL.none_ hB2.size, hB2.alloc hB2.size _⟩
    | true =>
      go_wp2
      go_ret2
      rw [HH.out.1, HH.out.2]
      exact ⟨_, rfl, (OwnL.none_ (Nat.le_refl _)).keep hb2, hB2⟩
  · have t1 : (s.toList == [110, 111, 110, 101]) = false := by
      rw [ByteArray.toList_eq, beq_eq_false_iff_ne]; exact hn
    obtain ⟨ts, hts⟩ : ∃ z, z = cutB 44 s.data.toList := ⟨_, rfl⟩
    have hcut := fun W => cut_any s 44 44 rfl W hs
    rw [← hts] at hcut
    have hsz : s.data.toList.length = s.size := by simp
    have hlen : ts.length ≤ 1048577 := by have := cutB_len 44 s.data.toList; rw [← hts, hsz] at this; omega
    have hsum : (ts.map List.length).sum ≤ 1048576 := by have := cutB_sum 44 s.data.toList; rw [← hts, hsz] at this; omega
    have hbad : ∀ k (hk : k < ts.length), parseOk rank ts[k] = false → pOk rank s.data.toList = false ∧ pWs rank s.data.toList = [] := by
      subst hts; exact fun k hk h => p_bad hn hk h
    have hall0 : ts.all (parseOk rank) = true → pOk rank s.data.toList = areW rank (ts.map (parseW rank)) ∧ (pOk rank s.data.toList = true → pWs rank s.data.toList = ts.map (parseW rank)) := by
      subst hts; exact fun h => ⟨p_all hn h, fun h2 => p_yes hn h2⟩
    have HC := Lib.hid hcut
    have HBAD := Lib.hid hbad
    have HALL := Lib.hid hall0
    have HSUM := Lib.hid hsum
    have HPW := Lib.hid (parseW_sum rank ts)
    clear hcut hn hts hsz hbad hall0 hsum
    go_enter Try.func27, Try.ntmps27
    go_wp2_with fail
    refine (HC.out _).mono ?_
    rintro e w2 ⟨vp, rfl, op, hb2⟩
    have hal : Below w.heap.size w (w.alloc (.cells #[] 33 (0, 0))) := (Below.refl _ _).alloc (Nat.le_refl _) _
    have hB2 := hal.trans (hb2.mono (by simp))
    have hol : OwnL w2 w.heap.size (.slice (some ⟨w.heap.size, 0, none⟩) 0 0) [] := (OwnL.none_ (Nat.le_refl _)).keep hb2
    obtain ⟨gp, capp, rfl, hpo⟩ := op
    have hgp := (ownsRow_parts hpo).1
    simp only [World.alloc, Array.size_push] at hgp
    have hgp0 : w.heap.size ≠ gp := by omega
    replace hpo := ownsRow_base (b' := w.heap.size) hpo (by simp)
    go_wp2
    go_loopw [6, 8, 9, 10, 17] (fun o _ _ _ i wr => ∃ (k : Nat) (ls : List (List Int)), k ≤ ts.length ∧ i = .int .i64 k ∧ Kept (ls = (ts.map (parseW rank)).take k) ∧ Kept (∀ j (hj : j < ts.length), j < k → parseOk rank ts[j] = true) ∧ OwnL wr w.heap.size o ls ∧ Kept (o.ownBlock ≠ some gp) ∧ wr.ownsRow w.heap.size 9 1 (.slice (some ⟨gp, 0, none⟩) ts.length capp) ts.length (strsV ts) ∧ ls.length ≤ k ∧ Below w.heap.size w wr) (fun _ _ _ _ i _ => ts.length - (intOf i).toNat)
    case atStart => exact ⟨0, [], by omega, rfl, ⟨by simp⟩, ⟨fun j _ h => absurd h (Nat.not_lt_zero _)⟩, hol, ⟨by simp [Value.ownBlock]; omega⟩, hpo, by simp, hB2⟩
    case round =>
      obtain ⟨k, ls, hk, rfl, hls, hall, hown, hone, hpr, hll, hbel⟩ := hrel
      by_cases hlt : k < ts.length
      · have c1 : wr.cell? ⟨gp, k, none⟩ = some (.string ⟨ts[k].toArray⟩) := by
          rw [hpr.cellAt k (by omega), strsV, List.getElem?_map, List.getElem?_eq_getElem hlt]; rfl
        obtain ⟨t, ht⟩ : ∃ t, t = ts[k] := ⟨_, rfl⟩
        have htl : t.length ≤ 1048576 := by
          have := sum_mem (t := t) (ts := ts) (by rw [ht]; exact List.getElem_mem hlt)
          have := HSUM.out; omega
        rw [← ht] at c1
        have hq := parseWord_any rank ⟨t.toArray⟩ (by show t.toArray.size ≤ _; simpa using htl) wr
        have hte : (⟨t.toArray⟩ : ByteArray).data.toList = t := by simp
        rw [hte] at hq
        obtain ⟨y, hy⟩ : ∃ y, y = parseOk rank t := ⟨_, rfl⟩
        have hnext : Kept (ls ++ [parseW rank t] = (ts.map (parseW rank)).take (k + 1)) := ⟨by rw [List.take_succ_eq_append_getElem (by simpa using hlt), hls.out, ht]; simp⟩
        obtain ⟨l9, hl9⟩ : ∃ z, z = parseW rank t := ⟨_, rfl⟩
        rw [← hy, ← hl9] at hq
        rw [← hl9] at hnext
        have HQ := Lib.hid hq
        have hkl : (k : Int) < (ts.length : Int) := by omega
        have hlls : ls.length ≤ 1048577 := by omega
        have HT9 := Lib.hid ht
        have HY9 := Lib.hid hy
        clear hq hte htl ht hy hl9
        go_wp2_with fail
        refine (HQ.out).mono ?_
        rintro e w3 ⟨v9, rfl, o9, hb3⟩
        have hBe := hbel.trans (hb3.mono hbel.size)
        cases y with
        | false =>
          have hst : Kept (pOk rank s.data.toList = false ∧ pWs rank s.data.toList = []) := ⟨HBAD.out k hlt (by rw [← HT9.out]; exact HY9.out.symm)⟩

          go_wp2
          go_ret2
          rw [hst.out.1, hst.out.2]
          exact ⟨_, rfl, OwnL.none_ hBe.size, hBe.alloc hBe.size _⟩
        | true =>
          have hall2 : Kept (∀ j (hj : j < ts.length), j < k + 1 → parseOk rank ts[j] = true) := ⟨fun j hj h1 => by
            by_cases hjk : j = k
            · subst hjk; rw [← HT9.out]; exact HY9.out.symm
            · exact hall.out j hj (by omega)⟩
          obtain ⟨g, cap, vs, rfl, ho, hr, hp⟩ := hown
          obtain ⟨g9, c9, rfl, _⟩ := id o9
          have ho3 := ownsRow_keep ho hb3
          have hpr3 := ownsRow_keep hpr hb3
          have hggp : Kept (gp ≠ g) := ⟨fun h => hone.out (by rw [h]; rfl)⟩

          go_wp2_with (at_builtin; refine wpl_push elemII rfl (.tmp 30) (.tmp 32) rfl rfl (ho3.alloc _) rfl (heap_alloc_new _ _) rfl (by omega) ?_; intro g' cap' w4 hown' hgrow hat)
          have hg : w.heap.size ≤ g := (ownsRow_parts ho).1
          have hol3 := OwnL.push ho hr hp hb3 o9 hbel.size hown' hgrow hat
          have hgps : gp < w3.heap.size := (ownsRow_parts hpr3).2.1
          have hne3 : Kept ((Value.slice (some ⟨g', 0, none⟩) (ls.length + 1) cap').ownBlock ≠ some gp) := ⟨by
            simp only [Value.ownBlock, ne_eq, Option.some.injEq]
            rcases hat with h | h
            · have := hggp.out; omega
            · simp at h; omega⟩
          have hpr4 := (hpr3.alloc (.cells #[.slice (some ⟨g9, 0, none⟩) l9.length c9] 33 (0, 0))).kept hgrow (.inr (by simp only [Value.ownBlock, ne_eq, Option.some.injEq]; exact hggp.out))
          have hb4 := below_push hBe hgrow hg (Nat.le_refl _)
          go_roundw
          case rel => exact ⟨k + 1, ls ++ [l9], by omega, by go_num, hnext, hall2, by simpa using hol3, by simpa using hne3, hpr4, by simp; omega, hb4⟩
          case measure => simp [intOf]; omega
      · obtain rfl : k = ts.length := by omega
        have hls2 : ls = ts.map (parseW rank) := by rw [hls.out, List.take_of_length_le (by simp)]
        have hal2 : ts.all (parseOk rank) = true := by
          rw [List.all_eq_true]
          intro t ht
          obtain ⟨j, hj, rfl⟩ := List.mem_iff_getElem.1 ht
          exact hall.out j hj hj
        have hcnt : ls.length ≤ 1048576 := by rw [hls2, List.length_map]; have := pos_len hal2; have := HSUM.out; omega
        have htot : totL ls ≤ 1048576 := by rw [hls2]; have := HPW.out; have := HSUM.out; omega
        have hA := areWords_any rank _ ls wr hown.rows hcnt htot
        obtain ⟨y, hy⟩ : ∃ y, y = areW rank ls := ⟨_, rfl⟩
        have hh := HALL.out hal2
        rw [← hls2, ← hy] at hh
        rw [← hy] at hA
        have HA := Lib.hid hA
        have HH := Lib.hid hh
        have hown2 := hown
        obtain ⟨g, cap, vs, rfl, _⟩ := hown2
        clear hA hh hls hls2 hal2 hall hy hcnt htot
        go_wp2_with fail
        refine (HA.out).mono ?_
        rintro e w5 ⟨rfl, hb5⟩
        have hBe := hbel.trans (hb5.mono hbel.size)
        cases y with
        | false =>
          have hst : Kept (pOk rank s.data.toList = false ∧ pWs rank s.data.toList = []) := ⟨HH.out.1, p_no HH.out.1⟩
          go_wp2
          go_ret2
          rw [hst.out.1, hst.out.2]
          exact ⟨_, rfl, OwnL.none_ hBe.size, hBe.alloc hBe.size _⟩
        | true =>
          have hst : Kept (pOk rank s.data.toList = true ∧ pWs rank s.data.toList = ls) := ⟨HH.out.1, HH.out.2 HH.out.1⟩
          go_wp2
          go_ret2
          rw [hst.out.1, hst.out.2]
          exact ⟨_, rfl, hown.keep hb5, hBe⟩
set_option maxHeartbeats 3200000 in
theorem parseWordsS_main (rank : Int) (s : ByteArray) (w : World) (hs : s.size ≤ 1048576) (hrank : 1 ≤ rank ∧ rank ≤ 3) :
    Calls Try.prog 26 #[.int .i64 rank, .string s] w (RetL2 w (pWs rank s.data.toList) (.bool (pOk rank s.data.toList))) := by
  by_cases hn : s.data.toList = noneT
  · have t1 : (s.toList == [110, 111, 110, 101]) = true := by rw [ByteArray.toList_eq, hn]; rfl
    have hr : 1 ≤ rank ∧ rank ≤ 3 := hrank
    have hh : pOk rank s.data.toList = true ∧ pWs rank s.data.toList = [] := by rw [(p_none hn).1, (p_none hn).2, areW_nil]; exact ⟨decide_eq_true hr, rfl⟩
    have HH := Lib.hid hh
    clear hh hn
    go_enter Try.func26, Try.ntmps26
    go_wp2_with fail
    refine (l1In_yes hr.1 hr.2 _).mono ?_
    rintro e w2 ⟨rfl, rfl⟩
    clear hr hrank
    go_wp2
    go_ret2
    rw [HH.out.1, HH.out.2]
    exact ⟨_, rfl, OwnL.none_ (Nat.le_refl _), (Below.refl _ _).alloc (Nat.le_refl _) _⟩
  · have t1 : (s.toList == [110, 111, 110, 101]) = false := by
      rw [ByteArray.toList_eq, beq_eq_false_iff_ne]; exact hn
    obtain ⟨ts, hts⟩ : ∃ z, z = cutB 44 s.data.toList := ⟨_, rfl⟩
    have hcut := fun W => l4Cut_any s 44 44 rfl W hs
    rw [← hts] at hcut
    have hsz : s.data.toList.length = s.size := by simp
    have hlen : ts.length ≤ 1048577 := by have := cutB_len 44 s.data.toList; rw [← hts, hsz] at this; omega
    have hsum : (ts.map List.length).sum ≤ 1048576 := by have := cutB_sum 44 s.data.toList; rw [← hts, hsz] at this; omega
    have hbad : ∀ k (hk : k < ts.length), parseOk rank ts[k] = false → pOk rank s.data.toList = false ∧ pWs rank s.data.toList = [] := by
      subst hts; exact fun k hk h => p_bad hn hk h
    have hall0 : ts.all (parseOk rank) = true → pOk rank s.data.toList = areW rank (ts.map (parseW rank)) ∧ (pOk rank s.data.toList = true → pWs rank s.data.toList = ts.map (parseW rank)) := by
      subst hts; exact fun h => ⟨p_all hn h, fun h2 => p_yes hn h2⟩
    have HC := Lib.hid hcut
    have HBAD := Lib.hid hbad
    have HALL := Lib.hid hall0
    have HSUM := Lib.hid hsum
    have HPW := Lib.hid (parseW_sum rank ts)
    clear hcut hn hts hsz hbad hall0 hsum
    go_enter Try.func26, Try.ntmps26
    go_wp2_with fail
    refine (HC.out _).mono ?_
    rintro e w2 ⟨vp, rfl, op, hb2⟩
    have hal : Below w.heap.size w (w.alloc (.cells #[] 33 (0, 0))) := (Below.refl _ _).alloc (Nat.le_refl _) _
    have hB2 := hal.trans (hb2.mono (by simp))
    have hol : OwnL w2 w.heap.size (.slice (some ⟨w.heap.size, 0, none⟩) 0 0) [] := (OwnL.none_ (Nat.le_refl _)).keep hb2
    obtain ⟨gp, capp, rfl, hpo⟩ := op
    have hgp := (ownsRow_parts hpo).1
    simp only [World.alloc, Array.size_push] at hgp
    have hgp0 : w.heap.size ≠ gp := by omega
    replace hpo := ownsRow_base (b' := w.heap.size) hpo (by simp)
    go_wp2
    go_loopw [6, 8, 9, 10] (fun o i _ _ wr => ∃ (k : Nat) (ls : List (List Int)), k ≤ ts.length ∧ i = .int .i64 k ∧ Kept (ls = (ts.map (parseW rank)).take k) ∧ Kept (∀ j (hj : j < ts.length), j < k → parseOk rank ts[j] = true) ∧ OwnL wr w.heap.size o ls ∧ Kept (o.ownBlock ≠ some gp) ∧ wr.ownsRow w.heap.size 9 1 (.slice (some ⟨gp, 0, none⟩) ts.length capp) ts.length (strsV ts) ∧ ls.length ≤ k ∧ Below w.heap.size w wr) (fun _ i _ _ _ => ts.length - (intOf i).toNat)
    case atStart => exact ⟨0, [], by omega, rfl, ⟨by simp⟩, ⟨fun j _ h => absurd h (Nat.not_lt_zero _)⟩, hol, ⟨by simp [Value.ownBlock]; omega⟩, hpo, by simp, hB2⟩
    case round =>
      obtain ⟨k, ls, hk, rfl, hls, hall, hown, hone, hpr, hll, hbel⟩ := hrel
      by_cases hlt : k < ts.length
      · have c1 : wr.cell? ⟨gp, k, none⟩ = some (.string ⟨ts[k].toArray⟩) := by
          rw [hpr.cellAt k (by omega), strsV, List.getElem?_map, List.getElem?_eq_getElem hlt]; rfl
        obtain ⟨t, ht⟩ : ∃ t, t = ts[k] := ⟨_, rfl⟩
        have htl : t.length ≤ 1048576 := by
          have := sum_mem (t := t) (ts := ts) (by rw [ht]; exact List.getElem_mem hlt)
          have := HSUM.out; omega
        rw [← ht] at c1
        have hq := parseWordS_any rank ⟨t.toArray⟩ (by show t.toArray.size ≤ _; simpa using htl) wr
        have hte : (⟨t.toArray⟩ : ByteArray).data.toList = t := by simp
        rw [hte] at hq
        obtain ⟨y, hy⟩ : ∃ y, y = parseOk rank t := ⟨_, rfl⟩
        have hnext : Kept (ls ++ [parseW rank t] = (ts.map (parseW rank)).take (k + 1)) := ⟨by rw [List.take_succ_eq_append_getElem (by simpa using hlt), hls.out, ht]; simp⟩
        obtain ⟨l9, hl9⟩ : ∃ z, z = parseW rank t := ⟨_, rfl⟩
        rw [← hy, ← hl9] at hq
        rw [← hl9] at hnext
        have HQ := Lib.hid hq
        have hkl : (k : Int) < (ts.length : Int) := by omega
        have hlls : ls.length ≤ 1048577 := by omega
        have HT9 := Lib.hid ht
        have HY9 := Lib.hid hy
        clear hq hte htl ht hy hl9
        go_wp2_with fail
        refine (HQ.out).mono ?_
        rintro e w3 ⟨v9, rfl, o9, hb3⟩
        have hBe := hbel.trans (hb3.mono hbel.size)
        cases y with
        | false =>
          have hst : Kept (pOk rank s.data.toList = false ∧ pWs rank s.data.toList = []) := ⟨HBAD.out k hlt (by rw [← HT9.out]; exact HY9.out.symm)⟩

          go_wp2
          go_ret2
          rw [hst.out.1, hst.out.2]
          exact ⟨_, rfl, OwnL.none_ hBe.size, hBe.alloc hBe.size _⟩
        | true =>
          have hall2 : Kept (∀ j (hj : j < ts.length), j < k + 1 → parseOk rank ts[j] = true) := ⟨fun j hj h1 => by
            by_cases hjk : j = k
            · subst hjk; rw [← HT9.out]; exact HY9.out.symm
            · exact hall.out j hj (by omega)⟩
          obtain ⟨g, cap, vs, rfl, ho, hr, hp⟩ := hown
          obtain ⟨g9, c9, rfl, _⟩ := id o9
          have ho3 := ownsRow_keep ho hb3
          have hpr3 := ownsRow_keep hpr hb3
          have hggp : Kept (gp ≠ g) := ⟨fun h => hone.out (by rw [h]; rfl)⟩

          go_wp2_with (at_builtin; refine wpl_push elemII rfl (.tmp 39) (.tmp 41) rfl rfl (ho3.alloc _) rfl (heap_alloc_new _ _) rfl (by omega) ?_; intro g' cap' w4 hown' hgrow hat)
          have hg : w.heap.size ≤ g := (ownsRow_parts ho).1
          have hol3 := OwnL.push ho hr hp hb3 o9 hbel.size hown' hgrow hat
          have hgps : gp < w3.heap.size := (ownsRow_parts hpr3).2.1
          have hne3 : Kept ((Value.slice (some ⟨g', 0, none⟩) (ls.length + 1) cap').ownBlock ≠ some gp) := ⟨by
            simp only [Value.ownBlock, ne_eq, Option.some.injEq]
            rcases hat with h | h
            · have := hggp.out; omega
            · simp at h; omega⟩
          have hpr4 := (hpr3.alloc (.cells #[.slice (some ⟨g9, 0, none⟩) l9.length c9] 33 (0, 0))).kept hgrow (.inr (by simp only [Value.ownBlock, ne_eq, Option.some.injEq]; exact hggp.out))
          have hb4 := below_push hBe hgrow hg (Nat.le_refl _)
          go_roundw
          case rel => exact ⟨k + 1, ls ++ [l9], by omega, by go_num, hnext, hall2, by simpa using hol3, by simpa using hne3, hpr4, by simp; omega, hb4⟩
          case measure => simp [intOf]; omega
      · obtain rfl : k = ts.length := by omega
        have hls2 : ls = ts.map (parseW rank) := by rw [hls.out, List.take_of_length_le (by simp)]
        have hal2 : ts.all (parseOk rank) = true := by
          rw [List.all_eq_true]
          intro t ht
          obtain ⟨j, hj, rfl⟩ := List.mem_iff_getElem.1 ht
          exact hall.out j hj hj
        have hcnt : ls.length ≤ 1048576 := by rw [hls2, List.length_map]; have := pos_len hal2; have := HSUM.out; omega
        have htot : totL ls ≤ 1048576 := by rw [hls2]; have := HPW.out; have := HSUM.out; omega
        have hA := areWordsS_any rank _ ls wr hown.rows hcnt htot
        obtain ⟨y, hy⟩ : ∃ y, y = areW rank ls := ⟨_, rfl⟩
        have hh := HALL.out hal2
        rw [← hls2, ← hy] at hh
        rw [← hy] at hA
        have HA := Lib.hid hA
        have HH := Lib.hid hh
        have hown2 := hown
        obtain ⟨g, cap, vs, rfl, _⟩ := hown2
        clear hA hh hls hls2 hal2 hall hy hcnt htot
        go_wp2_with fail
        refine (HA.out).mono ?_
        rintro e w5 ⟨rfl, hb5⟩
        have hBe := hbel.trans (hb5.mono hbel.size)
        cases y with
        | false =>
          have hst : Kept (pOk rank s.data.toList = false ∧ pWs rank s.data.toList = []) := ⟨HH.out.1, p_no HH.out.1⟩
          go_wp2
          go_ret2
          rw [hst.out.1, hst.out.2]
          exact ⟨_, rfl, OwnL.none_ hBe.size, hBe.alloc hBe.size _⟩
        | true =>
          have hst : Kept (pOk rank s.data.toList = true ∧ pWs rank s.data.toList = ls) := ⟨HH.out.1, HH.out.2 HH.out.1⟩
          go_wp2
          go_ret2
          rw [hst.out.1, hst.out.2]
          exact ⟨_, rfl, hown.keep hb5, hBe⟩
set_option maxHeartbeats 1600000 in
theorem parseWordsS_bad (rank : Int) (s : ByteArray) (w : World) (hs : s.size ≤ 1048576) (hrank : ¬ (1 ≤ rank ∧ rank ≤ 3)) :
    Calls Try.prog 26 #[.int .i64 rank, .string s] w (RetL2 w (pWs rank s.data.toList) (.bool (pOk rank s.data.toList))) := by
  have hh := p_rank (s := s.data.toList) hrank
  rw [hh.1, hh.2]
  have hr2 : rank < 1 ∨ 3 < rank := by omega
  have hbad : ∀ t : List UInt8, parseOk rank t = false := fun t => parseOk_rank hrank
  obtain ⟨ts, hts⟩ : ∃ z, z = cutB 44 s.data.toList := ⟨_, rfl⟩
  have hcut := fun W => l4Cut_any s 44 44 rfl W hs
  rw [← hts] at hcut
  have hsz : s.data.toList.length = s.size := by simp
  have hpos : 0 < ts.length := by rw [hts, cutB]; simp
  have hsum : (ts.map List.length).sum ≤ 1048576 := by have := cutB_sum 44 s.data.toList; rw [← hts, hsz] at this; omega
  have htl : ts[0].length ≤ 1048576 := by
    have := sum_mem (t := ts[0]) (ts := ts) (List.getElem_mem hpos)
    omega
  obtain ⟨t, ht⟩ : ∃ t, t = ts[0] := ⟨_, rfl⟩
  rw [← ht] at htl
  have hpw : ∀ W, Calls Try.prog 59 #[.int .i64 rank, .string ⟨t.toArray⟩] W (RetI2 W (parseW rank t) (.bool false)) := fun W => by
    have hq := parseWordS_any rank ⟨t.toArray⟩ (by show t.toArray.size ≤ _; simpa using htl) W
    have hte : (⟨t.toArray⟩ : ByteArray).data.toList = t := by simp
    rw [hte, hbad t] at hq
    exact hq
  have HT := Lib.hid ht
  have HC := Lib.hid hcut
  have HP := Lib.hid hpw
  clear hcut hh hbad hts hsz hsum htl hpw ht hrank
  by_cases hn : s.data.toList = noneT
  · have t1 : (s.toList == [110, 111, 110, 101]) = true := by rw [ByteArray.toList_eq, hn]; rfl
    clear hn
    go_enter Try.func26, Try.ntmps26
    go_wp2_with fail
    refine (l1In_no hr2 _).mono ?_
    rintro e w1 ⟨rfl, rfl⟩
    go_wp2_with fail
    refine (HC.out _).mono ?_
    rintro e w2 ⟨vp, rfl, op, hb2⟩
    have hal : Below w.heap.size w (w.alloc (.cells #[] 33 (0, 0))) := (Below.refl _ _).alloc (Nat.le_refl _) _
    have hB2 := hal.trans (hb2.mono (by simp))
    obtain ⟨gp, capp, rfl, hpo⟩ := op
    have c1 : w2.cell? ⟨gp, 0, none⟩ = some (.string ⟨t.toArray⟩) := by
      rw [hpo.cellAt 0 (by omega), strsV, List.getElem?_map, List.getElem?_eq_getElem hpos, HT.out]; rfl
    have hkl : (0 : Int) < (ts.length : Int) := by omega
    go_wp2
    go_loopw [6, 8, 9, 10] (fun _ i _ _ wr => i = .int .i64 0 ∧ wr = w2) (fun _ _ _ _ _ => 0)
    case atStart => exact ⟨rfl, rfl⟩
    case round =>
      obtain ⟨rfl, rfl⟩ := hrel
      go_wp2_with fail
      refine (HP.out _).mono ?_
      rintro e w3 ⟨v9, rfl, o9, hb3⟩
      have hBe := hB2.trans (hb3.mono hB2.size)
      go_wp2
      go_ret2
      exact ⟨_, rfl, OwnL.none_ hBe.size, hBe.alloc hBe.size _⟩
  · have t1 : (s.toList == [110, 111, 110, 101]) = false := by
      rw [ByteArray.toList_eq, beq_eq_false_iff_ne]; exact hn
    clear hn
    go_enter Try.func26, Try.ntmps26
    go_wp2_with fail
    refine (HC.out _).mono ?_
    rintro e w2 ⟨vp, rfl, op, hb2⟩
    have hal : Below w.heap.size w (w.alloc (.cells #[] 33 (0, 0))) := (Below.refl _ _).alloc (Nat.le_refl _) _
    have hB2 := hal.trans (hb2.mono (by simp))
    obtain ⟨gp, capp, rfl, hpo⟩ := op
    have c1 : w2.cell? ⟨gp, 0, none⟩ = some (.string ⟨t.toArray⟩) := by
      rw [hpo.cellAt 0 (by omega), strsV, List.getElem?_map, List.getElem?_eq_getElem hpos, HT.out]; rfl
    have hkl : (0 : Int) < (ts.length : Int) := by omega
    go_wp2
    go_loopw [6, 8, 9, 10] (fun _ i _ _ wr => i = .int .i64 0 ∧ wr = w2) (fun _ _ _ _ _ => 0)
    case atStart => exact ⟨rfl, rfl⟩
    case round =>
      obtain ⟨rfl, rfl⟩ := hrel
      go_wp2_with fail
      refine (HP.out _).mono ?_
      rintro e w3 ⟨v9, rfl, o9, hb3⟩
      have hBe := hB2.trans (hb3.mono hB2.size)
      go_wp2
      go_ret2
      exact ⟨_, rfl, OwnL.none_ hBe.size, hBe.alloc hBe.size _⟩
theorem parseWords_any (rank : Int) (s : ByteArray) (w : World) (hs : s.size ≤ 1048576) :
    Calls Try.prog 27 #[.int .i64 rank, .string s] w (RetL2 w (pWs rank s.data.toList) (.bool (pOk rank s.data.toList))) := parseWords_main rank s w hs
theorem parseWordsS_any (rank : Int) (s : ByteArray) (w : World) (hs : s.size ≤ 1048576) :
    Calls Try.prog 26 #[.int .i64 rank, .string s] w (RetL2 w (pWs rank s.data.toList) (.bool (pOk rank s.data.toList))) := by
  by_cases h : 1 ≤ rank ∧ rank ≤ 3
  · exact parseWordsS_main rank s w hs h
  · exact parseWordsS_bad rank s w hs h
end Go.Proofs.Ytopelbcikbkdbaa
