/- Contract of tree. Conditions: none but a graph and one of its vertices. -/
import Derived.Test.YtpebiacdkfpnpaaOwnO
import Derived.Test.YtpebiacdkfpnpaaCopyI
import Derived.Test.YtpebiacdkfpnpaaLets
import Derived.Test.YtpebiacdkfpnpaaNextI
import Derived.Test.YtpebiacdkfpnpaaReadS
import Derived.Test.YtpebiacdkfpnpaaGFacts
import Derived.Test.YtpebiacdkfpnpaaNilEq
namespace Go.Proofs.Ytpebiacdkfpnpaa
open Go.RowKit

theorem nextV_rng {r : Int} {N : Nat} {l : List Ed} (h : isG r (N : Int) l = true) (u x : Int) : nextV l u x < 0 ∨ (nextV l u x).toNat < N := by
  obtain ⟨_, _, _, h4⟩ := isG_all h
  rcases nextV_mem (l := l) (v := u) (x := x) with e | e
  · left; omega
  · right
    obtain ⟨e', he, h1⟩ := hits_mem (stepsL_mem.1 e)
    have := h4 e' he
    rcases h1 with h1 | h1 <;> omega
theorem heap_new_at (w : World) (k : Nat) (o : Obj) (h : w.heap.size = k) : (w.alloc o).heap[k]? = some o := by subst h; exact heap_alloc_new w o
/-- What tree hands back: the order of the vertices, and a word for each that was found. -/
def RetTree (w : World) (s : Bfs) (e : Ending) (w' : World) : Prop := ∃ g go cap, e = .returned (.tuple #[.slice (some ⟨go, 0, none⟩) s.1.length cap, .slice (some ⟨g, 0, none⟩) s.2.length s.2.length]) ∧ OwnO w' w.heap.size g go s.2 ∧ Below w.heap.size w w'
/-- The search inside a round: the letters before the place j are done. -/
structure Round (l : List Ed) (R N : Nat) (u : Int) (s t : Bfs) (j : Nat) : Prop where
  eq : t = ((lettersL R).take j).foldl (stepB l u) s
  ok : BfsOk N t
  at_ : ∃ k, ∃ (h : k < t.1.length), t.1[k] = u
  grow : s.1.length ≤ t.1.length
theorem Round.start {l : List Ed} {R N : Nat} {u : Int} {s : Bfs} (h : BfsOk N s) (hu : ∃ k, ∃ (h : k < s.1.length), s.1[k] = u) : Round l R N u s s 0 := ⟨rfl, h, hu, Nat.le_refl _⟩
theorem Round.next {l : List Ed} {R N : Nat} {u : Int} {s t : Bfs} {j : Nat} (h : Round l R N u s t j) (hR : R ≤ 100) (hj : j < (lettersL R).length) (hr : ∀ x, nextV l u x < 0 ∨ (nextV l u x).toNat < N) : Round l R N u s (stepB l u t (lettersL R)[j]) (j + 1) := by
  have hx := lettersL_i64 hR _ (List.getElem_mem hj)
  obtain ⟨k, hk, e⟩ := h.at_
  obtain ⟨h1, h2, h3, _⟩ := h.ok.step ⟨k, hk, e⟩ hx (hr _)
  refine ⟨?_, h1, ⟨k, by omega, ?_⟩, by have := h.grow; omega⟩
  · rw [List.take_succ_eq_append_getElem hj, List.foldl_append, ← h.eq]; rfl
  · have := h2 k hk
    rw [List.getElem?_eq_getElem (by omega), List.getElem?_eq_getElem hk] at this
    rw [Option.some.inj this, e]
set_option maxRecDepth 20000 in
set_option maxHeartbeats 6400000 in
theorem tree_any (R N V : Nat) (v : Value) (l : List Ed) (w : World) (h : Edges w v l) (hG : isG (R : Int) (N : Int) l = true) (hV : V < N) :
    Calls Try.prog 60 #[graphV R N v, .int .i64 V] w (RetTree w (bfsF l R V N)) := by
  obtain ⟨⟨_, hR3⟩, ⟨_, hN40⟩, hl120, _⟩ := isG_all hG
  have hR : R ≤ 3 := by omega
  have hN : N ≤ 40 := by omega
  clear hR3 hN40
  have hkeep := h
  obtain ⟨A, cap, rfl, _⟩ := h
  obtain ⟨i0, hi, hz0, hz1, hz2⟩ := info_parts elemII.info
  obtain ⟨W, hW⟩ : ∃ W, W = w.alloc (.cells #[.int .i64 R, .int .i64 N, .slice A l.length cap] 29 (0, 0)) := ⟨_, rfl⟩
  have hB : Below w.heap.size w W := by rw [hW]; exact (Below.refl _ _).alloc (Nat.le_refl _) _
  have bx1 : Box W w.heap.size (.cells #[.int .i64 R, .int .i64 N, .slice A l.length cap] 29 (0, 0)) := by rw [hW]; exact Box.new _ _
  have hsz : W.heap.size = w.heap.size + 1 := by rw [hW]; simp
  have hnx := fun (u a : Int) (ha : I64 a) W' (hb : Below w.heap.size w W') => nextVertex_any R N u a _ l W' (hkeep.keep hb) (by omega) ha (isG_lets hG)
  have hrng := nextV_rng hG
  have hok := bfs_ok (l := l) (r := R) (n := N) (v := (V : Int)) (by omega) (by omega) (by omega) hrng
  have HW := Lib.hid hW
  have BX := Lib.hid bx1
  have HSZ := Lib.hid hsz
  have HNX := Lib.hid hnx
  have HRNG := Lib.hid hrng
  have HOK := Lib.hid hok
  clear hW bx1 hsz hnx hrng hok hkeep hG
  go_enter Try.func60, Try.ntmps60
  go_wp2_with (at_make; rw [← HW.out]; refine wpList_make_full _ rfl _ _ 52 rfl w.heap.size 33 i0 (.slice none 0 0) 1 Try.underlying52 hi hz0 hz1 _ _ _ _ N rfl rfl rfl rfl (by rw [hz2]; omega) (by unfold maxLen; omega) (by rw [HSZ.out]; omega) ?_; intro w0 hown0 hgrow0; have hal0 := hown0.alloc (.cells #[] 3 (0, 0)); obtain ⟨old, hc1⟩ := ownsRow_cell hal0 V hV; have hf1 := hal0.frozenAt V)
  rw [nonesV] at hown0
  have hlt0 : W.heap.size < w0.heap.size := (ownsRow_parts hown0).2.1
  have hb0 : Below W.heap.size W w0 := (Below.refl _ _).grown hgrow0 (Nat.le_refl _) (fun k h => by cases h)
  have hst0 := OwnO.start (go := w0.heap.size + 1) hown0
  clear hc1 hf1 hal0 hown0 hgrow0
  have hwa : Below w0.heap.size w0 (w0.alloc (.cells #[] 3 (0, 0))) := (Below.refl _ _).alloc (Nat.le_refl _) _
  have hnil : OwnI (w0.alloc (.cells #[] 3 (0, 0))) w.heap.size (.slice (some ⟨w0.heap.size, 0, none⟩) 0 0) [] := ⟨_, _, rfl, World.ownsRow_made _ _ _ (Nat.le_trans hB.size hb0.size) (by decide) rfl, by simp⟩
  have hput := (hst0.keep hwa).put (i := V) (by simpa using hV) hnil (by simp only [Value.ownBlock, ne_eq, Option.some.injEq]; omega) (by simp only [Value.ownBlock, ne_eq, Option.some.injEq]; omega)
  obtain ⟨W2, hW2⟩ : ∃ W2, W2 = (w0.alloc (.cells #[] 3 (0, 0))).setCell ⟨W.heap.size, V, none⟩ (.slice (some ⟨w0.heap.size, 0, none⟩) 0 0) := ⟨_, rfl⟩
  have hs2 : W2.heap.size = w0.heap.size + 1 := by rw [hW2]; simp
  have hb2 : Below W.heap.size W W2 := by rw [hW2]; exact (hb0.alloc hb0.size _).grown hput.2 (hb0.alloc hb0.size _).size (fun k h => by cases h; exact Nat.le_refl _)
  have ho2 := hput.1
  rw [← hW2] at ho2 ⊢
  have hal2 : Below W2.heap.size W2 (W2.alloc (.cells #[.int .i64 V] 3 (0, 0))) := (Below.refl _ _).alloc (Nat.le_refl _) _
  have hord : (W2.alloc (.cells #[.int .i64 V] 3 (0, 0))).ownsRow w.heap.size 3 1 (.slice (some ⟨W2.heap.size, 0, none⟩) 1 1) 1 (intsV [(V : Int)]) := ⟨rfl, .inr ⟨_, 1, _, rfl, Nat.le_trans hB.size hb2.size, heap_alloc_new _ _, Nat.le_refl _, by decide, rfl, rfl⟩⟩
  rw [hs2] at hord
  have ho3 := ho2.keep hal2
  have hb3 := hb2.alloc hb2.size (.cells #[.int .i64 V] 3 (0, 0))
  have hgo : Kept (W.heap.size < w0.heap.size + 1) := ⟨by omega⟩
  have HS2 := Lib.hid hs2
  clear hwa hnil hput hW2 hs2 ho2 hal2 hb2 hb0 hst0
  go_loopw [7, 8, 9, 11, 12] (fun ord i _ _ _ wr => ∃ (k go cap : Nat) (s : Bfs), k ≤ s.1.length ∧ s.1.length ≤ N ∧ i = .int .i64 k ∧ ord = .slice (some ⟨go, 0, none⟩) s.1.length cap ∧ Kept (s = bfsAt l R V N k) ∧ wr.ownsRow w.heap.size 3 1 (.slice (some ⟨go, 0, none⟩) s.1.length cap) s.1.length (intsV s.1) ∧ OwnO wr w.heap.size W.heap.size go s.2 ∧ Kept (W.heap.size < go) ∧ Below W.heap.size W wr)
    (fun _ i _ _ _ _ => N - (intOf i).toNat)
  case atStart => exact ⟨0, w0.heap.size + 1, 1, bfsAt l R V N 0, by simp [bfsAt], by simp [bfsAt]; omega, rfl, rfl, ⟨rfl⟩, hord, by simpa [bfsAt] using ho3, hgo, hb3⟩
  case round =>
    obtain ⟨k, go, cap2, s, hk, hsN, rfl, rfl, hs, hord, hoo, hgo, hbel⟩ := hrel
    have hBx := hB.trans (hbel.mono hB.size)
    by_cases hlt : k < s.1.length
    · obtain ⟨q1, q2, q3⟩ := (BX.out.keep hbel).cells
      have hsok : BfsOk N s := by rw [hs.out]; exact HOK.out k
      obtain ⟨u0, u1, _⟩ := hsok.rng k hlt
      have c1 := hord.cellAt k (by omega)
      rw [intsV, List.getElem?_map, List.getElem?_eq_getElem hlt] at c1
      simp only [Option.map_some] at c1
      obtain ⟨u, hu⟩ : ∃ u, u = s.1[k] := ⟨_, rfl⟩
      rw [← hu] at c1 u0 u1
      obtain ⟨U, hU⟩ := Int.eq_ofNat_of_zero_le u0
      have hst1 : Kept (Round l R N u s s 0) := ⟨Round.start hsok ⟨k, hlt, hu.symm⟩⟩
      have hnext : ∀ t, Round l R N u s t (lettersL R).length → t = bfsAt l R V N (k + 1) := fun t ht => by
        have hk' : k < (bfsAt l R V N k).1.length := by rw [← hs.out]; exact hlt
        rw [bfs_next hk', ht.eq, List.take_length]
        have : (bfsAt l R V N k).1[k] = u := by rw [hu]; simp only [← hs.out]
        rw [this, ← hs.out]
      have hkI : (k : Int) < (s.1.length : Int) := by omega
      have hUN : U < N := by rw [hU] at u1; simpa using u1
      have HNEXT := Lib.hid hnext
      have HL := Lib.hid (letters_any R (by omega) wr)
      subst hU
      clear hu u0 u1 hsok hnext
      go_wp2_with fail
      refine (HL.out).mono ?_
      rintro e w1 ⟨vL, rfl, oL, hb1⟩
      obtain ⟨L, hL⟩ : ∃ L, L = lettersL R := ⟨_, rfl⟩
      rw [← hL] at oL
      obtain ⟨gL, cL, rfl, hown, hIL⟩ := oL
      have hord1 := ownsRow_keep hord hb1
      have hoo1 := hoo.keep hb1
      have hbel1 := hbel.trans (hb1.mono hbel.size)
      have hgL1 : wr.heap.size ≤ gL := (ownsRow_parts hown).1
      have hgo1 : go < wr.heap.size := (ownsRow_parts hord).2.1
      have hWr : W.heap.size < wr.heap.size := by have := hgo.out; omega
      have hlets := ownsRow_base (b' := w.heap.size) hown (Nat.le_trans hB.size hbel.size)
      have hgLne : Kept (gL ≠ go ∧ gL ≠ W.heap.size) := ⟨by omega, by omega⟩
      have hLlen : L.length ≤ 200 := by rw [hL, lettersL_length]; omega
      have HLe := Lib.hid hL
      clear q1 q2 q3 c1 hown hord hoo hgL1 hgo1 hWr hL hb1
      go_wp2
      go_loopw [7, 11, 12, 36] (fun ord _ _ idx wx => ∃ (j go cap : Nat) (t : Bfs), j ≤ L.length ∧ t.1.length ≤ N ∧ idx = .int .i64 j ∧ ord = .slice (some ⟨go, 0, none⟩) t.1.length cap ∧ Kept (Round l R N U s t j) ∧ wx.ownsRow w.heap.size 3 1 (.slice (some ⟨go, 0, none⟩) t.1.length cap) t.1.length (intsV t.1) ∧ OwnO wx w.heap.size W.heap.size go t.2 ∧ wx.ownsRow w.heap.size 3 1 (.slice (some ⟨gL, 0, none⟩) L.length cL) L.length (intsV L) ∧ Kept (W.heap.size < go) ∧ Kept (gL ≠ go) ∧ Below W.heap.size W wx)
        (fun _ _ _ idx _ => L.length - (intOf idx).toNat)
      case atStart => exact ⟨0, go, cap2, s, by omega, hsN, rfl, rfl, hst1, hord1, hoo1, hlets, hgo, ⟨hgLne.out.1⟩, hbel1⟩
      case round =>
        obtain ⟨j, go, cap3, t, hj, htN, rfl, rfl, hrd, hord, hoo, hlets, hgo, hne, hbx⟩ := hrel
        have hBx := hB.trans (hbx.mono hB.size)
        obtain ⟨q1, q2, q3⟩ := (BX.out.keep hbx).cells
        by_cases hjl : j < L.length
        · have c1 := hlets.cellAt j (by omega)
          rw [intsV, List.getElem?_map, List.getElem?_eq_getElem hjl] at c1
          simp only [Option.map_some] at c1
          have hxI := hIL _ (List.getElem_mem hjl)
          have hnr : Round l R N U s (stepB l U t L[j]) (j + 1) := by
            have := hrd.out.next (by omega) (by rw [← HLe.out]; exact hjl) (fun x => HRNG.out U x)
            simp only [← HLe.out] at this; exact this
          obtain ⟨x, hx⟩ : ∃ x, x = L[j] := ⟨_, rfl⟩
          rw [← hx] at c1 hxI hnr
          have hn1 := HNX.out U x hxI wr hBx
          have hrg := HRNG.out U x
          have syes := stepB_yes (l := l) (u := U) (x := x) (s := t)
          have sno := stepB_no (l := l) (u := U) (x := x) (s := t)
          have htlen := hrd.out.ok.len
          obtain ⟨lu, hlu⟩ : ∃ lu, wordAt t U = some lu := by
            obtain ⟨k', hk', e⟩ := hrd.out.at_
            have := (hrd.out.ok.rng k' hk').2.2
            rw [e] at this; exact this
          have hlul : lu.length ≤ 40 := by have := (hrd.out.ok.wl _ _ hlu).1; omega
          have hluI := (hrd.out.ok.wl _ _ hlu).2
          obtain ⟨y, hy⟩ : ∃ y, y = nextV l U x := ⟨_, rfl⟩
          rw [← hy] at hn1 hrg syes sno
          have hjI : (j : Int) < (L.length : Int) := by omega
          have HN1 := Lib.hid hn1
          have SY := Lib.hid syes
          have SN := Lib.hid sno
          have HLU := Lib.hid hlu
          have HLUI := Lib.hid hluI
          have HNR := Lib.hid hnr
          have HTL := Lib.hid htlen
          clear hx hy hn1 syes sno hlu hluI hnr htlen hrd
          go_wp2_with fail
          refine (HN1.out).mono ?_
          rintro e w2 ⟨rfl, hb2⟩
          have hord2 := ownsRow_keep hord hb2
          have hoo2 := hoo.keep hb2
          have hlets2 := ownsRow_keep hlets hb2
          have hbx2 := hbx.trans (hb2.mono hbx.size)
          clear q1 q2 q3 c1 hord hoo hlets hb2
          by_cases hneg : y < 0
          · have hst : Kept (Round l R N U s t (j + 1)) := ⟨by have h9 := HNR.out; rw [SN.out (.inl hneg)] at h9; exact h9⟩
            go_wp2
            go_roundw
            case rel => exact ⟨j + 1, go, cap3, t, by omega, htN, by go_num, rfl, hst, hord2, hoo2, hlets2, hgo, hne, hbx2⟩
            case measure => simp [intOf]; omega
          · obtain ⟨T, rfl⟩ := Int.eq_ofNat_of_zero_le (show 0 ≤ y by omega)
            have hTN : T < N := by
              rcases hrg with h | h
              · omega
              · simpa using h
            obtain ⟨hTl, hTe⟩ := wordAt_get (t := T) HTL.out hTN
            obtain ⟨hUl, hUe⟩ := wordAt_get (t := U) HTL.out hUN
            have hTNI : (T : Int) < (t.2.length : Int) := by omega
            have hUNI : (U : Int) < (t.2.length : Int) := by omega
            have hTlN : t.2.length = N := HTL.out
            cases hcs : t.2[T] with
            | some lw =>
              have hst : Kept (Round l R N U s t (j + 1)) := ⟨by have h9 := HNR.out; rw [SN.out (.inr (by rw [hTe, hcs]; simp))] at h9; exact h9⟩
              obtain ⟨gi, ci, d1, _, _, _⟩ := hoo2.some_ hTl hcs
              clear hcs hTe hUe hrg hneg
              have n1 := eql_nil_no ⟨gi, 0, none⟩ lw.length ci w2
              go_wp2
              go_roundw
              case rel => exact ⟨j + 1, go, cap3, t, by omega, htN, by go_num, rfl, hst, hord2, hoo2, hlets2, hgo, hne, hbx2⟩
              case measure => simp [intOf]; omega
            | none =>
              have hte : wordAt t (T : Int) = none := by rw [hTe, hcs]
              have hst : Kept (Round l R N U s (t.1 ++ [(T : Int)], t.2.set T (some (lu ++ [x]))) (j + 1)) := ⟨by have h9 := HNR.out; rw [SY.out (by omega) hte, HLU.out, Int.toNat_natCast] at h9; exact h9⟩
              have hTcell := hoo2.none_ hTl hcs
              obtain ⟨gi, ci, d1, d2, d3, d4⟩ := hoo2.some_ hUl (by rw [← hUe]; exact HLU.out)
              have hwx : Kept (∀ z ∈ lu ++ [x], I64 z) := ⟨fun z hz => by
                rcases List.mem_append.1 hz with h | h
                · exact HLUI.out z h
                · simp at h; rw [h]; exact hxI⟩
              have hcp := copyInts_any _ lu w2 d2.ints (by omega)
              have HCP := Lib.hid hcp
              have HCS := Lib.hid hcs
              have hgow : go < w2.heap.size := (ownsRow_parts hord2).2.1
              have hGw : W.heap.size < w2.heap.size := by have := hgo.out; omega
              have htlen2 : Kept ((t.1 ++ [(T : Int)]).length ≤ N) := ⟨hst.out.ok.le⟩
              clear hcs hTe hUe hte hcp d2 d3 d4 hrg
              have n1 := eql_nil_yes w2
              go_wp2_with fail
              refine (HCP.out).mono ?_
              rintro e w3 ⟨v9, rfl, o9, hb3⟩
              obtain ⟨g9, c9, rfl, hown9, _⟩ := o9
              have hg9 : w2.heap.size ≤ g9 := (ownsRow_parts hown9).1
              go_wp2_with (first
                | (at_builtin; have hb99 := hb4; clear hc4 hf4; refine wpl_push elemI rfl (.tmp 64) (.tmp 66) rfl rfl (hord5.alloc _) rfl HNEW5.out rfl (by omega) ?_; intro g6 c6 w6 hown6 hgrow6 hat6)
                | (at_builtin; refine wpl_push elemI rfl (.tmp 59) (.tmp 61) rfl rfl (hown9.alloc _) rfl (heap_alloc_new _ _) rfl (by omega) ?_; intro g4 c4 w4 hown4 hgrow4 hat4; have hb4 := below_push hb3 hgrow4 hg9 (Nat.le_refl _); have hoo4 := hoo2.keep hb4; have hc4 := hoo4.none_ hTl HCS.out; obtain ⟨vs4, hrow4⟩ := hoo4.row; have hf4 := hrow4.frozenAt T; have hg4 := (ownsRow_parts hown4).1; have hput := hoo4.put hTl (l := lu ++ [x]) (vi := .slice (some ⟨g4, 0, none⟩) (lu.length + 1) c4) ⟨g4, c4, by simp, ownsRow_base (by rw [List.length_append, List.length_singleton, intsV_append]; exact hown4) (Nat.le_trans hB.size (Nat.le_of_lt (Nat.lt_of_le_of_lt (Nat.le_refl _) hGw))), hwx.out⟩ (by simp only [Value.ownBlock, ne_eq, Option.some.injEq]; omega) (by simp only [Value.ownBlock, ne_eq, Option.some.injEq]; omega); have hord5 := (ownsRow_keep hord2 hb4).kept hput.2 (.inr (by simp only [Value.ownBlock, ne_eq, Option.some.injEq]; have := hgo.out; omega)); have hlets5 := (ownsRow_keep hlets2 hb4).kept hput.2 (.inr (by simp only [Value.ownBlock, ne_eq, Option.some.injEq]; exact fun e => hgLne.out.2 e)); have HNEW5 := Lib.hid (heap_new_at (w4.setCell ⟨W.heap.size, T, none⟩ (.slice (some ⟨g4, 0, none⟩) (lu.length + 1) c4)) w4.heap.size (.cells #[.int .i64 (T : Int)] 3 (0, 0)) (by simp))))
              have hb5 : Below W.heap.size W (w4.setCell ⟨W.heap.size, T, none⟩ (.slice (some ⟨g4, 0, none⟩) (lu.length + 1) c4)) := (hbx2.trans (hb4.mono hbx2.size)).grown hput.2 (hbx2.trans (hb4.mono hbx2.size)).size (fun k h => by cases h; exact Nat.le_refl _)
              have hb6 := below_push hb5 hgrow6 (Nat.le_of_lt hgo.out) (Nat.le_refl _)
              have hoo6 := (hput.1.keep ((Below.refl _ _).alloc (Nat.le_refl _) (.cells #[.int .i64 (T : Int)] 3 (0, 0)))).pushed (go' := g6) hgrow6 (Nat.ne_of_lt hgo.out) (by
                rcases hat6 with h | h
                · exact .inl h
                · exact .inr (by rw [h]; exact Nat.le_refl _))
              have hlets6 := (hlets5.alloc (.cells #[.int .i64 (T : Int)] 3 (0, 0))).kept hgrow6 (.inr (by simp only [Value.ownBlock, ne_eq, Option.some.injEq]; exact hne.out))
              have hg6 : Kept (W.heap.size < g6) := ⟨by
                rcases hat6 with h | h
                · rw [h]; exact hgo.out
                · have h5 := hb5.size
                  rw [h]; simp only [World.alloc, Array.size_push]; omega⟩
              have hne6 : Kept (gL ≠ g6) := ⟨by
                rcases hat6 with h | h
                · rw [h]; exact hne.out
                · have h5 := (ownsRow_parts hlets5).2.1
                  rw [h]; simp only [World.alloc, Array.size_push]; omega⟩
              have hl7 : t.1.length + 1 = (t.1 ++ [(T : Int)]).length := by simp
              have hord6 : w6.ownsRow w.heap.size 3 1 (.slice (some ⟨g6, 0, none⟩) (t.1 ++ [(T : Int)]).length c6) (t.1 ++ [(T : Int)]).length (intsV (t.1 ++ [(T : Int)])) := by rw [← hl7, intsV_append]; exact hown6
              have HL7 := Lib.hid hl7
              clear hown6 hl7
              go_roundw
              case rel => exact ⟨j + 1, g6, c6, (t.1 ++ [(T : Int)], t.2.set T (some (lu ++ [x]))), by omega, htlen2.out, by go_num, by rw [← HL7.out], hst, hord6, hoo6, hlets6, hg6, hne6, hb6⟩
              case measure => simp [intOf]; omega
        · obtain rfl : j = L.length := by omega
          have hfin : Kept (t = bfsAt l R V N (k + 1)) := ⟨HNEXT.out t (by rw [← HLe.out]; exact hrd.out)⟩
          have hk1 : k + 1 ≤ t.1.length := by have := hrd.out.grow; omega
          go_wp2
          go_roundw
          case rel => exact ⟨k + 1, go, cap3, t, hk1, htN, by go_num, rfl, hfin, hord, hoo, hgo, hbx⟩
          case measure => simp [intOf]; omega
    · obtain rfl : k = s.1.length := by omega
      have hfin : Kept (bfsF l R V N = s) := ⟨by
        rw [bfs_end (i := s.1.length) hsN (by rw [← hs.out]; exact Nat.le_refl _), ← hs.out]⟩
      have hl2 : Kept (s.2.length = N) := ⟨by rw [hs.out]; exact (HOK.out _).len⟩
      go_wp2
      go_ret2
      rw [hfin.out]
      exact ⟨W.heap.size, go, cap2, by rw [hl2.out]; rfl, hoo, hBx⟩
end Go.Proofs.Ytpebiacdkfpnpaa
