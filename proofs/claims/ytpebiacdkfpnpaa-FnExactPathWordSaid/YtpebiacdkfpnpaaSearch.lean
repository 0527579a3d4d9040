/- Contract of l5Search. Conditions: none but a graph and one of its vertices. -/
import Derived.Test.YtpebiacdkfpnpaaPathI
import Derived.Test.YtpebiacdkfpnpaaNextS
import Derived.Test.YtpebiacdkfpnpaaBools
import Derived.Deep.RegionHeld3
namespace Go.Proofs.Ytpebiacdkfpnpaa
open Go.RowKit

/-- Which vertices were found. -/
def foundB (s : Bfs) : List Bool := s.2.map Option.isSome
theorem foundB_len (s : Bfs) : (foundB s).length = s.2.length := by simp [foundB]
theorem foundB_get {s : Bfs} {t : Nat} (h : t < s.2.length) : (foundB s).getD t false = (s.2[t]).isSome := by
  simp [foundB, List.getD_eq_getElem?_getD, List.getElem?_map, List.getElem?_eq_getElem h]
theorem foundB_set (s : Bfs) (o : List Int) (t : Nat) (w : List Int) : foundB (o, s.2.set t (some w)) = (foundB s).set t true := by
  simp [foundB, List.map_set]
/-- The memory with which the search starts. -/
theorem search_start {W w0 w9 : World} {B N V : Nat} (hV : V < N) (hBW : B ≤ W.heap.size) (hgs : W.heap.size < w0.heap.size) (hb9 : Below W.heap.size W w9)
    (hseen : w9.ownsRow B 4 1 (.slice (some ⟨W.heap.size, 0, none⟩) N N) N (boolsV (List.replicate N false)))
    (hwords : w9.ownsRow w0.heap.size 33 1 (.slice (some ⟨w0.heap.size, 0, none⟩) N N) N (List.replicate N (.slice none 0 0))) :
    OwnO ((((w9.setCell ⟨W.heap.size, V, none⟩ (.bool true)).setCell ⟨w0.heap.size, V, none⟩ (.slice (some ⟨w9.heap.size, 0, none⟩) 0 0)).alloc (.cells #[] 3 (0, 0))).alloc (.cells #[.int .i64 V] 3 (0, 0))) w0.heap.size w0.heap.size (w9.heap.size + 1) ((List.replicate N none).set V (some [])) ∧
    ((((w9.setCell ⟨W.heap.size, V, none⟩ (.bool true)).setCell ⟨w0.heap.size, V, none⟩ (.slice (some ⟨w9.heap.size, 0, none⟩) 0 0)).alloc (.cells #[] 3 (0, 0))).alloc (.cells #[.int .i64 V] 3 (0, 0))).ownsRow B 4 1 (.slice (some ⟨W.heap.size, 0, none⟩) N N) N (boolsV ((List.replicate N false).set V true)) ∧
    ((((w9.setCell ⟨W.heap.size, V, none⟩ (.bool true)).setCell ⟨w0.heap.size, V, none⟩ (.slice (some ⟨w9.heap.size, 0, none⟩) 0 0)).alloc (.cells #[] 3 (0, 0))).alloc (.cells #[.int .i64 V] 3 (0, 0))).ownsRow B 3 1 (.slice (some ⟨w9.heap.size + 1, 0, none⟩) 1 1) 1 (intsV [(V : Int)]) ∧
    Below W.heap.size W ((((w9.setCell ⟨W.heap.size, V, none⟩ (.bool true)).setCell ⟨w0.heap.size, V, none⟩ (.slice (some ⟨w9.heap.size, 0, none⟩) 0 0)).alloc (.cells #[] 3 (0, 0))).alloc (.cells #[.int .i64 V] 3 (0, 0))) ∧ w0.heap.size < w9.heap.size := by
  have hg9 : w0.heap.size < w9.heap.size := (ownsRow_parts hwords).2.1
  have hsp := hseen.stored V (.bool true)
  rw [boolsV_set] at hsp
  obtain ⟨X3, hX3⟩ : ∃ X3, X3 = w9.setCell ⟨W.heap.size, V, none⟩ (.bool true) := ⟨_, rfl⟩
  have hs3 : X3.heap.size = w9.heap.size := by rw [hX3]; simp
  have hwd := hwords.kept hsp.2 (.inr (by simp only [Value.ownBlock, ne_eq, Option.some.injEq]; omega))
  rw [← World.setCell_alloc_past (.cells #[] 3 (0, 0)) w0.heap.size V (.slice (some ⟨w9.heap.size, 0, none⟩) 0 0) (by simpa using hg9)]
  rw [← hX3] at hsp hwd ⊢
  have hb3 : Below W.heap.size W X3 := hb9.grown hsp.2 hb9.size (fun k h => by cases h; exact Nat.le_refl _)
  have hal : Below X3.heap.size X3 (X3.alloc (.cells #[] 3 (0, 0))) := (Below.refl _ _).alloc (Nat.le_refl _) _
  have hnil : OwnI (X3.alloc (.cells #[] 3 (0, 0))) w0.heap.size (.slice (some ⟨w9.heap.size, 0, none⟩) 0 0) [] := by
    have : OwnI (X3.alloc (.cells #[] 3 (0, 0))) w0.heap.size (.slice (some ⟨X3.heap.size, 0, none⟩) 0 0) [] := ⟨_, _, rfl, World.ownsRow_made _ _ _ (by omega) (by decide) rfl, by simp⟩
    rwa [hs3] at this
  have hput := ((OwnO.start (go := w9.heap.size + 1) hwd).keep hal).put (i := V) (by simpa using hV) hnil (by simp only [Value.ownBlock, ne_eq, Option.some.injEq]; omega) (by simp only [Value.ownBlock, ne_eq, Option.some.injEq]; omega)
  obtain ⟨X5, hX5⟩ : ∃ X5, X5 = (X3.alloc (.cells #[] 3 (0, 0))).setCell ⟨w0.heap.size, V, none⟩ (.slice (some ⟨w9.heap.size, 0, none⟩) 0 0) := ⟨_, rfl⟩
  have hs5 : X5.heap.size = w9.heap.size + 1 := by rw [hX5]; simp [hs3]
  have hsn := (ownsRow_keep hsp.1 hal).kept hput.2 (.inr (by simp only [Value.ownBlock, ne_eq, Option.some.injEq]; omega))
  have hb4 := hb3.alloc hb3.size (.cells #[] 3 (0, 0))
  have hb5 := hb4.grown hput.2 hb4.size (fun k h => by cases h; omega)
  rw [← hX5] at hput hsn hb5 ⊢
  have hal5 : Below X5.heap.size X5 (X5.alloc (.cells #[.int .i64 V] 3 (0, 0))) := (Below.refl _ _).alloc (Nat.le_refl _) _
  refine ⟨hput.1.keep hal5, ownsRow_keep hsn hal5, ?_, hb5.alloc hb5.size _, hg9⟩
  rw [← hs5]
  exact ⟨rfl, .inr ⟨_, 1, _, rfl, Nat.le_trans hBW hb5.size, heap_alloc_new _ _, Nat.le_refl _, by decide, rfl, rfl⟩⟩
/-- A round, with what lay in the queue. -/
structure RoundQ (l : List Ed) (R N : Nat) (u : Int) (s t : Bfs) (j : Nat) : Prop where
  rd : Round l R N u s t j
  keep : ∀ i, i < s.1.length → t.1[i]? = s.1[i]?
theorem RoundQ.start {l : List Ed} {R N : Nat} {u : Int} {s : Bfs} (h : BfsOk N s) (hu : ∃ k, ∃ (h : k < s.1.length), s.1[k] = u) : RoundQ l R N u s s 0 := ⟨Round.start h hu, fun _ _ => rfl⟩
theorem RoundQ.next {l : List Ed} {R N : Nat} {u : Int} {s t : Bfs} {j : Nat} (h : RoundQ l R N u s t j) (hR : R ≤ 100) (hj : j < (lettersL R).length) (hr : ∀ x, nextV l u x < 0 ∨ (nextV l u x).toNat < N) : RoundQ l R N u s (stepB l u t (lettersL R)[j]) (j + 1) := by
  refine ⟨h.rd.next hR hj hr, fun i hi => ?_⟩
  have hx := lettersL_i64 hR _ (List.getElem_mem hj)
  obtain ⟨_, h2, _, _⟩ := h.rd.ok.step h.rd.at_ hx (hr _)
  have := h.rd.grow
  rw [h2 i (by omega), h.keep i hi]
theorem OwnO.other {w w' : World} {g go k : Nat} {ws : List (Option (List Int))} (h : OwnO w g g go ws) (hg : w.grownBy w' (some k)) (hk : k < g) : OwnO w' g g go ws := by
  obtain ⟨vs, ho, hr⟩ := h
  refine ⟨vs, ho.kept hg (.inr (by simp only [Value.ownBlock, ne_eq, Option.some.injEq]; omega)), fun i hi => ⟨(hr i hi).1, fun l hl => ?_⟩⟩
  obtain ⟨vi, a1, a2, a3⟩ := (hr i hi).2 l hl
  refine ⟨vi, a1, a2.grown hg ?_, a3⟩
  obtain ⟨b, hb, hlo, _⟩ := a2.block
  rw [hb]; simp only [ne_eq, Option.some.injEq]; omega
theorem OwnO.base {w : World} {B B' g go : Nat} {ws : List (Option (List Int))} (h : OwnO w B g go ws) (hb : B' ≤ B) : OwnO w B' g go ws := by
  obtain ⟨vs, ho, hr⟩ := h
  refine ⟨vs, ownsRow_base ho hb, fun i hi => ⟨(hr i hi).1, fun l hl => ?_⟩⟩
  obtain ⟨vi, a1, a2, a3⟩ := (hr i hi).2 l hl
  exact ⟨vi, a1, a2.base hb, a3⟩
theorem heap_kept {w w' : World} {row k : Nat} {o : Obj} (hg : w.grownBy w' (some row)) (h : w.heap[k]? = some o) (hne : k ≠ row) : w'.heap[k]? = some o := by
  rw [hg.block k (Array.getElem?_eq_some_iff.1 h).1 (by simpa using hne)]; exact h
theorem heap_old_at (w : World) (k : Nat) (o : Obj) {o' : Obj} (h : w.heap[k]? = some o') : (w.alloc o).heap[k]? = some o' := by
  rw [((Below.refl w.heap.size w).alloc (Nat.le_refl _) o).block k (Array.getElem?_eq_some_iff.1 h).1]; exact h
theorem made_at (w : World) (k B : Nat) (hk : w.heap.size = k) (hb : B ≤ w.heap.size) : (w.alloc (.cells #[] 3 (0, 0))).ownsRow B 3 1 (.slice (some ⟨k, 0, none⟩) 0 0) 0 [] := by
  subst hk; exact World.ownsRow_made _ _ _ hb (by decide) rfl
/-- What l5Search hands back: which vertices were found, and their words. -/
def RetSearch (w : World) (s : Bfs) (e : Ending) (w' : World) : Prop := ∃ g go gs, e = .returned (.tuple #[.slice (some ⟨gs, 0, none⟩) s.2.length s.2.length, .slice (some ⟨g, 0, none⟩) s.2.length s.2.length]) ∧ OwnO w' w.heap.size g go s.2 ∧ w'.ownsRow w.heap.size 4 1 (.slice (some ⟨gs, 0, none⟩) s.2.length s.2.length) s.2.length (boolsV (foundB s)) ∧ Below w.heap.size w w'
set_option maxRecDepth 20000 in
set_option maxHeartbeats 6400000 in
theorem l5Search_any (R N V : Nat) (v : Value) (l : List Ed) (w : World) (h : Edges w v l) (hG : isG (R : Int) (N : Int) l = true) (hV : V < N) :
    Calls Try.prog 59 #[graphV R N v, .int .i64 V] w (RetSearch w (bfsF l R V N)) := by
  obtain ⟨⟨_, hR3⟩, ⟨_, hN40⟩, hl120, _⟩ := isG_all hG
  have hR : R ≤ 3 := by omega
  have hN : N ≤ 40 := by omega
  clear hR3 hN40
  have hkeep := h
  obtain ⟨A, cap, rfl, _⟩ := h
  obtain ⟨i0, hi, hz0, hz1, hz2⟩ := info_parts elemII.info
  obtain ⟨j0, hj, hy0, hy1, hy2⟩ := info_parts elemBl.info
  obtain ⟨W, hW⟩ : ∃ W, W = w.alloc (.cells #[.int .i64 R, .int .i64 N, .slice A l.length cap] 29 (0, 0)) := ⟨_, rfl⟩
  have hB : Below w.heap.size w W := by rw [hW]; exact (Below.refl _ _).alloc (Nat.le_refl _) _
  have bx1 : Box W w.heap.size (.cells #[.int .i64 R, .int .i64 N, .slice A l.length cap] 29 (0, 0)) := by rw [hW]; exact Box.new _ _
  have hsz : W.heap.size = w.heap.size + 1 := by rw [hW]; simp
  have hnx := fun (u a : Int) (ha : I64 a) W' (hb : Below w.heap.size w W') => nextVertexS_any R N u a _ l W' (hkeep.keep hb) (by omega) ha (isG_lets hG)
  have hrng := nextV_rng hG
  have hok := bfs_ok (l := l) (r := R) (n := N) (v := (V : Int)) (by omega) (by omega) (by omega) hrng
  have HW := Lib.hid hW
  have BX := Lib.hid bx1
  have HSZ := Lib.hid hsz
  have HNX := Lib.hid hnx
  have HRNG := Lib.hid hrng
  have HOK := Lib.hid hok
  clear hW bx1 hsz hnx hrng hok hkeep hG
  go_enter Try.func59, Try.ntmps59
  go_wp2_with (first
    | (at_make; have mk2 := hown0; refine wpList_make_full _ rfl _ _ 52 rfl w0.heap.size 33 i0 (.slice none 0 0) 1 Try.underlying52 hi hz0 hz1 _ _ _ _ N rfl rfl rfl rfl (by rw [hz2]; omega) (by unfold maxLen; omega) (Nat.le_refl _) ?_; intro w9 hown9 hgrow9; have hb9 := hb0.trans ((Below.refl w0.heap.size w0).grown hgrow9 (Nat.le_refl _) (fun k h => by cases h) |>.mono hb0.size); have hsn9 := hown0.kept hgrow9 (.inr (by simp [Value.ownBlock])); obtain ⟨old2, hc2⟩ := ownsRow_cell hsn9 V hV; have hf2 := hsn9.frozenAt V; have hwd9 := hown9; rw [nonesV] at hwd9; have hsp9 := (hsn9.stored V (.bool true)).2; have hal9 := (hwd9.kept hsp9 (.inr (by simp only [Value.ownBlock, ne_eq, Option.some.injEq]; omega))).alloc (.cells #[] 3 (0, 0)); obtain ⟨old1, hc1⟩ := ownsRow_cell hal9 V hV; have hf1 := hal9.frozenAt V; obtain ⟨s1, s2, s3, s4, s5⟩ := search_start hV hB.size hgs0 hb9 hsn9 hwd9; clear q1 q2 q3; obtain ⟨q1, q2, q3⟩ := (BX.out.keep s4).cells)
    | (at_make; rw [← HW.out]; refine wpList_make_full _ rfl _ _ 73 rfl w.heap.size 4 j0 (.bool false) 1 Try.underlying73 hj hy0 hy1 _ _ _ _ N rfl rfl rfl rfl (by rw [hy2]; omega) (by unfold maxLen; omega) (by rw [HSZ.out]; omega) ?_; intro w0 hown0 hgrow0; rw [falsesV] at hown0; have hb0 : Below W.heap.size W w0 := (Below.refl _ _).grown hgrow0 (Nat.le_refl _) (fun k h => by cases h); have hgs0 : W.heap.size < w0.heap.size := (ownsRow_parts hown0).2.1; obtain ⟨q1, q2, q3⟩ := (BX.out.keep hb0).cells))
  obtain ⟨X6, hX6⟩ : ∃ X, X = ((((w9.setCell ⟨W.heap.size, V, none⟩ (.bool true)).setCell ⟨w0.heap.size, V, none⟩ (.slice (some ⟨w9.heap.size, 0, none⟩) 0 0)).alloc (.cells #[] 3 (0, 0))).alloc (.cells #[.int .i64 V] 3 (0, 0))) := ⟨_, rfl⟩
  rw [← hX6] at s1 s2 s3 s4 ⊢
  clear hX6 q1 q2 q3 hc1 hf1 hc2 hf2 hal9 hsp9 hwd9 hsn9 hgrow9 hown9 hb9 hown0 hgrow0 hb0 mk2
  refine (l5Letters_any R (by omega) X6).mono ?_
  rintro e w1 ⟨vL, rfl, oL, hb1⟩
  obtain ⟨L, hL⟩ : ∃ L, L = lettersL R := ⟨_, rfl⟩
  rw [← hL] at oL
  obtain ⟨gL, cL, rfl, hown, hIL⟩ := oL
  have ho1 := s1.keep hb1
  have hs1 := ownsRow_keep s2 hb1
  have hq1 := ownsRow_keep s3 hb1
  have hbel1 := s4.trans (hb1.mono s4.size)
  have hgL1 : X6.heap.size ≤ gL := (ownsRow_parts hown).1
  have hgq : w9.heap.size + 1 < X6.heap.size := (ownsRow_parts s3).2.1
  have hlets := ownsRow_base (b' := w.heap.size) hown (Nat.le_trans hB.size s4.size)
  have hgLne : Kept (gL ≠ w9.heap.size + 1) := ⟨by omega⟩
  have hgLG : Kept (gL ≠ w0.heap.size ∧ gL ≠ W.heap.size) := ⟨by omega, by omega⟩
  have hgo : Kept (w0.heap.size < w9.heap.size + 1) := ⟨by omega⟩
  have hLlen : L.length ≤ 200 := by rw [hL, lettersL_length]; omega
  have HLe := Lib.hid hL
  obtain ⟨G, hG⟩ : ∃ G, G = w0.heap.size := ⟨_, rfl⟩
  have hBG : w.heap.size ≤ G := by have := hB.size; omega
  have hf0 : foundB (bfsAt l R V N 0) = (List.replicate N false).set V true := by simp [foundB, bfsAt, List.map_set]
  rw [← hG] at ho1 hgLG hgo hgs0 ⊢
  clear s1 s2 s3 s4 s5 hown hgL1 hgq hL hb1 hG
  go_wp2
  go_loopw [8, 10, 11, 12] (fun ord i _ _ wr => ∃ (k go cap : Nat) (s : Bfs), k ≤ s.1.length ∧ s.1.length ≤ N ∧ i = .int .i64 k ∧ ord = .slice (some ⟨go, 0, none⟩) s.1.length cap ∧ Kept (s = bfsAt l R V N k) ∧ wr.ownsRow w.heap.size 3 1 (.slice (some ⟨go, 0, none⟩) s.1.length cap) s.1.length (intsV s.1) ∧ OwnO wr G G go s.2 ∧ wr.ownsRow w.heap.size 4 1 (.slice (some ⟨W.heap.size, 0, none⟩) N N) N (boolsV (foundB s)) ∧ wr.ownsRow w.heap.size 3 1 (.slice (some ⟨gL, 0, none⟩) L.length cL) L.length (intsV L) ∧ Kept (G < go) ∧ Kept (gL ≠ go) ∧ Below W.heap.size W wr)
    (fun _ i _ _ _ => N - (intOf i).toNat)
  case atStart => exact ⟨0, w9.heap.size + 1, 1, bfsAt l R V N 0, by simp [bfsAt], by simp [bfsAt]; omega, rfl, rfl, ⟨rfl⟩, hq1, by simpa [bfsAt] using ho1, by rw [hf0]; exact hs1, hlets, hgo, hgLne, hbel1⟩
  case round =>
    obtain ⟨k, go, cap2, s, hk, hsN, rfl, rfl, hs, hord, hoo, hsn, hlets, hgo, hgLne, hbel⟩ := hrel
    have hBx := hB.trans (hbel.mono hB.size)
    by_cases hlt : k < s.1.length
    · have hsok : BfsOk N s := by rw [hs.out]; exact HOK.out k
      obtain ⟨u0, u1, _⟩ := hsok.rng k hlt
      obtain ⟨u, hu⟩ : ∃ u, u = s.1[k] := ⟨_, rfl⟩
      rw [← hu] at u0 u1
      obtain ⟨U, hU⟩ := Int.eq_ofNat_of_zero_le u0
      have hst1 : Kept (RoundQ l R N u s s 0) := ⟨RoundQ.start hsok ⟨k, hlt, hu.symm⟩⟩
      have hnext : ∀ t, RoundQ l R N u s t (lettersL R).length → t = bfsAt l R V N (k + 1) := fun t ht => by
        have hk' : k < (bfsAt l R V N k).1.length := by rw [← hs.out]; exact hlt
        rw [bfs_next hk', ht.rd.eq, List.take_length]
        have : (bfsAt l R V N k).1[k] = u := by rw [hu]; simp only [← hs.out]
        rw [this, ← hs.out]
      have hkI : (k : Int) < (s.1.length : Int) := by omega
      have hUN : U < N := by rw [hU] at u1; simpa using u1
      have hku : s.1[k]? = some (U : Int) := by rw [List.getElem?_eq_getElem hlt, ← hu, hU]
      have HKU := Lib.hid hku
      have HNEXT := Lib.hid hnext
      subst hU
      clear hu u0 u1 hsok hnext hku
      go_wp2
      go_loopw [8, 11, 12] (fun ord idx _ wx => ∃ (j go cap : Nat) (t : Bfs), j ≤ L.length ∧ t.1.length ≤ N ∧ idx = .int .i64 j ∧ ord = .slice (some ⟨go, 0, none⟩) t.1.length cap ∧ Kept (RoundQ l R N U s t j) ∧ wx.ownsRow w.heap.size 3 1 (.slice (some ⟨go, 0, none⟩) t.1.length cap) t.1.length (intsV t.1) ∧ OwnO wx G G go t.2 ∧ wx.ownsRow w.heap.size 4 1 (.slice (some ⟨W.heap.size, 0, none⟩) N N) N (boolsV (foundB t)) ∧ wx.ownsRow w.heap.size 3 1 (.slice (some ⟨gL, 0, none⟩) L.length cL) L.length (intsV L) ∧ Kept (G < go) ∧ Kept (gL ≠ go) ∧ Below W.heap.size W wx)
        (fun _ idx _ _ => L.length - (intOf idx).toNat)
      case atStart => exact ⟨0, go, cap2, s, by omega, hsN, rfl, rfl, hst1, hord, hoo, hsn, hlets, hgo, hgLne, hbel⟩
      case round =>
        obtain ⟨j, go, cap3, t, hj, htN, rfl, rfl, hrd, hord, hoo, hsn, hlets, hgo, hne, hbx⟩ := hrel
        have hBx := hB.trans (hbx.mono hB.size)
        obtain ⟨q1, q2, q3⟩ := (BX.out.keep hbx).cells
        by_cases hjl : j < L.length
        · have c1 := hlets.cellAt j (by omega)
          rw [intsV, List.getElem?_map, List.getElem?_eq_getElem hjl] at c1
          simp only [Option.map_some] at c1
          have hkt : t.1[k]? = some (U : Int) := by rw [hrd.out.keep k hlt]; exact HKU.out
          have hktl : k < t.1.length := (List.getElem?_eq_some_iff.1 hkt).1
          have c2 := hord.cellAt k (by omega)
          rw [intsV, List.getElem?_map, hkt] at c2
          simp only [Option.map_some] at c2
          have hxI := hIL _ (List.getElem_mem hjl)
          have hnr : RoundQ l R N U s (stepB l U t L[j]) (j + 1) := by
            have := hrd.out.next (by omega) (by rw [← HLe.out]; exact hjl) (fun x => HRNG.out U x)
            simp only [← HLe.out] at this; exact this
          obtain ⟨x, hx⟩ : ∃ x, x = L[j] := ⟨_, rfl⟩
          rw [← hx] at c1 hxI hnr
          have hn1 := fun W' (hb : Below wr.heap.size wr W') => HNX.out U x hxI W' (hBx.trans (hb.mono hBx.size))
          have hrg := HRNG.out U x
          have syes := stepB_yes (l := l) (u := U) (x := x) (s := t)
          have sno := stepB_no (l := l) (u := U) (x := x) (s := t)
          have htlen := hrd.out.rd.ok.len
          obtain ⟨lu, hlu⟩ : ∃ lu, wordAt t U = some lu := by
            obtain ⟨k', hk', e⟩ := hrd.out.rd.at_
            have := (hrd.out.rd.ok.rng k' hk').2.2
            rw [e] at this; exact this
          have hlul : lu.length ≤ 40 := by have := (hrd.out.rd.ok.wl _ _ hlu).1; omega
          have hluI := (hrd.out.rd.ok.wl _ _ hlu).2
          obtain ⟨y, hy⟩ : ∃ y, y = nextV l U x := ⟨_, rfl⟩
          rw [← hy] at hn1 hrg syes sno
          have hjI : (j : Int) < (L.length : Int) := by omega
          have hktI : (k : Int) < (t.1.length : Int) := by omega
          have HN1 := Lib.hid hn1
          have SY := Lib.hid syes
          have SN := Lib.hid sno
          have HLU := Lib.hid hlu
          have HLUI := Lib.hid hluI
          have HNR := Lib.hid hnr
          have HTL := Lib.hid htlen
          have C1 := Lib.hid c1
          have C2 := Lib.hid c2
          have hgoY : go < wr.heap.size := (ownsRow_parts hord).2.1
          have hgLY : gL < wr.heap.size := (ownsRow_parts hlets).2.1
          clear hx hy hn1 syes sno hlu hluI hnr htlen hrd hkt c1 c2 q1 q2 q3
          go_wp2
          refine wp_region_held_drew (S := fun X => Below wr.heap.size wr X) (by kernel_rfl) ((Below.refl wr.heap.size wr).drew) (fun hHeld => ?_)
          refine wpAnyH_take (i := 0) (v := ?v1) rfl (by kernel_rfl) (by kernel_rfl) (by kernel_rfl) (fun _ _ _ h => h) (Or.inl ⟨by rfl, ?hy1⟩) (by assumption) ?rest1
          case hy1 => intro X hX; (try dsimp only at hX); obtain ⟨q1, q2, q3⟩ := (BX.out.keep (hbx.trans (hX.mono hbx.size))).cells; have z1 := (hX.cell (p := ⟨go, k, none⟩) hgoY).trans C2.out; have z3 := (hX.cell (p := ⟨gL, j, none⟩) hgLY).trans C1.out; go_simp <;> with_reducible rfl
          try simp only [List.getElem_toArray, List.getElem_cons_zero, Act.put, List.setIfInBounds_toArray, List.set_cons_zero, List.set_cons_succ]
          refine wpAnyH_take (i := 1) (v := ?v2) rfl (by kernel_rfl) (by kernel_rfl) (by kernel_rfl) (fun _ _ _ h => h) (Or.inl ⟨by rfl, ?hy2⟩) (by assumption) ?rest2
          case hy2 => intro X hX; (try dsimp only at hX); go_simp <;> with_reducible rfl
          try simp only [List.getElem_toArray, List.getElem_cons_succ, List.getElem_cons_zero, Act.put, List.setIfInBounds_toArray, List.set_cons_zero, List.set_cons_succ]
          refine wpAnyH_take (i := 2) (v := ?v3) rfl (by kernel_rfl) (by kernel_rfl) (by kernel_rfl) (fun _ _ _ h => h) (Or.inl ⟨by rfl, ?hy3⟩) (by assumption) ?rest3
          case hy3 => intro X hX; (try dsimp only at hX); go_simp <;> with_reducible rfl
          try simp only [List.getElem_toArray, List.getElem_cons_succ, List.getElem_cons_zero, Act.put, List.setIfInBounds_toArray, List.set_cons_zero, List.set_cons_succ]
          refine wpAnyH_take (i := 3) (v := ?v4) rfl (by kernel_rfl) (by kernel_rfl) (by kernel_rfl) (fun _ _ _ h => h) (Or.inl ⟨by rfl, ?hy4⟩) (by assumption) ?rest4
          case hy4 => intro X hX; (try dsimp only at hX); obtain ⟨q1, q2, q3⟩ := (BX.out.keep (hbx.trans (hX.mono hbx.size))).cells; have z1 := (hX.cell (p := ⟨go, k, none⟩) hgoY).trans C2.out; have z3 := (hX.cell (p := ⟨gL, j, none⟩) hgLY).trans C1.out; go_simp <;> with_reducible rfl
          try simp only [List.getElem_toArray, List.getElem_cons_succ, List.getElem_cons_zero, Act.put, List.setIfInBounds_toArray, List.set_cons_zero, List.set_cons_succ]
          refine wpAnyH_take (i := 4) (v := ?v5) rfl (by kernel_rfl) (by kernel_rfl) (by kernel_rfl) (fun _ _ _ h => h) (Or.inl ⟨by rfl, ?hy5⟩) (by assumption) ?rest5
          case hy5 => intro X hX; (try dsimp only at hX); obtain ⟨q1, q2, q3⟩ := (BX.out.keep (hbx.trans (hX.mono hbx.size))).cells; have z1 := (hX.cell (p := ⟨go, k, none⟩) hgoY).trans C2.out; have z3 := (hX.cell (p := ⟨gL, j, none⟩) hgLY).trans C1.out; go_simp <;> with_reducible rfl
          try simp only [List.getElem_toArray, List.getElem_cons_succ, List.getElem_cons_zero, Act.put, List.setIfInBounds_toArray, List.set_cons_zero, List.set_cons_succ]
          refine wpAnyH_take (i := 5) (v := ?v6) rfl (by kernel_rfl) (by kernel_rfl) (by kernel_rfl) (fun _ _ _ h => h) (Or.inl ⟨by rfl, ?hy6⟩) (by assumption) ?rest6
          case hy6 => intro X hX; (try dsimp only at hX); go_simp <;> with_reducible rfl
          try simp only [List.getElem_toArray, List.getElem_cons_succ, List.getElem_cons_zero, Act.put, List.setIfInBounds_toArray, List.set_cons_zero, List.set_cons_succ]
          refine wpAnyH_take (i := 6) (v := ?v7) rfl (by kernel_rfl) (by kernel_rfl) (by kernel_rfl) (fun _ _ _ h => h) (Or.inl ⟨by rfl, ?hy7⟩) (by assumption) ?rest7
          case hy7 => intro X hX; (try dsimp only at hX); go_simp <;> with_reducible rfl
          try simp only [List.getElem_toArray, List.getElem_cons_succ, List.getElem_cons_zero, Act.put, List.setIfInBounds_toArray, List.set_cons_zero, List.set_cons_succ]
          refine wpAnyH_take (i := 7) (v := ?v8) rfl (by kernel_rfl) (by kernel_rfl) (by kernel_rfl) (fun _ _ _ h => h) (Or.inl ⟨by rfl, ?hy8⟩) (by assumption) ?rest8
          case hy8 => intro X hX; (try dsimp only at hX); obtain ⟨q1, q2, q3⟩ := (BX.out.keep (hbx.trans (hX.mono hbx.size))).cells; have z1 := (hX.cell (p := ⟨go, k, none⟩) hgoY).trans C2.out; have z3 := (hX.cell (p := ⟨gL, j, none⟩) hgLY).trans C1.out; go_simp <;> with_reducible rfl
          try simp only [List.getElem_toArray, List.getElem_cons_succ, List.getElem_cons_zero, Act.put, List.setIfInBounds_toArray, List.set_cons_zero, List.set_cons_succ]
          refine wpAnyH_take (i := 8) (v := ?v9) rfl (by kernel_rfl) (by kernel_rfl) (by kernel_rfl) (fun _ _ _ h => h) (Or.inl ⟨by rfl, ?hy9⟩) (by assumption) ?rest9
          case hy9 => intro X hX; (try dsimp only at hX); obtain ⟨q1, q2, q3⟩ := (BX.out.keep (hbx.trans (hX.mono hbx.size))).cells; have z1 := (hX.cell (p := ⟨go, k, none⟩) hgoY).trans C2.out; have z3 := (hX.cell (p := ⟨gL, j, none⟩) hgLY).trans C1.out; go_simp <;> with_reducible rfl
          try simp only [List.getElem_toArray, List.getElem_cons_succ, List.getElem_cons_zero, Act.put, List.setIfInBounds_toArray, List.set_cons_zero, List.set_cons_succ]
          refine wpAnyH_ready (rs := [9]) (by kernel_rfl) (by simp) ?_
          refine AllReadyH.cons rfl (fun K hK => ?_) AllReadyH.nil
          go_simp
          go_at_call 11
          refine (HN1.out _ hHeld).mono ?_
          rintro e w2 ⟨rfl, hb2⟩
          (try go_simp)
          refine hK.out _ _ (hHeld.trans (hb2.mono hHeld.size)) (fun hHeld2 => ?_)
          replace hHeld := hHeld2
          clear hHeld2
          clear hK K
          try simp only [List.getElem_toArray, List.getElem_cons_succ, List.getElem_cons_zero, Act.put, List.setIfInBounds_toArray, List.set_cons_zero, List.set_cons_succ]
          refine wpAnyH_take (i := 10) (v := ?v10) rfl (by kernel_rfl) (by kernel_rfl) (by kernel_rfl) (fun _ _ _ h => h) (Or.inl ⟨by rfl, ?hy10⟩) (by assumption) ?rest10
          case hy10 => intro X hX; (try dsimp only at hX); go_simp <;> with_reducible rfl
          try simp only [List.getElem_toArray, List.getElem_cons_succ, List.getElem_cons_zero, Act.put, List.setIfInBounds_toArray, List.set_cons_zero, List.set_cons_succ]
          refine wpAnyH_done (by kernel_rfl) ?_ _
          have hord2 := ownsRow_keep hord hHeld
          have hoo2 := hoo.keep hHeld
          have hsn2 := ownsRow_keep hsn hHeld
          have hlets2 := ownsRow_keep hlets hHeld
          have hbx2 := hbx.trans (hHeld.mono hbx.size)
          have c1' := (hHeld.cell (p := ⟨gL, j, none⟩) hgLY).trans C1.out
          have c2' := (hHeld.cell (p := ⟨go, k, none⟩) hgoY).trans C2.out
          clear hord hoo hsn hlets hHeld
          by_cases hneg : y < 0
          · have hst : Kept (RoundQ l R N U s t (j + 1)) := ⟨by have h9 := HNR.out; rw [SN.out (.inl hneg)] at h9; exact h9⟩
            go_wp2
            go_roundw
            case rel => exact ⟨j + 1, go, cap3, t, by omega, htN, by go_num, rfl, hst, hord2, hoo2, hsn2, hlets2, hgo, hne, hbx2⟩
            case measure => simp [intOf]; omega
          · obtain ⟨T, rfl⟩ := Int.eq_ofNat_of_zero_le (show 0 ≤ y by omega)
            have hTN : T < N := by
              rcases hrg with h | h
              · omega
              · simpa using h
            obtain ⟨hTl, hTe⟩ := wordAt_get (t := T) HTL.out hTN
            obtain ⟨hUl, hUe⟩ := wordAt_get (t := U) HTL.out hUN
            have hTNI : (T : Int) < (N : Int) := by omega
            have hUNI : (U : Int) < (N : Int) := by omega
            have b1 := hsn2.cellAt T (by omega)
            rw [boolsV_get (by rw [foundB_len]; omega), foundB_get hTl] at b1
            cases hcs : t.2[T] with
            | some lw =>
              have hst : Kept (RoundQ l R N U s t (j + 1)) := ⟨by have h9 := HNR.out; rw [SN.out (.inr (by rw [hTe, hcs]; simp))] at h9; exact h9⟩
              rw [hcs] at b1
              simp only [Option.isSome_some] at b1
              clear hcs hTe hUe hrg hneg c1' c2'
              go_wp2
              go_roundw
              case rel => exact ⟨j + 1, go, cap3, t, by omega, htN, by go_num, rfl, hst, hord2, hoo2, hsn2, hlets2, hgo, hne, hbx2⟩
              case measure => simp [intOf]; omega
            | none =>
              rw [hcs] at b1
              simp only [Option.isSome_none] at b1
              have hte : wordAt t (T : Int) = none := by rw [hTe, hcs]
              have hst : Kept (RoundQ l R N U s (t.1 ++ [(T : Int)], t.2.set T (some (lu ++ [x]))) (j + 1)) := ⟨by have h9 := HNR.out; rw [SY.out (by omega) hte, HLU.out, Int.toNat_natCast] at h9; exact h9⟩
              have htlen2 : Kept ((t.1 ++ [(T : Int)]).length ≤ N) := ⟨hst.out.rd.ok.le⟩
              have hwx : Kept (∀ z ∈ lu ++ [x], I64 z) := ⟨fun z hz => by
                rcases List.mem_append.1 hz with h | h
                · exact HLUI.out z h
                · simp at h; rw [h]; exact hxI⟩
              have bf1 := hsn2.frozenAt T
              have hsp := hsn2.stored T (.bool true)
              rw [boolsV_set, ← foundB_set t (t.1 ++ [(T : Int)]) T (lu ++ [x])] at hsp
              obtain ⟨Y, hY⟩ : ∃ Y, Y = w2.setCell ⟨W.heap.size, T, none⟩ (.bool true) := ⟨_, rfl⟩
              have hYs : Y.heap.size = w2.heap.size := by rw [hY]; simp
              have hgow : go < w2.heap.size := (ownsRow_parts hord2).2.1
              have hgLw : gL < w2.heap.size := (ownsRow_parts hlets2).2.1
              have hordY := hord2.kept hsp.2 (.inr (by simp only [Value.ownBlock, ne_eq, Option.some.injEq]; have := hgo.out; omega))
              have hletsY := hlets2.kept hsp.2 (.inr (by simp only [Value.ownBlock, ne_eq, Option.some.injEq]; exact fun e => hgLG.out.2 e))
              have hooY := hoo2.other hsp.2 hgs0
              have hbY := hbx2.grown hsp.2 hbx2.size (fun k h => by cases h; exact Nat.le_refl _)
              have hsnY := hsp.1
              have c1Y : (w2.setCell ⟨W.heap.size, T, none⟩ (.bool true)).cell? ⟨gL, j, none⟩ = some (.int .i64 x) := (World.cell?_of_block (a := ⟨gL, j, none⟩) (hsp.2.block gL hgLw (by simp only [ne_eq, Option.some.injEq]; exact hgLG.out.2))).trans c1'
              have c2Y : (w2.setCell ⟨W.heap.size, T, none⟩ (.bool true)).cell? ⟨go, k, none⟩ = some (.int .i64 U) := (World.cell?_of_block (a := ⟨go, k, none⟩) (hsp.2.block go hgow (by simp only [ne_eq, Option.some.injEq]; have := hgo.out; omega))).trans c2'
              rw [← hY] at hordY hletsY hooY hbY hsnY c1Y c2Y
              obtain ⟨gi, ci, d1, d2, d3, d4⟩ := hooY.some_ hUl (by rw [← hUe]; exact HLU.out)
              have hgoY2 : go < Y.heap.size := by omega
              have hgLY2 : gL < Y.heap.size := by omega
              have hGY : G < Y.heap.size := by have := hgo.out; omega
              have HYE := Lib.hid hY
              have HCS := Lib.hid hcs
              have HOO := Lib.hid hooY
              have C1Y := Lib.hid c1Y
              have C2Y := Lib.hid c2Y
              have D1 := Lib.hid d1
              have LUI := Lib.hid d2.ints
              clear hcs hTe hUe hte hrg hY hsp hYs hgow hgLw c1' c2' c1Y c2Y d1 d2 d3 d4 hord2 hoo2 hsn2 hlets2 hbx2 hooY
              go_wp2
              rw [← HYE.out]
              clear b1 bf1
              have hUT : U ≠ T := fun e => by
                have h1 := HLU.out
                obtain ⟨_, h2⟩ := wordAt_get (t := U) HTL.out hUN
                rw [h2] at h1
                subst e
                rw [HCS.out] at h1; cases h1
              obtain ⟨S, hS⟩ : ∃ S : World → Prop, S = fun X => X.cell? ⟨go, k, none⟩ = some (.int .i64 U) ∧ X.cell? ⟨G, U, none⟩ = some (.slice (some ⟨gi, 0, none⟩) lu.length ci) ∧ X.cell? ⟨gL, j, none⟩ = some (.int .i64 x) := ⟨_, rfl⟩
              have sb : ∀ X, Below Y.heap.size Y X → S X := fun X hX => by rw [hS]; exact ⟨(hX.cell (p := ⟨go, k, none⟩) hgoY2).trans C2Y.out, (hX.cell (p := ⟨G, U, none⟩) hGY).trans D1.out, (hX.cell (p := ⟨gL, j, none⟩) hgLY2).trans C1Y.out⟩
              have sl : ∀ X, S X → X.cell? ⟨go, k, none⟩ = some (.int .i64 U) ∧ X.cell? ⟨G, U, none⟩ = some (.slice (some ⟨gi, 0, none⟩) lu.length ci) ∧ X.cell? ⟨gL, j, none⟩ = some (.int .i64 x) := fun X hX => by rw [hS] at hX; exact hX
              have sw : ∀ X v, Below Y.heap.size Y X → S (X.setCell ⟨G, T, none⟩ v) := fun X v hX => by
                obtain ⟨z1, z2, z3⟩ := sl X (sb X hX)
                rw [hS]
                exact ⟨(World.cell?_setCell_other X _ _ v (fun e => by injection e with e1 _; have := hgo.out; omega)).trans z1, (World.cell?_setCell_other X _ _ v (fun e => by injection e with _ e2; exact hUT e2.symm)).trans z2, (World.cell?_setCell_other X _ _ v (fun e => by injection e with e1 _; exact hgLG.out.1 e1.symm)).trans z3⟩
              have SB := Lib.hid sb
              have SL := Lib.hid sl
              have SW := Lib.hid sw
              clear sb sl sw hS hUT
              have hq0 : Below Y.heap.size Y Y.drew := (Below.refl Y.heap.size Y).drew
              refine wp_region_held_drew (S := S) (by kernel_rfl) (SB.out _ hq0) (fun hHeld => ?_)
              refine wpAnyH_take (i := 0) (v := ?v11) rfl (by kernel_rfl) (by kernel_rfl) (by kernel_rfl) (fun _ _ _ h => h) (Or.inl ⟨by rfl, ?hy11⟩) (by assumption) ?rest11
              case hy11 => intro X hX; (try dsimp only at hX); go_simp <;> with_reducible rfl
              try simp only [List.getElem_toArray, List.getElem_cons_zero, Act.put, List.setIfInBounds_toArray, List.set_cons_zero, List.set_cons_succ]
              refine wpAnyH_take (i := 1) (v := ?v12) rfl (by kernel_rfl) (by kernel_rfl) (by kernel_rfl) (fun _ _ _ h => h) (Or.inl ⟨by rfl, ?hy12⟩) (by assumption) ?rest12
              case hy12 => intro X hX; (try dsimp only at hX); go_simp <;> with_reducible rfl
              try simp only [List.getElem_toArray, List.getElem_cons_succ, List.getElem_cons_zero, Act.put, List.setIfInBounds_toArray, List.set_cons_zero, List.set_cons_succ]
              refine wpAnyH_take (i := 3) (v := ?v13) rfl (by kernel_rfl) (by kernel_rfl) (by kernel_rfl) (fun _ _ _ h => h) (Or.inl ⟨by rfl, ?hy13⟩) (by assumption) ?rest13
              case hy13 => intro X hX; (try dsimp only at hX); go_simp <;> with_reducible rfl
              try simp only [List.getElem_toArray, List.getElem_cons_succ, List.getElem_cons_zero, Act.put, List.setIfInBounds_toArray, List.set_cons_zero, List.set_cons_succ]
              refine wpAnyH_take (i := 4) (v := ?v14) rfl (by kernel_rfl) (by kernel_rfl) (by kernel_rfl) (fun _ _ _ h => h) (Or.inl ⟨by rfl, ?hy14⟩) (by assumption) ?rest14
              case hy14 => intro X hX; (try dsimp only at hX); go_simp <;> with_reducible rfl
              try simp only [List.getElem_toArray, List.getElem_cons_succ, List.getElem_cons_zero, Act.put, List.setIfInBounds_toArray, List.set_cons_zero, List.set_cons_succ]
              refine wpAnyH_take (i := 5) (v := ?v15) rfl (by kernel_rfl) (by kernel_rfl) (by kernel_rfl) (fun _ _ _ h => h) (Or.inl ⟨by rfl, ?hy15⟩) (by assumption) ?rest15
              case hy15 => intro X hX; (try dsimp only at hX); go_simp <;> with_reducible rfl
              try simp only [List.getElem_toArray, List.getElem_cons_succ, List.getElem_cons_zero, Act.put, List.setIfInBounds_toArray, List.set_cons_zero, List.set_cons_succ]
              refine wpAnyH_take (i := 6) (v := ?v16) rfl (by kernel_rfl) (by kernel_rfl) (by kernel_rfl) (fun _ _ _ h => h) (Or.inl ⟨by rfl, ?hy16⟩) (by assumption) ?rest16
              case hy16 => intro X hX; (try dsimp only at hX); obtain ⟨z1, z2, z3⟩ := SL.out X hX; go_simp <;> with_reducible rfl
              try simp only [List.getElem_toArray, List.getElem_cons_succ, List.getElem_cons_zero, Act.put, List.setIfInBounds_toArray, List.set_cons_zero, List.set_cons_succ]
              refine wpAnyH_take (i := 7) (v := ?v17) rfl (by kernel_rfl) (by kernel_rfl) (by kernel_rfl) (fun _ _ _ h => h) (Or.inl ⟨by rfl, ?hy17⟩) (by assumption) ?rest17
              case hy17 => intro X hX; (try dsimp only at hX); obtain ⟨z1, z2, z3⟩ := SL.out X hX; go_simp <;> with_reducible rfl
              try simp only [List.getElem_toArray, List.getElem_cons_succ, List.getElem_cons_zero, Act.put, List.setIfInBounds_toArray, List.set_cons_zero, List.set_cons_succ]
              refine wpAnyH_take (i := 8) (v := ?v18) rfl (by kernel_rfl) (by kernel_rfl) (by kernel_rfl) (fun _ _ _ h => h) (Or.inl ⟨by rfl, ?hy18⟩) (by assumption) ?rest18
              case hy18 => intro X hX; (try dsimp only at hX); obtain ⟨z1, z2, z3⟩ := SL.out X hX; go_simp <;> with_reducible rfl
              try simp only [List.getElem_toArray, List.getElem_cons_succ, List.getElem_cons_zero, Act.put, List.setIfInBounds_toArray, List.set_cons_zero, List.set_cons_succ]
              refine wpAnyH_take (i := 9) (v := ?v19) rfl (by kernel_rfl) (by kernel_rfl) (by kernel_rfl) (fun _ _ _ h => h) (Or.inl ⟨by rfl, ?hy19⟩) (by assumption) ?rest19
              case hy19 => intro X hX; (try dsimp only at hX); obtain ⟨z1, z2, z3⟩ := SL.out X hX; go_simp <;> with_reducible rfl
              try simp only [List.getElem_toArray, List.getElem_cons_succ, List.getElem_cons_zero, Act.put, List.setIfInBounds_toArray, List.set_cons_zero, List.set_cons_succ]
              refine wpAnyH_take (i := 11) (v := ?v20) rfl (by kernel_rfl) (by kernel_rfl) (by kernel_rfl) (fun _ _ _ h => h) (Or.inl ⟨by rfl, ?hy20⟩) (by assumption) ?rest20
              case hy20 => intro X hX; (try dsimp only at hX); go_simp <;> with_reducible rfl
              try simp only [List.getElem_toArray, List.getElem_cons_succ, List.getElem_cons_zero, Act.put, List.setIfInBounds_toArray, List.set_cons_zero, List.set_cons_succ]
              refine wpAnyH_take (i := 12) (v := ?v21) rfl (by kernel_rfl) (by kernel_rfl) (by kernel_rfl) (fun _ _ _ h => h) (Or.inl ⟨by rfl, ?hy21⟩) (by assumption) ?rest21
              case hy21 => intro X hX; (try dsimp only at hX); go_simp <;> with_reducible rfl
              try simp only [List.getElem_toArray, List.getElem_cons_succ, List.getElem_cons_zero, Act.put, List.setIfInBounds_toArray, List.set_cons_zero, List.set_cons_succ]
              refine wpAnyH_take (i := 13) (v := ?v22) rfl (by kernel_rfl) (by kernel_rfl) (by kernel_rfl) (fun _ _ _ h => h) (Or.inl ⟨by rfl, ?hy22⟩) (by assumption) ?rest22
              case hy22 => intro X hX; (try dsimp only at hX); obtain ⟨z1, z2, z3⟩ := SL.out X hX; go_simp <;> with_reducible rfl
              try simp only [List.getElem_toArray, List.getElem_cons_succ, List.getElem_cons_zero, Act.put, List.setIfInBounds_toArray, List.set_cons_zero, List.set_cons_succ]
              refine wpAnyH_take (i := 14) (v := ?v23) rfl (by kernel_rfl) (by kernel_rfl) (by kernel_rfl) (fun _ _ _ h => h) (Or.inl ⟨by rfl, ?hy23⟩) (by assumption) ?rest23
              case hy23 => intro X hX; (try dsimp only at hX); obtain ⟨z1, z2, z3⟩ := SL.out X hX; go_simp <;> with_reducible rfl
              try simp only [List.getElem_toArray, List.getElem_cons_succ, List.getElem_cons_zero, Act.put, List.setIfInBounds_toArray, List.set_cons_zero, List.set_cons_succ]
              refine wpAnyH_ready (rs := [2, 15]) (by kernel_rfl) (by simp) ?_
              refine AllReadyH.cons rfl (fun K hK => ?_) (AllReadyH.cons rfl (fun K hK => ?_) AllReadyH.nil)
              go_simp
              have hq1 := hq0.alloc hq0.size (.cells #[] 3 (0, 0))
              refine hK.out _ _ (SB.out _ hq1) (fun hHeld2 => ?_)
              replace hHeld := hHeld2
              clear hHeld2 hK K
              try simp only [List.getElem_toArray, List.getElem_cons_succ, List.getElem_cons_zero, Act.put, List.setIfInBounds_toArray, List.set_cons_zero, List.set_cons_succ]
              refine wpAnyH_ready (rs := [10, 15]) (by kernel_rfl) (by simp) ?_
              refine AllReadyH.cons rfl (fun K hK => ?_) (AllReadyH.cons rfl (fun K hK => ?_) AllReadyH.nil)
              refine step_app elemI rfl (.tmp 67) (.tmp 74) rfl rfl (World.ownsRow_made (base := Y.heap.size) (e := 3) (size := 1) Y.drew #[] 0 (Nat.le_refl _) (by decide) rfl) rfl (by simp [intsV]) ((LUI.out.keep hq1).news) (intsV_one _) (by omega) ?_
              intro g1 c1' X1 hown1 hgrow1 hat1
              have hq2 : Below Y.heap.size Y X1 := below_grown hq1 hgrow1 hq1.size (Nat.le_refl _)
              simp only [Nat.zero_add, List.nil_append] at hown1
              refine hK.out _ _ (SB.out _ hq2) (fun hHeld2 => ?_)
              replace hHeld := hHeld2
              clear hHeld2 hK K
              try simp only [List.getElem_toArray, List.getElem_cons_succ, List.getElem_cons_zero, Act.put, List.setIfInBounds_toArray, List.set_cons_zero, List.set_cons_succ]
              refine wpAnyH_ready (rs := [15]) (by kernel_rfl) (by simp) ?_
              refine AllReadyH.cons rfl (fun K hK => ?_) AllReadyH.nil
              go_simp
              have hq3 := hq2.alloc hq2.size (.cells #[.int .i64 x] 3 (0, 0))
              refine hK.out _ _ (SB.out _ hq3) (fun hHeld2 => ?_)
              replace hHeld := hHeld2
              clear hHeld2 hK K
              try simp only [List.getElem_toArray, List.getElem_cons_succ, List.getElem_cons_zero, Act.put, List.setIfInBounds_toArray, List.set_cons_zero, List.set_cons_succ]
              refine wpAnyH_ready (rs := [16]) (by kernel_rfl) (by simp) ?_
              refine AllReadyH.cons rfl (fun K hK => ?_) AllReadyH.nil
              refine step_push elemI rfl (.tmp 75) (.tmp 80) rfl rfl (hown1.alloc (.cells #[.int .i64 x] 3 (0, 0))) rfl (heap_alloc_new _ _) rfl (by omega) ?_
              intro g4 c4 w4 hown4 hgrow4 hat4
              have hb4 : Below Y.heap.size Y w4 := below_grown hq3 hgrow4 hq3.size (ownsRow_parts hown1).1
              refine hK.out _ _ (SB.out _ hb4) (fun hHeld2 => ?_)
              replace hHeld := hHeld2
              clear hHeld2 hK K
              try simp only [List.getElem_toArray, List.getElem_cons_succ, List.getElem_cons_zero, Act.put, List.setIfInBounds_toArray, List.set_cons_zero, List.set_cons_succ]
              refine wpAnyH_take (i := 17) (v := ?v24) rfl (by kernel_rfl) (by kernel_rfl) (by kernel_rfl) (fun _ _ _ h => h) (Or.inl ⟨by rfl, ?hy24⟩) (by assumption) ?rest24
              case hy24 => intro X hX; (try dsimp only at hX); go_simp <;> with_reducible rfl
              try simp only [List.getElem_toArray, List.getElem_cons_succ, List.getElem_cons_zero, Act.put, List.setIfInBounds_toArray, List.set_cons_zero, List.set_cons_succ]
              have hoo4 := HOO.out.keep hb4
              have hc4 := hoo4.none_ hTl HCS.out
              obtain ⟨vs4, hrow4⟩ := hoo4.row
              have hf4 := hrow4.frozenAt T
              refine wpAnyH_ready (rs := [18]) (by kernel_rfl) (by simp) ?_
              refine AllReadyH.cons rfl (fun K hK => ?_) AllReadyH.nil
              go_simp
              refine hK.out _ _ (SW.out _ _ hb4) (fun hHeld2 => ?_)
              replace hHeld := hHeld2
              clear hHeld2 hK K
              try simp only [List.getElem_toArray, List.getElem_cons_succ, List.getElem_cons_zero, Act.put, List.setIfInBounds_toArray, List.set_cons_zero, List.set_cons_succ]
              refine wpAnyH_done (by kernel_rfl) ?_ _
              rotate_left
              go_simp
              have hq2 := hq1.alloc hq1.size (.cells #[.int .i64 x] 3 (0, 0))
              refine hK.out _ _ (SB.out _ hq2) (fun hHeld2 => ?_)
              replace hHeld := hHeld2
              clear hHeld2 hK K
              try simp only [List.getElem_toArray, List.getElem_cons_succ, List.getElem_cons_zero, Act.put, List.setIfInBounds_toArray, List.set_cons_zero, List.set_cons_succ]
              refine wpAnyH_ready (rs := [10]) (by kernel_rfl) (by simp) ?_
              refine AllReadyH.cons rfl (fun K hK => ?_) AllReadyH.nil
              refine step_app elemI rfl (.tmp 67) (.tmp 74) rfl rfl ((World.ownsRow_made (base := Y.heap.size) (e := 3) (size := 1) Y.drew #[] 0 (Nat.le_refl _) (by decide) rfl).alloc (.cells #[.int .i64 x] 3 (0, 0))) rfl (by simp [intsV]) ((LUI.out.keep hq2).news) (intsV_one _) (by omega) ?_
              intro g1 c1' X1 hown1 hgrow1 hat1
              have hq3 : Below Y.heap.size Y X1 := below_grown hq2 hgrow1 hq2.size (Nat.le_refl _)
              simp only [Nat.zero_add, List.nil_append] at hown1
              refine hK.out _ _ (SB.out _ hq3) (fun hHeld2 => ?_)
              replace hHeld := hHeld2
              clear hHeld2 hK K
              try simp only [List.getElem_toArray, List.getElem_cons_succ, List.getElem_cons_zero, Act.put, List.setIfInBounds_toArray, List.set_cons_zero, List.set_cons_succ]
              have hxb := heap_kept hgrow1 (heap_new_at (Y.drew.alloc (.cells #[] 3 (0, 0))) (Y.heap.size + 1) (.cells #[.int .i64 x] 3 (0, 0)) (by simp)) (by omega)
              refine wpAnyH_ready (rs := [16]) (by kernel_rfl) (by simp) ?_
              refine AllReadyH.cons rfl (fun K hK => ?_) AllReadyH.nil
              refine step_push elemI rfl (.tmp 75) (.tmp 80) rfl rfl (show X1.ownsRow Y.heap.size 3 1 (.slice (some ⟨g1, 0, none⟩) (0 + lu.length) c1') (0 + lu.length) (intsV lu) from by rw [Nat.zero_add]; exact hown1) rfl (hxb) rfl (by omega) ?_
              intro g4 c4 w4 hown4 hgrow4 hat4
              rw [Nat.zero_add] at hown4
              have hb4 : Below Y.heap.size Y w4 := below_grown hq3 hgrow4 hq3.size (ownsRow_parts hown1).1
              refine hK.out _ _ (SB.out _ hb4) (fun hHeld2 => ?_)
              replace hHeld := hHeld2
              clear hHeld2 hK K
              try simp only [List.getElem_toArray, List.getElem_cons_succ, List.getElem_cons_zero, Act.put, List.setIfInBounds_toArray, List.set_cons_zero, List.set_cons_succ]
              refine wpAnyH_take (i := 17) (v := ?v25) rfl (by kernel_rfl) (by kernel_rfl) (by kernel_rfl) (fun _ _ _ h => h) (Or.inl ⟨by rfl, ?hy25⟩) (by assumption) ?rest25
              case hy25 => intro X hX; (try dsimp only at hX); go_simp <;> with_reducible rfl
              try simp only [List.getElem_toArray, List.getElem_cons_succ, List.getElem_cons_zero, Act.put, List.setIfInBounds_toArray, List.set_cons_zero, List.set_cons_succ]
              have hoo4 := HOO.out.keep hb4
              have hc4 := hoo4.none_ hTl HCS.out
              obtain ⟨vs4, hrow4⟩ := hoo4.row
              have hf4 := hrow4.frozenAt T
              refine wpAnyH_ready (rs := [18]) (by kernel_rfl) (by simp) ?_
              refine AllReadyH.cons rfl (fun K hK => ?_) AllReadyH.nil
              go_simp
              refine hK.out _ _ (SW.out _ _ hb4) (fun hHeld2 => ?_)
              replace hHeld := hHeld2
              clear hHeld2 hK K
              try simp only [List.getElem_toArray, List.getElem_cons_succ, List.getElem_cons_zero, Act.put, List.setIfInBounds_toArray, List.set_cons_zero, List.set_cons_succ]
              refine wpAnyH_done (by kernel_rfl) ?_ _
              rotate_left
              go_simp
              have hq1 := hq0.alloc hq0.size (.cells #[.int .i64 x] 3 (0, 0))
              refine hK.out _ _ (SB.out _ hq1) (fun hHeld2 => ?_)
              replace hHeld := hHeld2
              clear hHeld2 hK K
              try simp only [List.getElem_toArray, List.getElem_cons_succ, List.getElem_cons_zero, Act.put, List.setIfInBounds_toArray, List.set_cons_zero, List.set_cons_succ]
              refine wpAnyH_ready (rs := [2]) (by kernel_rfl) (by simp) ?_
              refine AllReadyH.cons rfl (fun K hK => ?_) AllReadyH.nil
              go_simp
              have hq2 := hq1.alloc hq1.size (.cells #[] 3 (0, 0))
              refine hK.out _ _ (SB.out _ hq2) (fun hHeld2 => ?_)
              replace hHeld := hHeld2
              clear hHeld2 hK K
              try simp only [List.getElem_toArray, List.getElem_cons_succ, List.getElem_cons_zero, Act.put, List.setIfInBounds_toArray, List.set_cons_zero, List.set_cons_succ]
              have hm9 := made_at (Y.drew.alloc (.cells #[.int .i64 x] 3 (0, 0))) (Y.heap.size + 1) Y.heap.size (by simp) (by simp)
              refine wpAnyH_ready (rs := [10]) (by kernel_rfl) (by simp) ?_
              refine AllReadyH.cons rfl (fun K hK => ?_) AllReadyH.nil
              refine step_app elemI rfl (.tmp 67) (.tmp 74) rfl rfl (hm9) rfl (by simp [intsV]) ((LUI.out.keep hq2).news) (intsV_one _) (by omega) ?_
              intro g1 c1' X1 hown1 hgrow1 hat1
              have hq3 : Below Y.heap.size Y X1 := below_grown hq2 hgrow1 hq2.size (Nat.le_succ _)
              simp only [Nat.zero_add, List.nil_append] at hown1
              refine hK.out _ _ (SB.out _ hq3) (fun hHeld2 => ?_)
              replace hHeld := hHeld2
              clear hHeld2 hK K
              try simp only [List.getElem_toArray, List.getElem_cons_succ, List.getElem_cons_zero, Act.put, List.setIfInBounds_toArray, List.set_cons_zero, List.set_cons_succ]
              have hxb := heap_kept hgrow1 (heap_old_at (Y.drew.alloc (.cells #[.int .i64 x] 3 (0, 0))) Y.heap.size (.cells #[] 3 (0, 0)) (heap_new_at Y.drew Y.heap.size (.cells #[.int .i64 x] 3 (0, 0)) rfl)) (by omega)
              refine wpAnyH_ready (rs := [16]) (by kernel_rfl) (by simp) ?_
              refine AllReadyH.cons rfl (fun K hK => ?_) AllReadyH.nil
              refine step_push elemI rfl (.tmp 75) (.tmp 80) rfl rfl (show X1.ownsRow Y.heap.size 3 1 (.slice (some ⟨g1, 0, none⟩) (0 + lu.length) c1') (0 + lu.length) (intsV lu) from by rw [Nat.zero_add]; exact hown1) rfl (hxb) rfl (by omega) ?_
              intro g4 c4 w4 hown4 hgrow4 hat4
              rw [Nat.zero_add] at hown4
              have hb4 : Below Y.heap.size Y w4 := below_grown hq3 hgrow4 hq3.size (ownsRow_parts hown1).1
              refine hK.out _ _ (SB.out _ hb4) (fun hHeld2 => ?_)
              replace hHeld := hHeld2
              clear hHeld2 hK K
              try simp only [List.getElem_toArray, List.getElem_cons_succ, List.getElem_cons_zero, Act.put, List.setIfInBounds_toArray, List.set_cons_zero, List.set_cons_succ]
              refine wpAnyH_take (i := 17) (v := ?v26) rfl (by kernel_rfl) (by kernel_rfl) (by kernel_rfl) (fun _ _ _ h => h) (Or.inl ⟨by rfl, ?hy26⟩) (by assumption) ?rest26
              case hy26 => intro X hX; (try dsimp only at hX); go_simp <;> with_reducible rfl
              try simp only [List.getElem_toArray, List.getElem_cons_succ, List.getElem_cons_zero, Act.put, List.setIfInBounds_toArray, List.set_cons_zero, List.set_cons_succ]
              have hoo4 := HOO.out.keep hb4
              have hc4 := hoo4.none_ hTl HCS.out
              obtain ⟨vs4, hrow4⟩ := hoo4.row
              have hf4 := hrow4.frozenAt T
              refine wpAnyH_ready (rs := [18]) (by kernel_rfl) (by simp) ?_
              refine AllReadyH.cons rfl (fun K hK => ?_) AllReadyH.nil
              go_simp
              refine hK.out _ _ (SW.out _ _ hb4) (fun hHeld2 => ?_)
              replace hHeld := hHeld2
              clear hHeld2 hK K
              try simp only [List.getElem_toArray, List.getElem_cons_succ, List.getElem_cons_zero, Act.put, List.setIfInBounds_toArray, List.set_cons_zero, List.set_cons_succ]
              refine wpAnyH_done (by kernel_rfl) ?_ _
              all_goals
                have hg4 := (ownsRow_parts hown4).1
                have hput := (HOO.out.keep hb4).put hTl (l := lu ++ [x]) (vi := .slice (some ⟨g4, 0, none⟩) (lu.length + 1) c4) ⟨g4, c4, by simp, ownsRow_base (by rw [List.length_append, List.length_singleton, intsV_append]; exact hown4) (Nat.le_of_lt hGY), hwx.out⟩ (by simp only [Value.ownBlock, ne_eq, Option.some.injEq]; omega) (by simp only [Value.ownBlock, ne_eq, Option.some.injEq]; omega)
                have hord5 := (ownsRow_keep hordY hb4).kept hput.2 (.inr (by simp only [Value.ownBlock, ne_eq, Option.some.injEq]; have := hgo.out; omega))
                have hlets5 := (ownsRow_keep hletsY hb4).kept hput.2 (.inr (by simp only [Value.ownBlock, ne_eq, Option.some.injEq]; exact fun e => hgLG.out.1 e))
                have hsn5 := (ownsRow_keep hsnY hb4).kept hput.2 (.inr (by simp only [Value.ownBlock, ne_eq, Option.some.injEq]; omega))
                have HNEW5 := Lib.hid (heap_new_at (w4.setCell ⟨G, T, none⟩ (.slice (some ⟨g4, 0, none⟩) (lu.length + 1) c4)) w4.heap.size (.cells #[.int .i64 (T : Int)] 3 (0, 0)) (by simp))
                have hb5 : Below W.heap.size W (w4.setCell ⟨G, T, none⟩ (.slice (some ⟨g4, 0, none⟩) (lu.length + 1) c4)) := (hbY.trans (hb4.mono hbY.size)).grown hput.2 (hbY.trans (hb4.mono hbY.size)).size (fun k h => by cases h; omega)
                go_wp2_with (at_builtin; refine wpl_push elemI rfl (.tmp 83) (.tmp 85) rfl rfl (hord5.alloc _) rfl HNEW5.out rfl (by omega) ?_; intro g6 c6 w6 hown6 hgrow6 hat6)
                have hb6 := below_push hb5 hgrow6 (by have := hgo.out; omega) (Nat.le_refl _)
                have hoo6 := (hput.1.keep ((Below.refl _ _).alloc (Nat.le_refl _) (.cells #[.int .i64 (T : Int)] 3 (0, 0)))).pushed (go' := g6) hgrow6 (Nat.ne_of_lt hgo.out) (by
                  rcases hat6 with h | h
                  · exact .inl h
                  · exact .inr (by rw [h]; exact Nat.le_refl _))
                have hlets6 := (hlets5.alloc (.cells #[.int .i64 (T : Int)] 3 (0, 0))).kept hgrow6 (.inr (by simp only [Value.ownBlock, ne_eq, Option.some.injEq]; exact hne.out))
                have hsn6 := (hsn5.alloc (.cells #[.int .i64 (T : Int)] 3 (0, 0))).kept hgrow6 (.inr (by simp only [Value.ownBlock, ne_eq, Option.some.injEq]; have := hgo.out; omega))
                have hg6 : Kept (G < g6) := ⟨by
                  rcases hat6 with h | h
                  · rw [h]; exact hgo.out
                  · have h5 := hb4.size
                    rw [h]; simp; omega⟩
                have hne6 : Kept (gL ≠ g6) := ⟨by
                  rcases hat6 with h | h
                  · rw [h]; exact hne.out
                  · have h5 := (ownsRow_parts hlets5).2.1
                    rw [h]; simp at h5 ⊢; omega⟩
                have hl7 : t.1.length + 1 = (t.1 ++ [(T : Int)]).length := by simp
                have hord6 : w6.ownsRow w.heap.size 3 1 (.slice (some ⟨g6, 0, none⟩) (t.1 ++ [(T : Int)]).length c6) (t.1 ++ [(T : Int)]).length (intsV (t.1 ++ [(T : Int)])) := by rw [← hl7, intsV_append]; exact hown6
                have HL7 := Lib.hid hl7
                clear hown6 hl7
                go_roundw
                case rel => exact ⟨j + 1, g6, c6, (t.1 ++ [(T : Int)], t.2.set T (some (lu ++ [x]))), by omega, htlen2.out, by go_num, by rw [← HL7.out], hst, hord6, hoo6, hsn6, hlets6, hg6, hne6, hb6⟩
                case measure => simp [intOf]; omega
        · obtain rfl : j = L.length := by omega
          have hfin : Kept (t = bfsAt l R V N (k + 1)) := ⟨HNEXT.out t (by rw [← HLe.out]; exact hrd.out)⟩
          have hk1 : k + 1 ≤ t.1.length := by have := hrd.out.rd.grow; omega
          go_wp2
          go_roundw
          case rel => exact ⟨k + 1, go, cap3, t, hk1, htN, by go_num, rfl, hfin, hord, hoo, hsn, hlets, hgo, hne, hbx⟩
          case measure => simp [intOf]; omega
    · obtain rfl : k = s.1.length := by omega
      have hfin : Kept (bfsF l R V N = s) := ⟨by
        rw [bfs_end (i := s.1.length) hsN (by rw [← hs.out]; exact Nat.le_refl _), ← hs.out]⟩
      have hl2 : Kept (s.2.length = N) := ⟨by rw [hs.out]; exact (HOK.out _).len⟩
      go_wp2
      go_ret2
      rw [hfin.out]
      exact ⟨G, go, W.heap.size, by rw [hl2.out]; rfl, hoo.base hBG, by rw [hl2.out]; exact hsn, hBx⟩
end Go.Proofs.Ytpebiacdkfpnpaa
