/- Contract of the reference's LoopWords. Conditions: at most 2^20 edges. -/
import Derived.Test.YtpebiacdkfpnpaaLoopI
import Derived.Test.YtpebiacdkfpnpaaNextS
import Derived.Test.YtpebiacdkfpnpaaReadS
import Derived.Deep.RegionHeld3
import Derived.IntWalk
namespace Go.Proofs.Ytpebiacdkfpnpaa
open Go.RowKit

theorem heap_new_at (w : World) (k : Nat) (o : Obj) (h : w.heap.size = k) : (w.alloc o).heap[k]? = some o := by subst h; exact heap_alloc_new w o
theorem heap_kept {w w' : World} {row k : Nat} {o : Obj} (hg : w.grownBy w' (some row)) (h : w.heap[k]? = some o) (hne : k ≠ row) : w'.heap[k]? = some o := by
  rw [hg.block k (Array.getElem?_eq_some_iff.1 h).1 (by simpa using hne)]; exact h
theorem heap_old_at (w : World) (k : Nat) (o : Obj) {o' : Obj} (h : w.heap[k]? = some o') : (w.alloc o).heap[k]? = some o' := by
  rw [((Below.refl w.heap.size w).alloc (Nat.le_refl _) o).block k (Array.getElem?_eq_some_iff.1 h).1]; exact h
theorem made_at (w : World) (k B : Nat) (hk : w.heap.size = k) (hb : B ≤ w.heap.size) : (w.alloc (.cells #[] 3 (0, 0))).ownsRow B 3 1 (.slice (some ⟨k, 0, none⟩) 0 0) 0 [] := by
  subst hk; exact World.ownsRow_made _ _ _ hb (by decide) rfl
/-- No block is of both. -/
def Disj (F G : Nat → Prop) : Prop := ∀ k, F k → ¬ G k
theorem Disj.symm {F G : Nat → Prop} (h : Disj F G) : Disj G F := fun k h1 h2 => h k h2 h1
theorem Disj.push {F G : Nat → Prop} {a b : Nat} (h : Disj F G) (hG : ∀ k, G k → k < a) : Disj (fun k => F k ∨ (a ≤ k ∧ k < b)) G := fun k h1 h2 => by
  rcases h1 with h1 | h1
  · exact h k h1 h2
  · have := hG k h2; omega
theorem FootL.started {w : World} {B : Nat} {o : Obj} (hb : B ≤ w.heap.size) (ho : o = .cells #[] 33 (0, 0)) : FootL (w.alloc o) B (fun k => k = w.heap.size) w.heap.size 0 [] [] := by subst ho; exact FootL.start hb
theorem inv_small {y x : Int} (h0 : y ≠ 0) (h1 : -3 ≤ y) (h2 : y ≤ 3) : inv y x = decide (x = -y) := by
  unfold inv
  by_cases h : x = -y
  · rw [decide_eq_true h, decide_eq_true_eq]; omega
  · rw [decide_eq_false h, decide_eq_false_iff_not]; exact fun e => h e.2.2.2
theorem layer_mem {l : List Ed} {r : Nat} {v : Int} {n : Nat} {w : List Int} (h : w ∈ layerW l r v n) : w.length = n ∧ (∀ x ∈ w, x ≠ 0 ∧ -(r : Int) ≤ x ∧ x ≤ r) ∧ readC l v w = w.length := by
  obtain ⟨h1, h2⟩ := List.mem_filter.1 h
  have h3 := levelW_mem h1
  exact ⟨h3.1, h3.2, by simpa [canRead] using h2⟩
theorem layer_len {l : List Ed} {r : Nat} {v : Int} {n : Nat} (hr : r ≤ 3) (hn : n ≤ 5) : (layerW l r v n).length ≤ 38880 := by
  refine Nat.le_trans (List.length_filter_le _ _) ?_
  have h1 := levelW_len hr n
  have h2 : 6 ^ n ≤ 6 ^ 5 := Nat.pow_le_pow_right (by decide) hn
  have : 6 ^ 5 = 7776 := by decide
  omega
def backs (l : List Ed) (v : Int) (w : List Int) : Bool := decide (readV l v w = v)
/-- The state of the two lists within a layer. -/
structure Lay2 (wr : World) (B : Nat) (gL cL : Nat) (L : List Int) (Fo : Nat → Prop) (go co : Nat) (vo : List Value) (outL : List (List Int)) (Fl : Nat → Prop) (gl cl : Nat) (vl : List Value) (layL : List (List Int)) (Fn : Nat → Prop) (gn cn : Nat) (vn : List Value) (nxt : List (List Int)) : Prop where
  out : FootL wr B Fo go co vo outL
  lay : FootL wr B Fl gl cl vl layL
  nxt : FootL wr B Fn gn cn vn nxt
  ol : Disj Fo Fl
  on : Disj Fo Fn
  ln : Disj Fl Fn
  lo : ¬ Fo gL
  ll : ¬ Fl gL
  ln2 : ¬ Fn gL
  lets : wr.ownsRow B 3 1 (.slice (some ⟨gL, 0, none⟩) L.length cL) L.length (intsV L)
theorem Lay2.keep {wr w2 : World} {B : Nat} {gL cL : Nat} {L : List Int} {Fo : Nat → Prop} {go co : Nat} {vo : List Value} {outL : List (List Int)} {Fl : Nat → Prop} {gl cl : Nat} {vl : List Value} {layL : List (List Int)} {Fn : Nat → Prop} {gn cn : Nat} {vn : List Value} {nxt : List (List Int)}
    (h : Lay2 wr B gL cL L Fo go co vo outL Fl gl cl vl layL Fn gn cn vn nxt) (hb : Below wr.heap.size wr w2) : Lay2 w2 B gL cL L Fo go co vo outL Fl gl cl vl layL Fn gn cn vn nxt :=
  ⟨h.out.keep hb, h.lay.keep hb, h.nxt.keep hb, h.ol, h.on, h.ln, h.lo, h.ll, h.ln2, ownsRow_keep h.lets hb⟩
theorem Lay2.pushOut {wr w2 w3 : World} {B g' cap' : Nat} {l9 : List Int} {v9 : Value} {gL cL : Nat} {L : List Int} {Fo : Nat → Prop} {go co : Nat} {vo : List Value} {outL : List (List Int)} {Fl : Nat → Prop} {gl cl : Nat} {vl : List Value} {layL : List (List Int)} {Fn : Nat → Prop} {gn cn : Nat} {vn : List Value} {nxt : List (List Int)}
    (h : Lay2 wr B gL cL L Fo go co vo outL Fl gl cl vl layL Fn gn cn vn nxt) (hb2 : Below wr.heap.size wr w2) (o9 : OwnI w2 wr.heap.size v9 l9) (hBw : B ≤ wr.heap.size)
    (hown' : w3.ownsRow B 33 1 (.slice (some ⟨g', 0, none⟩) (outL.length + 1) cap') (outL.length + 1) (vo ++ [v9]))
    (hgrow : (w2.alloc (.cells #[v9] 33 (0, 0))).grownBy w3 (some go)) (hat : g' = go ∨ g' = (w2.alloc (.cells #[v9] 33 (0, 0))).heap.size) :
    Lay2 w3 B gL cL L (fun k => Fo k ∨ (wr.heap.size ≤ k ∧ k < w3.heap.size)) g' cap' (vo ++ [v9]) (outL ++ [l9]) Fl gl cl vl layL Fn gn cn vn nxt := by
  have hal := hb2.alloc hb2.size (.cells #[v9] 33 (0, 0))
  have hL : gL < wr.heap.size := (ownsRow_parts h.lets).2.1
  refine ⟨h.out.push hb2 o9 hBw hown' hgrow hat, (h.lay.keep hal).far hgrow (h.ol go h.out.spine), (h.nxt.keep hal).far hgrow (h.on go h.out.spine), h.ol.push h.lay.lt, h.on.push h.nxt.lt, h.ln, fun h2 => ?_, h.ll, h.ln2, (ownsRow_keep h.lets hal).kept hgrow (.inr ?_)⟩
  · rcases h2 with h2 | h2
    · exact h.lo h2
    · omega
  · simp only [Value.ownBlock, ne_eq, Option.some.injEq]
    intro e; exact h.lo (e ▸ h.out.spine)
theorem Lay2.pushNxt {wr w2 w3 : World} {B g' cap' : Nat} {l9 : List Int} {v9 : Value} {gL cL : Nat} {L : List Int} {Fo : Nat → Prop} {go co : Nat} {vo : List Value} {outL : List (List Int)} {Fl : Nat → Prop} {gl cl : Nat} {vl : List Value} {layL : List (List Int)} {Fn : Nat → Prop} {gn cn : Nat} {vn : List Value} {nxt : List (List Int)}
    (h : Lay2 wr B gL cL L Fo go co vo outL Fl gl cl vl layL Fn gn cn vn nxt) (hb2 : Below wr.heap.size wr w2) (o9 : OwnI w2 wr.heap.size v9 l9) (hBw : B ≤ wr.heap.size)
    (hown' : w3.ownsRow B 33 1 (.slice (some ⟨g', 0, none⟩) (nxt.length + 1) cap') (nxt.length + 1) (vn ++ [v9]))
    (hgrow : (w2.alloc (.cells #[v9] 33 (0, 0))).grownBy w3 (some gn)) (hat : g' = gn ∨ g' = (w2.alloc (.cells #[v9] 33 (0, 0))).heap.size) :
    Lay2 w3 B gL cL L Fo go co vo outL Fl gl cl vl layL (fun k => Fn k ∨ (wr.heap.size ≤ k ∧ k < w3.heap.size)) g' cap' (vn ++ [v9]) (nxt ++ [l9]) := by
  have hal := hb2.alloc hb2.size (.cells #[v9] 33 (0, 0))
  have hL : gL < wr.heap.size := (ownsRow_parts h.lets).2.1
  refine ⟨(h.out.keep hal).far hgrow (h.on.symm gn h.nxt.spine), (h.lay.keep hal).far hgrow (h.ln.symm gn h.nxt.spine), h.nxt.push hb2 o9 hBw hown' hgrow hat, h.ol, (h.on.symm.push h.out.lt).symm, (h.ln.symm.push h.lay.lt).symm, h.lo, h.ll, fun h2 => ?_, (ownsRow_keep h.lets hal).kept hgrow (.inr ?_)⟩
  · rcases h2 with h2 | h2
    · exact h.ln2 h2
    · omega
  · simp only [Value.ownBlock, ne_eq, Option.some.injEq]
    intro e; exact h.ln2 (e ▸ h.nxt.spine)
set_option maxRecDepth 20000 in
set_option maxHeartbeats 12800000 in
theorem loopWordsS_any (r n v most : Int) (V : Value) (l : List Ed) (w : World) (h : Edges w V l) (hn : l.length ≤ 1048576) :
    Calls Try.prog 32 #[graphV r n V, .int .i64 v, .int .i64 most] w (RetL w (loopW r n v most l)) := by
  have hkeep := h
  obtain ⟨A, cap, rfl, _⟩ := h
  obtain ⟨Wb, hWb⟩ : ∃ W, W = w.alloc (.cells #[.int .i64 r, .int .i64 n, .slice A l.length cap] 29 (0, 0)) := ⟨_, rfl⟩
  obtain ⟨W, hW⟩ : ∃ W, W = Wb.alloc (.cells #[] 33 (0, 0)) := ⟨_, rfl⟩
  have hB0 : Below w.heap.size w Wb := by rw [hWb]; exact (Below.refl _ _).alloc (Nat.le_refl _) _
  have hBW : Below Wb.heap.size Wb W := by rw [hW]; exact (Below.refl _ _).alloc (Nat.le_refl _) _
  have hB := hB0.trans (hBW.mono hB0.size)
  have bx1 : Box Wb w.heap.size (.cells #[.int .i64 r, .int .i64 n, .slice A l.length cap] 29 (0, 0)) := by rw [hWb]; exact Box.new _ _
  have hsz : Wb.heap.size = w.heap.size + 1 := by rw [hWb]; simp
  have hF0 : FootL W Wb.heap.size (fun k => k = Wb.heap.size) Wb.heap.size 0 [] [] := by rw [hW]; exact FootL.start (Nat.le_refl _)
  obtain ⟨m, hm⟩ : ∃ m, wrap64 (n - 1) = m := ⟨_, rfl⟩
  obtain ⟨y, hy⟩ : ∃ y, y = isFold r n l := ⟨_, rfl⟩
  obtain ⟨z, hz⟩ : ∃ z, z = inV n v := ⟨_, rfl⟩
  obtain ⟨z2, hz2⟩ : ∃ z, z = decide (0 ≤ most ∧ most ≤ 4) := ⟨_, rfl⟩
  obtain ⟨c, hc⟩ : ∃ c, c = canLoop r n v most l := ⟨_, rfl⟩
  have hyz : c = (y && (z && z2)) := by rw [hc, hy, hz, hz2]; rfl
  have hq := isFoldedS_any r n _ l W (hkeep.keep hB) hn
  have hh := fun W => l1In_any v 0 m W
  have hmm := fun W => l1In_any most 0 4 W
  rw [← hy] at hq
  rw [show decide (0 ≤ v ∧ v ≤ m) = inV n v by rw [inV, hm], ← hz] at hh
  rw [← hz2] at hmm
  have HWW := Lib.hid (hW.trans (by rw [hWb]) : W = (w.alloc (.cells #[.int .i64 r, .int .i64 n, .slice A l.length cap] 29 (0, 0))).alloc (.cells #[] 33 (0, 0)))
  have BX := Lib.hid bx1
  have HSZ := Lib.hid hsz
  have HQ := Lib.hid hq
  have HH := Lib.hid hh
  have HM := Lib.hid hmm
  have HY := Lib.hid hy
  have HZ := Lib.hid hz
  have HZ2 := Lib.hid hz2
  have HC := Lib.hid hc
  have HYZ := Lib.hid hyz
  clear hWb hW bx1 hsz hq hh hmm hy hz hz2 hc hyz
  go_enter Try.func32, Try.ntmps32
  go_wp2_with fail
  rw [← HWW.out]
  refine (HQ.out).mono ?_
  rintro e w1 ⟨rfl, hb1⟩
  have hB1 := hBW.trans (hb1.mono hBW.size)
  have hF1 := hF0.keep hb1
  obtain ⟨q1, q2, q3⟩ := (BX.out.keep hB1).cells
  cases y with
  | false =>
    have hst : Kept (loopW r n v most l = []) := ⟨loopW_no (by rw [← HC.out, HYZ.out]; rfl)⟩
    go_wp2
    go_ret
    rw [hst.out, ← HSZ.out]
    exact ⟨_, rfl, hF1.ownL.base hB0.size, hB0.trans (hB1.mono hB0.size)⟩
  | true =>
    go_wp2_with fail
    refine (HH.out _).mono ?_
    rintro e w2 ⟨rfl, rfl⟩
    cases z with
    | false =>
      have hst : Kept (loopW r n v most l = []) := ⟨loopW_no (by rw [← HC.out, HYZ.out]; rfl)⟩
      go_wp2
      go_ret
      rw [hst.out, ← HSZ.out]
      exact ⟨_, rfl, hF1.ownL.base hB0.size, hB0.trans (hB1.mono hB0.size)⟩
    | true =>
      go_wp2_with fail
      refine (HM.out _).mono ?_
      rintro e w3 ⟨rfl, rfl⟩
      cases z2 with
      | false =>
        have hst : Kept (loopW r n v most l = []) := ⟨loopW_no (by rw [← HC.out, HYZ.out]; rfl)⟩
        go_wp2
        go_ret
        rw [hst.out, ← HSZ.out]
        exact ⟨_, rfl, hF1.ownL.base hB0.size, hB0.trans (hB1.mono hB0.size)⟩
      | true =>
        have hct : c = true := HYZ.out
        subst hct
        have hG := isFold_g HY.out.symm
        obtain ⟨g1, g2, g3, g4⟩ := isG_all hG
        have hmost := of_decide_eq_true HZ2.out.symm
        obtain ⟨R, rfl⟩ := Int.eq_ofNat_of_zero_le (show 0 ≤ r by omega)
        obtain ⟨M, rfl⟩ := Int.eq_ofNat_of_zero_le hmost.1
        have hR3 : R ≤ 3 := by omega
        have hM4 : M ≤ 4 := by omega
        have hres : loopW (R : Int) n v (M : Int) l = (belowW R (M + 1)).filter (isLoop l v) := by rw [loopW_yes HC.out.symm]; rfl
        have hnx := fun (u a : Int) (ha : I64 a) W' (hb : Below w.heap.size w W') => nextVertexS_any (R : Int) n u a _ l W' (hkeep.keep hb) hn ha (isG_lets hG)
        have hwk := fun (u2 : Value) (us : List Int) W' (hb : Below w.heap.size w W') (hu : Ints W' u2 us) (hul : us.length ≤ 1048576) => walkWordS_any (R : Int) n v _ u2 l us W' (hkeep.keep hb) hu hn hul
        have hcw : canWalk (R : Int) n v l = true := by unfold canWalk; rw [← HY.out, ← HZ.out]; rfl
        have hlets := fun W => l5Letters_any R (by omega) W
        have HRES := Lib.hid hres
        have HNX := Lib.hid hnx
        have HWK := Lib.hid hwk
        have HCW := Lib.hid hcw
        have HLT := Lib.hid hlets
        have hone := (FootL.one w1).from_ (B' := Wb.heap.size) hB1.size
        have hb4 : Below w1.heap.size w1 ((w1.alloc (.cells #[] 3 (0, 0))).alloc (.cells #[.slice (some ⟨w1.heap.size, 0, none⟩) 0 0] 33 (0, 0))) := ((Below.refl _ _).alloc (Nat.le_refl _) _).alloc (by simp) _
        have hF4 := hF1.keep hb4
        have hB4 := hB1.trans (hb4.mono hB1.size)
        have hdis : Disj (fun k => k = Wb.heap.size) (fun k => (k = w1.heap.size ∨ k = w1.heap.size + 1) ∧ w1.heap.size ≤ k) := fun k h1 h2 => by
          have := hF1.lt _ h1; omega
        clear g1 g2 g3 g4 hmost hG hres hnx hwk hcw hlets hF0 hF1 hB1 hb4 hm
        clear q1 q2 q3
        obtain ⟨q1, q2, q3⟩ := (BX.out.keep hB4).cells
        go_wp2_with fail
        refine (HLT.out _).mono ?_
        rintro e w4 ⟨vL, rfl, oL, hb5⟩
        obtain ⟨L, hL⟩ : ∃ L, L = lettersL R := ⟨_, rfl⟩
        rw [← hL] at oL
        obtain ⟨gL, cL, rfl, hownL, hIL⟩ := oL
        have hgL : _ ≤ gL := (ownsRow_parts hownL).1
        have hLlen : L.length ≤ 6 := by rw [hL, lettersL_length]; omega
        have hFo := hF4.keep hb5
        have hFl := hone.keep hb5
        have hB5 := hB4.trans (hb5.mono hB4.size)
        have hloF : ¬ (fun k => k = Wb.heap.size) gL := fun h1 => by have := hF4.lt _ h1; omega
        have hllF : ¬ (fun k => (k = w1.heap.size ∨ k = w1.heap.size + 1) ∧ w1.heap.size ≤ k) gL := fun h1 => by have := hone.lt _ h1; omega
        have hltr := ownsRow_base (b' := Wb.heap.size) hownL hB4.size
        have HLe := Lib.hid hL
        obtain ⟨Fo0, hFo0⟩ : ∃ F, F = (fun k => k = Wb.heap.size) := ⟨_, rfl⟩
        obtain ⟨Fl0, hFl0⟩ : ∃ F, F = (fun k => (k = w1.heap.size ∨ k = w1.heap.size + 1) ∧ w1.heap.size ≤ k) := ⟨_, rfl⟩
        rw [← hFo0] at hdis hFo hloF
        rw [← hFl0] at hdis hFl hllF
        clear hF4 hone hownL hb5 hB4 hL hgL hFo0 hFl0 q1 q2 q3
        go_wp2
        go_loopw [7, 8, 10, 11, 12, 13, 14, 15, 16] (fun out lay n_ _ _ _ _ _ _ wr => ∃ (k go co gl cl : Nat) (vo vl : List Value) (Fo Fl : Nat → Prop) (outL layL : List (List Int)), k ≤ M + 1 ∧ n_ = .int .i64 k ∧ out = .slice (some ⟨go, 0, none⟩) outL.length co ∧ lay = .slice (some ⟨gl, 0, none⟩) layL.length cl ∧ Kept (outL = (belowW R k).filter (isLoop l v) ∧ layL = layerW l R v k) ∧ outL.length ≤ 38880 ∧ layL.length ≤ 38880 ∧ FootL wr Wb.heap.size Fo go co vo outL ∧ FootL wr Wb.heap.size Fl gl cl vl layL ∧ Kept (Disj Fo Fl ∧ ¬ Fo gL ∧ ¬ Fl gL) ∧ wr.ownsRow Wb.heap.size 3 1 (.slice (some ⟨gL, 0, none⟩) L.length cL) L.length (intsV L) ∧ Below Wb.heap.size Wb wr)
          (fun _ _ n_ _ _ _ _ _ _ _ => M + 1 - (intOf n_).toNat)
        case atStart => exact ⟨0, Wb.heap.size, 0, _, 1, _, _, _, _, [], [[]], by omega, rfl, by rw [HSZ.out]; rfl, rfl, ⟨rfl, rfl⟩, by simp, by simp, hFo, hFl, ⟨hdis, hloF, hllF⟩, hltr, hB5⟩
        case round =>
          clear hFo hFl hdis hloF hllF hltr hB5
          obtain ⟨k, go, co, gl, cl, vo, vl, Fo, Fl, outL, layL, hk, rfl, rfl, rfl, hst, hol, hll, hFo, hFl, hdj, hltr, hbel⟩ := hrel
          rename World => W5
          by_cases hlt : k ≤ M
          · have tk : (k : Int) ≤ (M : Int) := by omega
            have hFn := FootL.start (B := Wb.heap.size) hbel.size
            have hbn : Below W5.heap.size W5 (W5.alloc (.cells #[] 33 (0, 0))) := (Below.refl _ _).alloc (Nat.le_refl _) _
            have hgLlt : gL < W5.heap.size := (ownsRow_parts hltr).2.1
            have hst0 : Lay2 (W5.alloc (.cells #[] 33 (0, 0))) Wb.heap.size gL cL L Fo go co vo outL Fl gl cl vl layL (fun k => k = W5.heap.size) W5.heap.size 0 [] [] :=
              ⟨hFo.keep hbn, hFl.keep hbn, hFn, hdj.out.1, fun k h1 h2 => by have := hFo.lt _ h1; omega, fun k h1 h2 => by have := hFl.lt _ h1; omega, hdj.out.2.1, hdj.out.2.2, fun h1 => by omega, ownsRow_keep hltr hbn⟩
            have hbel0 := hbel.trans (hbn.mono hbel.size)
            have hlm : Kept (∀ u, u ∈ layL → u.length = k ∧ (∀ x ∈ u, x ≠ 0 ∧ -(R : Int) ≤ x ∧ x ≤ R) ∧ readC l v u = u.length) := ⟨fun u hu => layer_mem (by rw [← hst.out.2]; exact hu)⟩
            have hfinO : Kept (outL ++ layL.filter (backs l v) = (belowW R (k + 1)).filter (isLoop l v)) := ⟨by
              rw [hst.out.1, hst.out.2, belowW, List.filter_append, layer_loops]; rfl⟩
            have hfinL : Kept (layL.flatMap (extR l v (lettersL R)) = layerW l R v (k + 1)) := ⟨by rw [hst.out.2, layer_next]⟩
            have hfinN : Kept (((belowW R (k + 1)).filter (isLoop l v)).length ≤ 38880 ∧ (layerW l R v (k + 1)).length ≤ 38880) := ⟨Nat.le_trans (List.length_filter_le _ _) (belowW_small hR3 (by omega)), layer_len hR3 (by omega)⟩
            clear hFo hFl hFn hdj hltr hbel hbn hst hgLlt
            go_wp2
            go_loopw [7, 11, 12, 13, 14, 15, 16] (fun out nx i_ _ _ _ _ wr => ∃ (i go2 co2 gn cn : Nat) (vo2 vn : List Value) (Fo2 Fn : Nat → Prop) (outL2 nxt : List (List Int)), i ≤ layL.length ∧ i_ = .int .i64 i ∧ out = .slice (some ⟨go2, 0, none⟩) outL2.length co2 ∧ nx = .slice (some ⟨gn, 0, none⟩) nxt.length cn ∧ Kept (outL2 = outL ++ (layL.take i).filter (backs l v) ∧ nxt = (layL.take i).flatMap (extR l v (lettersL R))) ∧ outL2.length ≤ outL.length + i ∧ nxt.length ≤ 6 * i ∧ Lay2 wr Wb.heap.size gL cL L Fo2 go2 co2 vo2 outL2 Fl gl cl vl layL Fn gn cn vn nxt ∧ Below Wb.heap.size Wb wr)
              (fun _ _ i_ _ _ _ _ _ => layL.length - (intOf i_).toNat)
            case atStart => exact ⟨0, go, co, W5.heap.size, 0, vo, [], Fo, _, outL, [], by omega, rfl, rfl, rfl, ⟨by simp, by simp⟩, by omega, by simp, hst0, hbel0⟩
            case round =>
              clear hst0 hbel0
              obtain ⟨i, go2, co2, gn, cn, vo2, vn, Fo2, Fn, outL2, nxt, hi, rfl, rfl, rfl, hst2, hol2, hnl2, hLy, hbel⟩ := hrel
              rename World => W6
              by_cases hil : i < layL.length
              · have ti : (i : Int) < (layL.length : Int) := by omega
                obtain ⟨gi, ci, hui, c1, hrow, hFi, hgi⟩ := hLy.lay.at_ hil
                obtain ⟨u, hu⟩ : ∃ u, u = layL[i] := ⟨_, rfl⟩
                obtain ⟨hul, huL, huC⟩ := hlm.out u (by rw [hu]; exact List.getElem_mem hil)
                rw [← hu] at hui c1 hrow
                obtain ⟨q1, q2, q3⟩ := (BX.out.keep hbel).cells
                have hwk := HWK.out _ u W6 (hB0.trans (hbel.mono hB0.size)) hrow.ints (by omega)
                rw [(walk_all HCW.out huC).2, (walk_all HCW.out huC).1] at hwk
                obtain ⟨ev, hev⟩ : ∃ z, z = readV l v u := ⟨_, rfl⟩
                rw [← hev] at hwk
                have hyes := fun (xs : List Int) (x : Int) => extR_yes (l := l) (v := v) (xs := xs) (w := u) (x := x)
                have hno := fun (xs : List Int) (x : Int) => extR_no (l := l) (v := v) (xs := xs) (w := u) (x := x)
                rw [← hev] at hyes hno
                have hnextN : Kept (nxt ++ extR l v (lettersL R) u = (layL.take (i + 1)).flatMap (extR l v (lettersL R))) := ⟨by rw [hst2.out.2, take_get hil, List.flatMap_append, ← hu]; simp⟩
                have huI := hrow.ints.range
                have HWK1 := Lib.hid hwk
                have HYES := Lib.hid hyes
                have HNO := Lib.hid hno
                have hgiY : gi < W6.heap.size := hLy.lay.lt gi hFi
                have huL3 : ∀ x ∈ u, x ≠ 0 ∧ -3 ≤ x ∧ x ≤ 3 := fun x hx => by have := huL x hx; omega
                have HUL := Lib.hid huL3
                have HU := Lib.hid hu.symm
                have hul5 : u.length ≤ 5 := by omega
                have HROW := Lib.hid hrow
                have HUI := Lib.hid hui
                clear hwk hyes hno huL huC hui hrow hul huL3
                by_cases hb : ev = v
                · have hnextO : Kept (outL2 ++ [u] = outL ++ (layL.take (i + 1)).filter (backs l v)) := ⟨by
                    have hb2 : backs l v u = true := decide_eq_true (by rw [← hev]; exact hb)
                    rw [hst2.out.1, take_get hil, List.filter_append, ← hu]; simp [hb2]⟩
                  have tv : (ev == v) = true := beq_iff_eq.2 hb
                  have HEV := Lib.hid hev
                  clear hb hev hu
                  go_wp2_with fail
                  refine (HWK1.out).mono ?_
                  rintro e w7 ⟨rfl, hb7⟩
                  have hLy7 := hLy.keep hb7
                  have hbel7 := hbel.trans (hb7.mono hbel.size)
                  have hint7 := (HROW.out.keep hb7).ints
                  clear c1 q1 q2 q3
                  go_wp2_with (first
                    | (at_builtin; have hb88 := hb8; refine wpl_push elemII rfl (.tmp 66) (.tmp 70) rfl rfl ((ownsRow_keep hLy7.out.own hb8).alloc _) rfl (heap_alloc_new _ _) rfl (by omega) ?_; intro g9 c9 w9 hown9 hgrow9 hat9)
                    | (at_builtin; refine wpl_app elemI rfl (.tmp 67) (.tmp 68) rfl rfl (World.ownsRow_made _ _ _ (Nat.le_refl _) (by decide) rfl) rfl (by simp [intsV]) (hint7.keep ((Below.refl _ _).alloc (Nat.le_refl _) _)).news (intsV_one _) (by omega) ?_; intro g8 c8 w8 hown8 hgrow8 hat8; simp only [Nat.zero_add, List.nil_append] at hown8; have hb8 := below_push (Below.refl _ _) hgrow8 (Nat.le_refl _) (Nat.le_refl _)))
                  have o8 : OwnI w8 w7.heap.size (.slice (some ⟨g8, 0, none⟩) u.length c8) u := ⟨g8, c8, rfl, hown8, huI⟩
                  try simp only [Nat.zero_add] at hown9 hgrow9 hat9
                  have hLy9 := hLy7.pushOut hb8 o8 hbel7.size hown9 hgrow9 hat9
                  have hbel9 := below_push (hbel7.trans (hb8.mono hbel7.size)) hgrow9 (ownsRow_parts hLy7.out.own).1 (Nat.le_refl _)
                  have hol9 : (outL2 ++ [u]).length ≤ outL.length + (i + 1) := by simp; omega
                  have hlq9 : outL2.length + 1 = (outL2 ++ [u]).length := by simp
                  have hgi9 : gi < w9.heap.size := by
                    have h1 := hb7.size
                    have h2 := hb8.size
                    have h3 := hgrow9.size
                    simp only [World.alloc, Array.size_push] at h3; omega
                  have HLQ := Lib.hid hlq9
                  clear hown9 hgrow9 hat9 hown8 hgrow8 hat8 o8 hint7 hLy7 hbel7 hLy hbel hst2 hlq9 hb7 hb8 hgiY
                  go_wp2
                  go_loopw [11, 16] (fun nx j_ wr => ∃ (j gn3 cn3 : Nat) (vn3 : List Value) (Fn3 : Nat → Prop) (nxt3 : List (List Int)), j ≤ L.length ∧ j_ = .int .i64 j ∧ nx = .slice (some ⟨gn3, 0, none⟩) nxt3.length cn3 ∧ Kept (nxt3 = nxt ++ extR l v (L.take j) u) ∧ nxt3.length ≤ nxt.length + j ∧ Lay2 wr Wb.heap.size gL cL L (fun k => Fo2 k ∨ (w7.heap.size ≤ k ∧ k < w9.heap.size)) g9 c9 (vo2 ++ [.slice (some ⟨g8, 0, none⟩) u.length c8]) (outL2 ++ [u]) Fl gl cl vl layL Fn3 gn3 cn3 vn3 nxt3 ∧ Below Wb.heap.size Wb wr)
                    (fun _ j_ _ => L.length - (intOf j_).toNat)
                  case atStart => exact ⟨0, gn, cn, vn, Fn, nxt, by omega, rfl, rfl, ⟨by simp [extR_nil]⟩, by omega, hLy9, hbel9⟩
                  case round =>
                    clear hLy9 hbel9
                    obtain ⟨j, gn3, cn3, vn3, Fn3, nxt3, hj, rfl, rfl, hst3, hnl3, hLy3, hbel3⟩ := hrel
                    rename World => W3
                    by_cases hjl : j < L.length
                    · have tj : (j : Int) < (L.length : Int) := by omega
                      have c2 := hLy3.lets.cellAt j (by omega)
                      rw [intsV, List.getElem?_map, List.getElem?_eq_getElem hjl] at c2
                      simp only [Option.map_some] at c2
                      obtain ⟨gi', ci', hui3, _, hrow3, hFi3, _⟩ := hLy3.lay.at_ hil
                      rw [HU.out] at hui3 hrow3
                      rw [HUI.out] at hui3
                      simp only [Option.some.injEq, Value.slice.injEq, Addr.mk.injEq, and_true, true_and] at hui3
                      obtain ⟨rfl, rfl⟩ := hui3
                      have hxI := hIL _ (List.getElem_mem hjl)
                      have hyes := fun h1 h2 => HYES.out (L.take j) (L[j]'hjl) h1 h2
                      have hno := fun h1 => HNO.out (L.take j) (L[j]'hjl) h1
                      rw [← take_get hjl] at hyes hno
                      obtain ⟨x, hx⟩ : ∃ x, x = L[j] := ⟨_, rfl⟩
                      rw [← hx] at c2 hxI hyes hno
                      have hgLY : gL < W3.heap.size := (ownsRow_parts hLy3.lets).2.1
                      have hgiY : gi < W3.heap.size := hLy3.lay.lt gi hFi3
                      have hn1 := fun W' (hb : Below W3.heap.size W3 W') => HNX.out ev x hxI W' (hB0.trans ((hbel3.trans (hb.mono hbel3.size)).mono hB0.size))
                      obtain ⟨nv, hnv⟩ : ∃ z, z = nextV l ev x := ⟨_, rfl⟩
                      rw [← hnv] at hn1
                      have HNV := Lib.hid hnv.symm
                      have HYS := Lib.hid hyes
                      have HN := Lib.hid hno
                      have HN1 := Lib.hid hn1
                      have C1 := Lib.hid c2
                      have HROW3 := Lib.hid hrow3
                      have hwx : ∀ z ∈ u ++ [x], I64 z := fun z hz => by
                        rcases List.mem_append.1 hz with h | h
                        · exact huI z h
                        · simp at h; rw [h]; exact hxI
                      have HWX := Lib.hid hwx
                      have hnl9 : nxt3.length ≤ 1048576 := by omega
                      clear hyes hno hx hnv hn1 c2 hwx
                      by_cases hu0 : u.length = 0
                      · have tu : ((u.length : Int) == 0) = true := beq_iff_eq.2 (by omega)
                        have hue : u = [] := List.eq_nil_of_length_eq_zero hu0
                        have HOK : Hid (okNext u x = true) := Lib.hid (by rw [hue]; rfl)
                        clear hu0 hue hrow3
                        go_wp2
                        refine wp_region_held_drew (S := fun X => Below W3.heap.size W3 X) (by kernel_rfl) ((Below.refl W3.heap.size W3).drew) (fun hHeld => ?_)
                        refine wpAnyH_take (i := 0) (v := ?v1) rfl (by kernel_rfl) (by kernel_rfl) (by kernel_rfl) (fun _ _ _ h => h) (Or.inl ⟨by rfl, ?hy1⟩) (by assumption) ?rest1
                        case hy1 => intro X hX; (try dsimp only at hX); go_simp <;> with_reducible rfl
                        try simp only [List.getElem_toArray, List.getElem_cons_zero, Act.put, List.setIfInBounds_toArray, List.set_cons_zero, List.set_cons_succ]
                        refine wpAnyH_take (i := 1) (v := ?v2) rfl (by kernel_rfl) (by kernel_rfl) (by kernel_rfl) (fun _ _ _ h => h) (Or.inl ⟨by rfl, ?hy2⟩) (by assumption) ?rest2
                        case hy2 => intro X hX; (try dsimp only at hX); go_simp <;> with_reducible rfl
                        try simp only [List.getElem_toArray, List.getElem_cons_succ, List.getElem_cons_zero, Act.put, List.setIfInBounds_toArray, List.set_cons_zero, List.set_cons_succ]
                        refine wpAnyH_take (i := 2) (v := ?v3) rfl (by kernel_rfl) (by kernel_rfl) (by kernel_rfl) (fun _ _ _ h => h) (Or.inl ⟨by rfl, ?hy3⟩) (by assumption) ?rest3
                        case hy3 => intro X hX; (try dsimp only at hX); go_simp <;> with_reducible rfl
                        try simp only [List.getElem_toArray, List.getElem_cons_succ, List.getElem_cons_zero, Act.put, List.setIfInBounds_toArray, List.set_cons_zero, List.set_cons_succ]
                        refine wpAnyH_take (i := 3) (v := ?v4) rfl (by kernel_rfl) (by kernel_rfl) (by kernel_rfl) (fun _ _ _ h => h) (Or.inl ⟨by rfl, ?hy4⟩) (by assumption) ?rest4
                        case hy4 => intro X hX; (try dsimp only at hX); go_simp <;> with_reducible rfl
                        try simp only [List.getElem_toArray, List.getElem_cons_succ, List.getElem_cons_zero, Act.put, List.setIfInBounds_toArray, List.set_cons_zero, List.set_cons_succ]
                        refine wpAnyH_take (i := 4) (v := undef) rfl (by kernel_rfl) (by kernel_rfl) (by kernel_rfl) (fun _ _ _ h => h) (Or.inr ⟨by rfl, rfl⟩) (by assumption) ?_
                        try simp only [List.getElem_toArray, List.getElem_cons_succ, List.getElem_cons_zero, Act.put, List.setIfInBounds_toArray, List.set_cons_zero, List.set_cons_succ]
                        refine wpAnyH_take (i := 5) (v := undef) rfl (by kernel_rfl) (by kernel_rfl) (by kernel_rfl) (fun _ _ _ h => h) (Or.inr ⟨by rfl, rfl⟩) (by assumption) ?_
                        try simp only [List.getElem_toArray, List.getElem_cons_succ, List.getElem_cons_zero, Act.put, List.setIfInBounds_toArray, List.set_cons_zero, List.set_cons_succ]
                        refine wpAnyH_take (i := 6) (v := undef) rfl (by kernel_rfl) (by kernel_rfl) (by kernel_rfl) (fun _ _ _ h => h) (Or.inr ⟨by rfl, rfl⟩) (by assumption) ?_
                        try simp only [List.getElem_toArray, List.getElem_cons_succ, List.getElem_cons_zero, Act.put, List.setIfInBounds_toArray, List.set_cons_zero, List.set_cons_succ]
                        refine wpAnyH_take (i := 7) (v := undef) rfl (by kernel_rfl) (by kernel_rfl) (by kernel_rfl) (fun _ _ _ h => h) (Or.inr ⟨by rfl, rfl⟩) (by assumption) ?_
                        try simp only [List.getElem_toArray, List.getElem_cons_succ, List.getElem_cons_zero, Act.put, List.setIfInBounds_toArray, List.set_cons_zero, List.set_cons_succ]
                        refine wpAnyH_take (i := 8) (v := undef) rfl (by kernel_rfl) (by kernel_rfl) (by kernel_rfl) (fun _ _ _ h => h) (Or.inr ⟨by rfl, rfl⟩) (by assumption) ?_
                        try simp only [List.getElem_toArray, List.getElem_cons_succ, List.getElem_cons_zero, Act.put, List.setIfInBounds_toArray, List.set_cons_zero, List.set_cons_succ]
                        refine wpAnyH_take (i := 9) (v := undef) rfl (by kernel_rfl) (by kernel_rfl) (by kernel_rfl) (fun _ _ _ h => h) (Or.inr ⟨by rfl, rfl⟩) (by assumption) ?_
                        try simp only [List.getElem_toArray, List.getElem_cons_succ, List.getElem_cons_zero, Act.put, List.setIfInBounds_toArray, List.set_cons_zero, List.set_cons_succ]
                        refine wpAnyH_take (i := 10) (v := undef) rfl (by kernel_rfl) (by kernel_rfl) (by kernel_rfl) (fun _ _ _ h => h) (Or.inr ⟨by rfl, rfl⟩) (by assumption) ?_
                        try simp only [List.getElem_toArray, List.getElem_cons_succ, List.getElem_cons_zero, Act.put, List.setIfInBounds_toArray, List.set_cons_zero, List.set_cons_succ]
                        refine wpAnyH_take (i := 11) (v := undef) rfl (by kernel_rfl) (by kernel_rfl) (by kernel_rfl) (fun _ _ _ h => h) (Or.inr ⟨by rfl, rfl⟩) (by assumption) ?_
                        try simp only [List.getElem_toArray, List.getElem_cons_succ, List.getElem_cons_zero, Act.put, List.setIfInBounds_toArray, List.set_cons_zero, List.set_cons_succ]
                        refine wpAnyH_take (i := 12) (v := undef) rfl (by kernel_rfl) (by kernel_rfl) (by kernel_rfl) (fun _ _ _ h => h) (Or.inr ⟨by rfl, rfl⟩) (by assumption) ?_
                        try simp only [List.getElem_toArray, List.getElem_cons_succ, List.getElem_cons_zero, Act.put, List.setIfInBounds_toArray, List.set_cons_zero, List.set_cons_succ]
                        refine wpAnyH_take (i := 13) (v := undef) rfl (by kernel_rfl) (by kernel_rfl) (by kernel_rfl) (fun _ _ _ h => h) (Or.inr ⟨by rfl, rfl⟩) (by assumption) ?_
                        try simp only [List.getElem_toArray, List.getElem_cons_succ, List.getElem_cons_zero, Act.put, List.setIfInBounds_toArray, List.set_cons_zero, List.set_cons_succ]
                        refine wpAnyH_take (i := 14) (v := undef) rfl (by kernel_rfl) (by kernel_rfl) (by kernel_rfl) (fun _ _ _ h => h) (Or.inr ⟨by rfl, rfl⟩) (by assumption) ?_
                        try simp only [List.getElem_toArray, List.getElem_cons_succ, List.getElem_cons_zero, Act.put, List.setIfInBounds_toArray, List.set_cons_zero, List.set_cons_succ]
                        refine wpAnyH_take (i := 15) (v := undef) rfl (by kernel_rfl) (by kernel_rfl) (by kernel_rfl) (fun _ _ _ h => h) (Or.inr ⟨by rfl, rfl⟩) (by assumption) ?_
                        try simp only [List.getElem_toArray, List.getElem_cons_succ, List.getElem_cons_zero, Act.put, List.setIfInBounds_toArray, List.set_cons_zero, List.set_cons_succ]
                        refine wpAnyH_take (i := 16) (v := ?v5) rfl (by kernel_rfl) (by kernel_rfl) (by kernel_rfl) (fun _ _ _ h => h) (Or.inl ⟨by rfl, ?hy5⟩) (by assumption) ?rest5
                        case hy5 => intro X hX; (try dsimp only at hX); go_simp <;> with_reducible rfl
                        try simp only [List.getElem_toArray, List.getElem_cons_succ, List.getElem_cons_zero, Act.put, List.setIfInBounds_toArray, List.set_cons_zero, List.set_cons_succ]
                        refine wpAnyH_take (i := 17) (v := ?v6) rfl (by kernel_rfl) (by kernel_rfl) (by kernel_rfl) (fun _ _ _ h => h) (Or.inl ⟨by rfl, ?hy6⟩) (by assumption) ?rest6
                        case hy6 => intro X hX; (try dsimp only at hX); go_simp <;> with_reducible rfl
                        try simp only [List.getElem_toArray, List.getElem_cons_succ, List.getElem_cons_zero, Act.put, List.setIfInBounds_toArray, List.set_cons_zero, List.set_cons_succ]
                        refine wpAnyH_take (i := 18) (v := ?v7) rfl (by kernel_rfl) (by kernel_rfl) (by kernel_rfl) (fun _ _ _ h => h) (Or.inl ⟨by rfl, ?hy7⟩) (by assumption) ?rest7
                        case hy7 => intro X hX; (try dsimp only at hX); obtain ⟨q1, q2, q3⟩ := (BX.out.keep (hbel3.trans (hX.mono hbel3.size))).cells; have z1 := (hX.cell (p := ⟨gL, j, none⟩) hgLY).trans C1.out; go_simp <;> with_reducible rfl
                        try simp only [List.getElem_toArray, List.getElem_cons_succ, List.getElem_cons_zero, Act.put, List.setIfInBounds_toArray, List.set_cons_zero, List.set_cons_succ]
                        refine wpAnyH_take (i := 19) (v := ?v8) rfl (by kernel_rfl) (by kernel_rfl) (by kernel_rfl) (fun _ _ _ h => h) (Or.inl ⟨by rfl, ?hy8⟩) (by assumption) ?rest8
                        case hy8 => intro X hX; (try dsimp only at hX); go_simp <;> with_reducible rfl
                        try simp only [List.getElem_toArray, List.getElem_cons_succ, List.getElem_cons_zero, Act.put, List.setIfInBounds_toArray, List.set_cons_zero, List.set_cons_succ]
                        refine wpAnyH_take (i := 20) (v := ?v9) rfl (by kernel_rfl) (by kernel_rfl) (by kernel_rfl) (fun _ _ _ h => h) (Or.inl ⟨by rfl, ?hy9⟩) (by assumption) ?rest9
                        case hy9 => intro X hX; (try dsimp only at hX); go_simp <;> with_reducible rfl
                        try simp only [List.getElem_toArray, List.getElem_cons_succ, List.getElem_cons_zero, Act.put, List.setIfInBounds_toArray, List.set_cons_zero, List.set_cons_succ]
                        refine wpAnyH_take (i := 21) (v := ?v10) rfl (by kernel_rfl) (by kernel_rfl) (by kernel_rfl) (fun _ _ _ h => h) (Or.inl ⟨by rfl, ?hy10⟩) (by assumption) ?rest10
                        case hy10 => intro X hX; (try dsimp only at hX); go_simp <;> with_reducible rfl
                        try simp only [List.getElem_toArray, List.getElem_cons_succ, List.getElem_cons_zero, Act.put, List.setIfInBounds_toArray, List.set_cons_zero, List.set_cons_succ]
                        refine wpAnyH_take (i := 22) (v := ?v11) rfl (by kernel_rfl) (by kernel_rfl) (by kernel_rfl) (fun _ _ _ h => h) (Or.inl ⟨by rfl, ?hy11⟩) (by assumption) ?rest11
                        case hy11 => intro X hX; (try dsimp only at hX); obtain ⟨q1, q2, q3⟩ := (BX.out.keep (hbel3.trans (hX.mono hbel3.size))).cells; have z1 := (hX.cell (p := ⟨gL, j, none⟩) hgLY).trans C1.out; go_simp <;> with_reducible rfl
                        try simp only [List.getElem_toArray, List.getElem_cons_succ, List.getElem_cons_zero, Act.put, List.setIfInBounds_toArray, List.set_cons_zero, List.set_cons_succ]
                        refine wpAnyH_take (i := 23) (v := ?v12) rfl (by kernel_rfl) (by kernel_rfl) (by kernel_rfl) (fun _ _ _ h => h) (Or.inl ⟨by rfl, ?hy12⟩) (by assumption) ?rest12
                        case hy12 => intro X hX; (try dsimp only at hX); obtain ⟨q1, q2, q3⟩ := (BX.out.keep (hbel3.trans (hX.mono hbel3.size))).cells; have z1 := (hX.cell (p := ⟨gL, j, none⟩) hgLY).trans C1.out; go_simp <;> with_reducible rfl
                        try simp only [List.getElem_toArray, List.getElem_cons_succ, List.getElem_cons_zero, Act.put, List.setIfInBounds_toArray, List.set_cons_zero, List.set_cons_succ]
                        refine wpAnyH_ready (rs := [24]) (by kernel_rfl) (by simp) ?_
                        refine AllReadyH.cons rfl (fun K hK => ?_) AllReadyH.nil
                        go_simp
                        go_at_call 11
                        refine (HN1.out _ hHeld).mono ?_
                        rintro e w2 ⟨rfl, hb2⟩
                        (try go_simp)
                        refine hK.out _ _ (hHeld.trans (hb2.mono hHeld.size)) (fun hHeld2 => ?_)
                        replace hHeld := hHeld2
                        clear hHeld2
                        clear hK K
                        try simp only [List.getElem_toArray, List.getElem_cons_succ, List.getElem_cons_zero, Act.put, List.setIfInBounds_toArray, List.set_cons_zero, List.set_cons_succ]
                        refine wpAnyH_take (i := 25) (v := ?v13) rfl (by kernel_rfl) (by kernel_rfl) (by kernel_rfl) (fun _ _ _ h => h) (Or.inl ⟨by rfl, ?hy13⟩) (by assumption) ?rest13
                        case hy13 => intro X hX; (try dsimp only at hX); go_simp <;> with_reducible rfl
                        try simp only [List.getElem_toArray, List.getElem_cons_succ, List.getElem_cons_zero, Act.put, List.setIfInBounds_toArray, List.set_cons_zero, List.set_cons_succ]
                        refine wpAnyH_take (i := 26) (v := ?v14) rfl (by kernel_rfl) (by kernel_rfl) (by kernel_rfl) (fun _ _ _ h => h) (Or.inl ⟨by rfl, ?hy14⟩) (by assumption) ?rest14
                        case hy14 => intro X hX; (try dsimp only at hX); go_simp <;> with_reducible rfl
                        try simp only [List.getElem_toArray, List.getElem_cons_succ, List.getElem_cons_zero, Act.put, List.setIfInBounds_toArray, List.set_cons_zero, List.set_cons_succ]
                        refine wpAnyH_done (by kernel_rfl) ?_ _
                        by_cases hneg : nv < 0
                        · have hst6 : Kept (nxt3 = nxt ++ extR l v (L.take (j + 1)) u) := ⟨by rw [HN.out (.inr (by rw [HNV.out]; exact hneg)), hst3.out]⟩
                          have tn : ¬ 0 ≤ nv := by omega
                          go_wp2
                          go_roundw
                          case rel => exact ⟨j + 1, gn3, cn3, vn3, Fn3, nxt3, by omega, by go_num, rfl, hst6, by omega, hLy3.keep hHeld, hbel3.trans (hHeld.mono hbel3.size)⟩
                          case measure => simp [intOf]; omega
                        · have hst6 : Kept (nxt3 ++ [u ++ [x]] = nxt ++ extR l v (L.take (j + 1)) u) := ⟨by rw [HYS.out HOK.out (by rw [HNV.out]; omega), hst3.out, List.append_assoc]⟩
                          have tn : 0 ≤ nv := by omega
                          have hLyY := hLy3.keep hHeld
                          have hbelY := hbel3.trans (hHeld.mono hbel3.size)
                          have LUI := Lib.hid (HROW3.out.keep hHeld).ints
                          have hgLY2 : gL < w2.heap.size := (ownsRow_parts hLyY.lets).2.1
                          have C1Y := Lib.hid ((hHeld.cell (p := ⟨gL, j, none⟩) hgLY).trans C1.out)
                          have hgne : gL ≠ gn3 := fun e => hLyY.ln2 (e ▸ hLyY.nxt.spine)
                          clear hLy3 hbel3 hHeld hneg hb2
                          go_wp2
                          obtain ⟨S, hS⟩ : ∃ S : World → Prop, S = fun X => X.cell? ⟨gL, j, none⟩ = some (.int .i64 x) := ⟨_, rfl⟩
                          have sb : ∀ X, Below w2.heap.size w2 X → S X := fun X hX => by rw [hS]; exact (hX.cell (p := ⟨gL, j, none⟩) hgLY2).trans C1Y.out
                          have sl : ∀ X, S X → X.cell? ⟨gL, j, none⟩ = some (.int .i64 x) := fun X hX => by rw [hS] at hX; exact hX
                          have sn : ∀ X X', Below w2.heap.size w2 X → X.grownBy X' (some gn3) → S X' := fun X X' hX hg => by
                            have h1 := sl X (sb X hX)
                            rw [hS]
                            exact (World.cell?_of_block (a := ⟨gL, j, none⟩) (hg.block gL (Nat.lt_of_lt_of_le hgLY2 hX.size) (by simp only [ne_eq, Option.some.injEq]; exact hgne))).trans h1
                          have SB := Lib.hid sb
                          have SL := Lib.hid sl
                          have SN := Lib.hid sn
                          clear sb sl sn hS
                          have hq0 : Below w2.heap.size w2 w2.drew := (Below.refl w2.heap.size w2).drew
                          refine wp_region_held_drew (S := S) (by kernel_rfl) (SB.out _ hq0) (fun hHeld => ?_)
                          refine wpAnyH_take (i := 0) (v := ?v15) rfl (by kernel_rfl) (by kernel_rfl) (by kernel_rfl) (fun _ _ _ h => h) (Or.inl ⟨by rfl, ?hy15⟩) (by assumption) ?rest15
                          case hy15 => intro X hX; (try dsimp only at hX); go_simp <;> with_reducible rfl
                          try simp only [List.getElem_toArray, List.getElem_cons_zero, Act.put, List.setIfInBounds_toArray, List.set_cons_zero, List.set_cons_succ]
                          refine wpAnyH_take (i := 2) (v := ?v16) rfl (by kernel_rfl) (by kernel_rfl) (by kernel_rfl) (fun _ _ _ h => h) (Or.inl ⟨by rfl, ?hy16⟩) (by assumption) ?rest16
                          case hy16 => intro X hX; (try dsimp only at hX); go_simp <;> with_reducible rfl
                          try simp only [List.getElem_toArray, List.getElem_cons_succ, List.getElem_cons_zero, Act.put, List.setIfInBounds_toArray, List.set_cons_zero, List.set_cons_succ]
                          refine wpAnyH_take (i := 4) (v := ?v17) rfl (by kernel_rfl) (by kernel_rfl) (by kernel_rfl) (fun _ _ _ h => h) (Or.inl ⟨by rfl, ?hy17⟩) (by assumption) ?rest17
                          case hy17 => intro X hX; (try dsimp only at hX); go_simp <;> with_reducible rfl
                          try simp only [List.getElem_toArray, List.getElem_cons_succ, List.getElem_cons_zero, Act.put, List.setIfInBounds_toArray, List.set_cons_zero, List.set_cons_succ]
                          refine wpAnyH_take (i := 5) (v := ?v18) rfl (by kernel_rfl) (by kernel_rfl) (by kernel_rfl) (fun _ _ _ h => h) (Or.inl ⟨by rfl, ?hy18⟩) (by assumption) ?rest18
                          case hy18 => intro X hX; (try dsimp only at hX); go_simp <;> with_reducible rfl
                          try simp only [List.getElem_toArray, List.getElem_cons_succ, List.getElem_cons_zero, Act.put, List.setIfInBounds_toArray, List.set_cons_zero, List.set_cons_succ]
                          refine wpAnyH_take (i := 6) (v := ?v19) rfl (by kernel_rfl) (by kernel_rfl) (by kernel_rfl) (fun _ _ _ h => h) (Or.inl ⟨by rfl, ?hy19⟩) (by assumption) ?rest19
                          case hy19 => intro X hX; (try dsimp only at hX); have z1 := SL.out X hX; go_simp <;> with_reducible rfl
                          try simp only [List.getElem_toArray, List.getElem_cons_succ, List.getElem_cons_zero, Act.put, List.setIfInBounds_toArray, List.set_cons_zero, List.set_cons_succ]
                          refine wpAnyH_take (i := 7) (v := ?v20) rfl (by kernel_rfl) (by kernel_rfl) (by kernel_rfl) (fun _ _ _ h => h) (Or.inl ⟨by rfl, ?hy20⟩) (by assumption) ?rest20
                          case hy20 => intro X hX; (try dsimp only at hX); have z1 := SL.out X hX; go_simp <;> with_reducible rfl
                          try simp only [List.getElem_toArray, List.getElem_cons_succ, List.getElem_cons_zero, Act.put, List.setIfInBounds_toArray, List.set_cons_zero, List.set_cons_succ]
                          refine wpAnyH_ready (rs := [1, 8]) (by kernel_rfl) (by simp) ?_
                          refine AllReadyH.cons rfl (fun K hK => ?_) (AllReadyH.cons rfl (fun K hK => ?_) AllReadyH.nil)
                          go_simp
                          have hq1 := hq0.alloc hq0.size (.cells #[] 3 (0, 0))
                          refine hK.out _ _ (SB.out _ hq1) (fun hHeld2 => ?_)
                          replace hHeld := hHeld2
                          clear hHeld2 hK K
                          try simp only [List.getElem_toArray, List.getElem_cons_succ, List.getElem_cons_zero, Act.put, List.setIfInBounds_toArray, List.set_cons_zero, List.set_cons_succ]
                          refine wpAnyH_ready (rs := [3, 8]) (by kernel_rfl) (by simp) ?_
                          refine AllReadyH.cons rfl (fun K hK => ?_) (AllReadyH.cons rfl (fun K hK => ?_) AllReadyH.nil)
                          refine step_app elemI rfl (.tmp 106) (.tmp 107) rfl rfl (World.ownsRow_made (base := w2.heap.size) (e := 3) (size := 1) w2.drew #[] 0 (Nat.le_refl _) (by decide) rfl) rfl (by simp [intsV]) ((LUI.out.keep hq1).news) (intsV_one _) (by omega) ?_
                          intro g1 c1' X1 hown1 hgrow1 hat1
                          have hq2 : Below w2.heap.size w2 X1 := below_grown hq1 hgrow1 hq1.size (Nat.le_refl _)
                          simp only [Nat.zero_add, List.nil_append] at hown1
                          refine hK.out _ _ (SB.out _ hq2) (fun hHeld2 => ?_)
                          replace hHeld := hHeld2
                          clear hHeld2 hK K
                          try simp only [List.getElem_toArray, List.getElem_cons_succ, List.getElem_cons_zero, Act.put, List.setIfInBounds_toArray, List.set_cons_zero, List.set_cons_succ]
                          refine wpAnyH_ready (rs := [8]) (by kernel_rfl) (by simp) ?_
                          refine AllReadyH.cons rfl (fun K hK => ?_) AllReadyH.nil
                          go_simp
                          have hq3 := hq2.alloc hq2.size (.cells #[.int .i64 x] 3 (0, 0))
                          refine hK.out _ _ (SB.out _ hq3) (fun hHeld2 => ?_)
                          replace hHeld := hHeld2
                          clear hHeld2 hK K
                          try simp only [List.getElem_toArray, List.getElem_cons_succ, List.getElem_cons_zero, Act.put, List.setIfInBounds_toArray, List.set_cons_zero, List.set_cons_succ]
                          refine wpAnyH_ready (rs := [9]) (by kernel_rfl) (by simp) ?_
                          refine AllReadyH.cons rfl (fun K hK => ?_) AllReadyH.nil
                          refine step_push elemI rfl (.tmp 108) (.tmp 113) rfl rfl (hown1.alloc (.cells #[.int .i64 x] 3 (0, 0))) rfl (heap_alloc_new _ _) rfl (by omega) ?_
                          intro g4 c4 w4 hown4 hgrow4 hat4
                          have hb4 : Below w2.heap.size w2 w4 := below_grown hq3 hgrow4 hq3.size (ownsRow_parts hown1).1
                          refine hK.out _ _ (SB.out _ hb4) (fun hHeld2 => ?_)
                          replace hHeld := hHeld2
                          clear hHeld2 hK K
                          try simp only [List.getElem_toArray, List.getElem_cons_succ, List.getElem_cons_zero, Act.put, List.setIfInBounds_toArray, List.set_cons_zero, List.set_cons_succ]
                          refine wpAnyH_ready (rs := [10]) (by kernel_rfl) (by simp) ?_
                          refine AllReadyH.cons rfl (fun K hK => ?_) AllReadyH.nil
                          go_simp
                          have hq9 := hb4.alloc hb4.size (.cells #[.slice (some ⟨g4, 0, none⟩) (u.length + 1) c4] 33 (0, 0))
                          refine hK.out _ _ (SB.out _ hq9) (fun hHeld2 => ?_)
                          replace hHeld := hHeld2
                          clear hHeld2 hK K
                          try simp only [List.getElem_toArray, List.getElem_cons_succ, List.getElem_cons_zero, Act.put, List.setIfInBounds_toArray, List.set_cons_zero, List.set_cons_succ]
                          refine wpAnyH_ready (rs := [11]) (by kernel_rfl) (by simp) ?_
                          refine AllReadyH.cons rfl (fun K hK => ?_) AllReadyH.nil
                          refine step_push elemII rfl (.tmp 105) (.tmp 115) rfl rfl ((ownsRow_keep hLyY.nxt.own hb4).alloc (.cells #[.slice (some ⟨g4, 0, none⟩) (u.length + 1) c4] 33 (0, 0))) rfl (heap_alloc_new _ _) rfl (by omega) ?_
                          intro g6 c6 w6 hown6 hgrow6 hat6
                          refine hK.out _ _ (SN.out _ _ hq9 hgrow6) (fun hHeld2 => ?_)
                          replace hHeld := hHeld2
                          clear hHeld2 hK K
                          try simp only [List.getElem_toArray, List.getElem_cons_succ, List.getElem_cons_zero, Act.put, List.setIfInBounds_toArray, List.set_cons_zero, List.set_cons_succ]
                          refine wpAnyH_take (i := 12) (v := ?v21) rfl (by kernel_rfl) (by kernel_rfl) (by kernel_rfl) (fun _ _ _ h => h) (Or.inl ⟨by rfl, ?hy21⟩) (by assumption) ?rest21
                          case hy21 => intro X hX; (try dsimp only at hX); go_simp <;> with_reducible rfl
                          try simp only [List.getElem_toArray, List.getElem_cons_succ, List.getElem_cons_zero, Act.put, List.setIfInBounds_toArray, List.set_cons_zero, List.set_cons_succ]
                          refine wpAnyH_done (by kernel_rfl) ?_ _
                          rotate_left
                          go_simp
                          have hq2 := hq1.alloc hq1.size (.cells #[.int .i64 x] 3 (0, 0))
                          refine hK.out _ _ (SB.out _ hq2) (fun hHeld2 => ?_)
                          replace hHeld := hHeld2
                          clear hHeld2 hK K
                          try simp only [List.getElem_toArray, List.getElem_cons_succ, List.getElem_cons_zero, Act.put, List.setIfInBounds_toArray, List.set_cons_zero, List.set_cons_succ]
                          refine wpAnyH_ready (rs := [3]) (by kernel_rfl) (by simp) ?_
                          refine AllReadyH.cons rfl (fun K hK => ?_) AllReadyH.nil
                          refine step_app elemI rfl (.tmp 106) (.tmp 107) rfl rfl ((World.ownsRow_made (base := w2.heap.size) (e := 3) (size := 1) w2.drew #[] 0 (Nat.le_refl _) (by decide) rfl).alloc (.cells #[.int .i64 x] 3 (0, 0))) rfl (by simp [intsV]) ((LUI.out.keep hq2).news) (intsV_one _) (by omega) ?_
                          intro g1 c1' X1 hown1 hgrow1 hat1
                          have hq3 : Below w2.heap.size w2 X1 := below_grown hq2 hgrow1 hq2.size (Nat.le_refl _)
                          simp only [Nat.zero_add, List.nil_append] at hown1
                          refine hK.out _ _ (SB.out _ hq3) (fun hHeld2 => ?_)
                          replace hHeld := hHeld2
                          clear hHeld2 hK K
                          try simp only [List.getElem_toArray, List.getElem_cons_succ, List.getElem_cons_zero, Act.put, List.setIfInBounds_toArray, List.set_cons_zero, List.set_cons_succ]
                          have hxb := heap_kept hgrow1 (heap_new_at (w2.drew.alloc (.cells #[] 3 (0, 0))) (w2.heap.size + 1) (.cells #[.int .i64 x] 3 (0, 0)) (by simp)) (by omega)
                          refine wpAnyH_ready (rs := [9]) (by kernel_rfl) (by simp) ?_
                          refine AllReadyH.cons rfl (fun K hK => ?_) AllReadyH.nil
                          refine step_push elemI rfl (.tmp 108) (.tmp 113) rfl rfl (show X1.ownsRow w2.heap.size 3 1 (.slice (some ⟨g1, 0, none⟩) (0 + u.length) c1') (0 + u.length) (intsV u) from by rw [Nat.zero_add]; exact hown1) rfl (hxb) rfl (by omega) ?_
                          intro g4 c4 w4 hown4 hgrow4 hat4
                          rw [Nat.zero_add] at hown4
                          have hb4 : Below w2.heap.size w2 w4 := below_grown hq3 hgrow4 hq3.size (ownsRow_parts hown1).1
                          refine hK.out _ _ (SB.out _ hb4) (fun hHeld2 => ?_)
                          replace hHeld := hHeld2
                          clear hHeld2 hK K
                          try simp only [List.getElem_toArray, List.getElem_cons_succ, List.getElem_cons_zero, Act.put, List.setIfInBounds_toArray, List.set_cons_zero, List.set_cons_succ]
                          refine wpAnyH_ready (rs := [10]) (by kernel_rfl) (by simp) ?_
                          refine AllReadyH.cons rfl (fun K hK => ?_) AllReadyH.nil
                          go_simp
                          have hq9 := hb4.alloc hb4.size (.cells #[.slice (some ⟨g4, 0, none⟩) (u.length + 1) c4] 33 (0, 0))
                          refine hK.out _ _ (SB.out _ hq9) (fun hHeld2 => ?_)
                          replace hHeld := hHeld2
                          clear hHeld2 hK K
                          try simp only [List.getElem_toArray, List.getElem_cons_succ, List.getElem_cons_zero, Act.put, List.setIfInBounds_toArray, List.set_cons_zero, List.set_cons_succ]
                          refine wpAnyH_ready (rs := [11]) (by kernel_rfl) (by simp) ?_
                          refine AllReadyH.cons rfl (fun K hK => ?_) AllReadyH.nil
                          refine step_push elemII rfl (.tmp 105) (.tmp 115) rfl rfl ((ownsRow_keep hLyY.nxt.own hb4).alloc (.cells #[.slice (some ⟨g4, 0, none⟩) (u.length + 1) c4] 33 (0, 0))) rfl (heap_alloc_new _ _) rfl (by omega) ?_
                          intro g6 c6 w6 hown6 hgrow6 hat6
                          refine hK.out _ _ (SN.out _ _ hq9 hgrow6) (fun hHeld2 => ?_)
                          replace hHeld := hHeld2
                          clear hHeld2 hK K
                          try simp only [List.getElem_toArray, List.getElem_cons_succ, List.getElem_cons_zero, Act.put, List.setIfInBounds_toArray, List.set_cons_zero, List.set_cons_succ]
                          refine wpAnyH_take (i := 12) (v := ?v22) rfl (by kernel_rfl) (by kernel_rfl) (by kernel_rfl) (fun _ _ _ h => h) (Or.inl ⟨by rfl, ?hy22⟩) (by assumption) ?rest22
                          case hy22 => intro X hX; (try dsimp only at hX); go_simp <;> with_reducible rfl
                          try simp only [List.getElem_toArray, List.getElem_cons_succ, List.getElem_cons_zero, Act.put, List.setIfInBounds_toArray, List.set_cons_zero, List.set_cons_succ]
                          refine wpAnyH_done (by kernel_rfl) ?_ _
                          rotate_left
                          go_simp
                          have hq1 := hq0.alloc hq0.size (.cells #[.int .i64 x] 3 (0, 0))
                          refine hK.out _ _ (SB.out _ hq1) (fun hHeld2 => ?_)
                          replace hHeld := hHeld2
                          clear hHeld2 hK K
                          try simp only [List.getElem_toArray, List.getElem_cons_succ, List.getElem_cons_zero, Act.put, List.setIfInBounds_toArray, List.set_cons_zero, List.set_cons_succ]
                          refine wpAnyH_ready (rs := [1]) (by kernel_rfl) (by simp) ?_
                          refine AllReadyH.cons rfl (fun K hK => ?_) AllReadyH.nil
                          go_simp
                          have hq2 := hq1.alloc hq1.size (.cells #[] 3 (0, 0))
                          refine hK.out _ _ (SB.out _ hq2) (fun hHeld2 => ?_)
                          replace hHeld := hHeld2
                          clear hHeld2 hK K
                          try simp only [List.getElem_toArray, List.getElem_cons_succ, List.getElem_cons_zero, Act.put, List.setIfInBounds_toArray, List.set_cons_zero, List.set_cons_succ]
                          have hm9 := made_at (w2.drew.alloc (.cells #[.int .i64 x] 3 (0, 0))) (w2.heap.size + 1) w2.heap.size (by simp) (by simp)
                          refine wpAnyH_ready (rs := [3]) (by kernel_rfl) (by simp) ?_
                          refine AllReadyH.cons rfl (fun K hK => ?_) AllReadyH.nil
                          refine step_app elemI rfl (.tmp 106) (.tmp 107) rfl rfl (hm9) rfl (by simp [intsV]) ((LUI.out.keep hq2).news) (intsV_one _) (by omega) ?_
                          intro g1 c1' X1 hown1 hgrow1 hat1
                          have hq3 : Below w2.heap.size w2 X1 := below_grown hq2 hgrow1 hq2.size (Nat.le_succ _)
                          simp only [Nat.zero_add, List.nil_append] at hown1
                          refine hK.out _ _ (SB.out _ hq3) (fun hHeld2 => ?_)
                          replace hHeld := hHeld2
                          clear hHeld2 hK K
                          try simp only [List.getElem_toArray, List.getElem_cons_succ, List.getElem_cons_zero, Act.put, List.setIfInBounds_toArray, List.set_cons_zero, List.set_cons_succ]
                          have hxb := heap_kept hgrow1 (heap_old_at (w2.drew.alloc (.cells #[.int .i64 x] 3 (0, 0))) w2.heap.size (.cells #[] 3 (0, 0)) (heap_new_at w2.drew w2.heap.size (.cells #[.int .i64 x] 3 (0, 0)) rfl)) (by omega)
                          refine wpAnyH_ready (rs := [9]) (by kernel_rfl) (by simp) ?_
                          refine AllReadyH.cons rfl (fun K hK => ?_) AllReadyH.nil
                          refine step_push elemI rfl (.tmp 108) (.tmp 113) rfl rfl (show X1.ownsRow w2.heap.size 3 1 (.slice (some ⟨g1, 0, none⟩) (0 + u.length) c1') (0 + u.length) (intsV u) from by rw [Nat.zero_add]; exact hown1) rfl (hxb) rfl (by omega) ?_
                          intro g4 c4 w4 hown4 hgrow4 hat4
                          rw [Nat.zero_add] at hown4
                          have hb4 : Below w2.heap.size w2 w4 := below_grown hq3 hgrow4 hq3.size (ownsRow_parts hown1).1
                          refine hK.out _ _ (SB.out _ hb4) (fun hHeld2 => ?_)
                          replace hHeld := hHeld2
                          clear hHeld2 hK K
                          try simp only [List.getElem_toArray, List.getElem_cons_succ, List.getElem_cons_zero, Act.put, List.setIfInBounds_toArray, List.set_cons_zero, List.set_cons_succ]
                          refine wpAnyH_ready (rs := [10]) (by kernel_rfl) (by simp) ?_
                          refine AllReadyH.cons rfl (fun K hK => ?_) AllReadyH.nil
                          go_simp
                          have hq9 := hb4.alloc hb4.size (.cells #[.slice (some ⟨g4, 0, none⟩) (u.length + 1) c4] 33 (0, 0))
                          refine hK.out _ _ (SB.out _ hq9) (fun hHeld2 => ?_)
                          replace hHeld := hHeld2
                          clear hHeld2 hK K
                          try simp only [List.getElem_toArray, List.getElem_cons_succ, List.getElem_cons_zero, Act.put, List.setIfInBounds_toArray, List.set_cons_zero, List.set_cons_succ]
                          refine wpAnyH_ready (rs := [11]) (by kernel_rfl) (by simp) ?_
                          refine AllReadyH.cons rfl (fun K hK => ?_) AllReadyH.nil
                          refine step_push elemII rfl (.tmp 105) (.tmp 115) rfl rfl ((ownsRow_keep hLyY.nxt.own hb4).alloc (.cells #[.slice (some ⟨g4, 0, none⟩) (u.length + 1) c4] 33 (0, 0))) rfl (heap_alloc_new _ _) rfl (by omega) ?_
                          intro g6 c6 w6 hown6 hgrow6 hat6
                          refine hK.out _ _ (SN.out _ _ hq9 hgrow6) (fun hHeld2 => ?_)
                          replace hHeld := hHeld2
                          clear hHeld2 hK K
                          try simp only [List.getElem_toArray, List.getElem_cons_succ, List.getElem_cons_zero, Act.put, List.setIfInBounds_toArray, List.set_cons_zero, List.set_cons_succ]
                          refine wpAnyH_take (i := 12) (v := ?v23) rfl (by kernel_rfl) (by kernel_rfl) (by kernel_rfl) (fun _ _ _ h => h) (Or.inl ⟨by rfl, ?hy23⟩) (by assumption) ?rest23
                          case hy23 => intro X hX; (try dsimp only at hX); go_simp <;> with_reducible rfl
                          try simp only [List.getElem_toArray, List.getElem_cons_succ, List.getElem_cons_zero, Act.put, List.setIfInBounds_toArray, List.set_cons_zero, List.set_cons_succ]
                          refine wpAnyH_done (by kernel_rfl) ?_ _
                          all_goals
                            have o4 : OwnI w4 w2.heap.size (.slice (some ⟨g4, 0, none⟩) (u.length + 1) c4) (u ++ [x]) := ⟨g4, c4, by simp, by rw [List.length_append, List.length_singleton, intsV_append]; exact hown4, HWX.out⟩
                            have hLy6 := hLyY.pushNxt hb4 o4 hbelY.size hown6 hgrow6 hat6
                            have hbel6 := below_push (hbelY.trans (hb4.mono hbelY.size)) hgrow6 (ownsRow_parts hLyY.nxt.own).1 (Nat.le_refl _)
                            have hlq6 : nxt3.length + 1 = (nxt3 ++ [u ++ [x]]).length := by simp
                            have HLQ6 := Lib.hid hlq6
                            clear hown6 hgrow6 hat6 hown4 hlq6
                            go_wp2
                            go_roundw
                            case rel => exact ⟨j + 1, g6, c6, _, _, nxt3 ++ [u ++ [x]], by omega, by go_num, by rw [← HLQ6.out], hst6, by rw [← HLQ6.out]; omega, hLy6, hbel6⟩
                            case measure => simp [intOf]; omega
                      · have hu1 : (0 : Int) < (u.length : Int) := by omega
                        have tu : ((u.length : Int) == 0) = false := beq_eq_false_iff_ne.2 (by omega)
                        obtain ⟨y, hy⟩ : ∃ y, y = u[u.length - 1]'(by omega) := ⟨_, rfl⟩
                        have hok := okNext_last (x := x) (w := u) (by omega)
                        have hgd : u.getD (u.length - 1) 0 = y := by rw [List.getD_eq_getElem?_getD, List.getElem?_eq_getElem (by omega), hy]; rfl
                        rw [hgd] at hok
                        obtain ⟨y0, y1, y2⟩ := HUL.out y (by rw [hy]; exact List.getElem_mem _)
                        have hwn : IntKind.i64.wrap (-y) = -y := IntWalk.i64_in _ (by omega)
                        have c3 : W3.cell? ⟨gi, u.length - 1, none⟩ = some (.int .i64 y) := by
                          obtain ⟨g', cap', hv', ho', _⟩ := hrow3
                          simp only [Value.slice.injEq, Option.some.injEq, Addr.mk.injEq, and_true, true_and] at hv'
                          obtain ⟨rfl, rfl⟩ := hv'
                          rw [ho'.cellAt _ (by omega), intsV, List.getElem?_map, List.getElem?_eq_getElem (by omega), hy]; rfl
                        rw [inv_small y0 y1 y2] at hok
                        obtain ⟨q, hq⟩ : ∃ q, q = u.length - 1 := ⟨_, rfl⟩
                        rw [← hq] at c3
                        have hwl : IntKind.i64.wrap ((u.length : Int) - 1) = (q : Int) := by rw [IntWalk.i64_in _ (by omega)]; omega
                        have hqu : (q : Int) < (u.length : Int) := by omega
                        have C3 := Lib.hid c3
                        clear hq
                        clear hy hgd c3 hrow3
                        by_cases hxy : x = -y
                        · have hst6 : Kept (nxt3 = nxt ++ extR l v (L.take (j + 1)) u) := ⟨by rw [HN.out (.inl (by rw [hok, decide_eq_true hxy]; rfl)), hst3.out]⟩
                          have txy : (x != -y) = false := by simpa using hxy
                          clear hok hxy
                          go_wp2
                          refine wp_region_held_drew (S := fun X => Below W3.heap.size W3 X) (by kernel_rfl) ((Below.refl W3.heap.size W3).drew) (fun hHeld => ?_)
                          refine wpAnyH_take (i := 0) (v := ?v24) rfl (by kernel_rfl) (by kernel_rfl) (by kernel_rfl) (fun _ _ _ h => h) (Or.inl ⟨by rfl, ?hy24⟩) (by assumption) ?rest24
                          case hy24 => intro X hX; (try dsimp only at hX); go_simp <;> with_reducible rfl
                          try simp only [List.getElem_toArray, List.getElem_cons_zero, Act.put, List.setIfInBounds_toArray, List.set_cons_zero, List.set_cons_succ]
                          refine wpAnyH_take (i := 1) (v := ?v25) rfl (by kernel_rfl) (by kernel_rfl) (by kernel_rfl) (fun _ _ _ h => h) (Or.inl ⟨by rfl, ?hy25⟩) (by assumption) ?rest25
                          case hy25 => intro X hX; (try dsimp only at hX); go_simp <;> with_reducible rfl
                          try simp only [List.getElem_toArray, List.getElem_cons_succ, List.getElem_cons_zero, Act.put, List.setIfInBounds_toArray, List.set_cons_zero, List.set_cons_succ]
                          refine wpAnyH_take (i := 2) (v := ?v26) rfl (by kernel_rfl) (by kernel_rfl) (by kernel_rfl) (fun _ _ _ h => h) (Or.inl ⟨by rfl, ?hy26⟩) (by assumption) ?rest26
                          case hy26 => intro X hX; (try dsimp only at hX); go_simp <;> with_reducible rfl
                          try simp only [List.getElem_toArray, List.getElem_cons_succ, List.getElem_cons_zero, Act.put, List.setIfInBounds_toArray, List.set_cons_zero, List.set_cons_succ]
                          refine wpAnyH_take (i := 3) (v := ?v27) rfl (by kernel_rfl) (by kernel_rfl) (by kernel_rfl) (fun _ _ _ h => h) (Or.inl ⟨by rfl, ?hy27⟩) (by assumption) ?rest27
                          case hy27 => intro X hX; (try dsimp only at hX); go_simp <;> with_reducible rfl
                          try simp only [List.getElem_toArray, List.getElem_cons_succ, List.getElem_cons_zero, Act.put, List.setIfInBounds_toArray, List.set_cons_zero, List.set_cons_succ]
                          refine wpAnyH_take (i := 4) (v := ?v28) rfl (by kernel_rfl) (by kernel_rfl) (by kernel_rfl) (fun _ _ _ h => h) (Or.inl ⟨by rfl, ?hy28⟩) (by assumption) ?rest28
                          case hy28 => intro X hX; (try dsimp only at hX); go_simp <;> with_reducible rfl
                          try simp only [List.getElem_toArray, List.getElem_cons_succ, List.getElem_cons_zero, Act.put, List.setIfInBounds_toArray, List.set_cons_zero, List.set_cons_succ]
                          refine wpAnyH_take (i := 5) (v := ?v29) rfl (by kernel_rfl) (by kernel_rfl) (by kernel_rfl) (fun _ _ _ h => h) (Or.inl ⟨by rfl, ?hy29⟩) (by assumption) ?rest29
                          case hy29 => intro X hX; (try dsimp only at hX); go_simp <;> with_reducible rfl
                          try simp only [List.getElem_toArray, List.getElem_cons_succ, List.getElem_cons_zero, Act.put, List.setIfInBounds_toArray, List.set_cons_zero, List.set_cons_succ]
                          refine wpAnyH_take (i := 6) (v := ?v30) rfl (by kernel_rfl) (by kernel_rfl) (by kernel_rfl) (fun _ _ _ h => h) (Or.inl ⟨by rfl, ?hy30⟩) (by assumption) ?rest30
                          case hy30 => intro X hX; (try dsimp only at hX); obtain ⟨q1, q2, q3⟩ := (BX.out.keep (hbel3.trans (hX.mono hbel3.size))).cells; have z1 := (hX.cell (p := ⟨gL, j, none⟩) hgLY).trans C1.out; have z3 := (hX.cell (p := ⟨gi, q, none⟩) hgiY).trans C3.out; go_simp <;> with_reducible rfl
                          try simp only [List.getElem_toArray, List.getElem_cons_succ, List.getElem_cons_zero, Act.put, List.setIfInBounds_toArray, List.set_cons_zero, List.set_cons_succ]
                          refine wpAnyH_take (i := 7) (v := ?v31) rfl (by kernel_rfl) (by kernel_rfl) (by kernel_rfl) (fun _ _ _ h => h) (Or.inl ⟨by rfl, ?hy31⟩) (by assumption) ?rest31
                          case hy31 => intro X hX; (try dsimp only at hX); obtain ⟨q1, q2, q3⟩ := (BX.out.keep (hbel3.trans (hX.mono hbel3.size))).cells; have z1 := (hX.cell (p := ⟨gL, j, none⟩) hgLY).trans C1.out; have z3 := (hX.cell (p := ⟨gi, q, none⟩) hgiY).trans C3.out; go_simp <;> with_reducible rfl
                          try simp only [List.getElem_toArray, List.getElem_cons_succ, List.getElem_cons_zero, Act.put, List.setIfInBounds_toArray, List.set_cons_zero, List.set_cons_succ]
                          refine wpAnyH_take (i := 8) (v := ?v32) rfl (by kernel_rfl) (by kernel_rfl) (by kernel_rfl) (fun _ _ _ h => h) (Or.inl ⟨by rfl, ?hy32⟩) (by assumption) ?rest32
                          case hy32 => intro X hX; (try dsimp only at hX); go_simp <;> with_reducible rfl
                          try simp only [List.getElem_toArray, List.getElem_cons_succ, List.getElem_cons_zero, Act.put, List.setIfInBounds_toArray, List.set_cons_zero, List.set_cons_succ]
                          refine wpAnyH_take (i := 9) (v := ?v33) rfl (by kernel_rfl) (by kernel_rfl) (by kernel_rfl) (fun _ _ _ h => h) (Or.inl ⟨by rfl, ?hy33⟩) (by assumption) ?rest33
                          case hy33 => intro X hX; (try dsimp only at hX); go_simp <;> with_reducible rfl
                          try simp only [List.getElem_toArray, List.getElem_cons_succ, List.getElem_cons_zero, Act.put, List.setIfInBounds_toArray, List.set_cons_zero, List.set_cons_succ]
                          refine wpAnyH_take (i := 10) (v := ?v34) rfl (by kernel_rfl) (by kernel_rfl) (by kernel_rfl) (fun _ _ _ h => h) (Or.inl ⟨by rfl, ?hy34⟩) (by assumption) ?rest34
                          case hy34 => intro X hX; (try dsimp only at hX); go_simp <;> with_reducible rfl
                          try simp only [List.getElem_toArray, List.getElem_cons_succ, List.getElem_cons_zero, Act.put, List.setIfInBounds_toArray, List.set_cons_zero, List.set_cons_succ]
                          refine wpAnyH_take (i := 11) (v := ?v35) rfl (by kernel_rfl) (by kernel_rfl) (by kernel_rfl) (fun _ _ _ h => h) (Or.inl ⟨by rfl, ?hy35⟩) (by assumption) ?rest35
                          case hy35 => intro X hX; (try dsimp only at hX); go_simp <;> with_reducible rfl
                          try simp only [List.getElem_toArray, List.getElem_cons_succ, List.getElem_cons_zero, Act.put, List.setIfInBounds_toArray, List.set_cons_zero, List.set_cons_succ]
                          refine wpAnyH_take (i := 12) (v := ?v36) rfl (by kernel_rfl) (by kernel_rfl) (by kernel_rfl) (fun _ _ _ h => h) (Or.inl ⟨by rfl, ?hy36⟩) (by assumption) ?rest36
                          case hy36 => intro X hX; (try dsimp only at hX); obtain ⟨q1, q2, q3⟩ := (BX.out.keep (hbel3.trans (hX.mono hbel3.size))).cells; have z1 := (hX.cell (p := ⟨gL, j, none⟩) hgLY).trans C1.out; have z3 := (hX.cell (p := ⟨gi, q, none⟩) hgiY).trans C3.out; go_simp <;> with_reducible rfl
                          try simp only [List.getElem_toArray, List.getElem_cons_succ, List.getElem_cons_zero, Act.put, List.setIfInBounds_toArray, List.set_cons_zero, List.set_cons_succ]
                          refine wpAnyH_take (i := 13) (v := ?v37) rfl (by kernel_rfl) (by kernel_rfl) (by kernel_rfl) (fun _ _ _ h => h) (Or.inl ⟨by rfl, ?hy37⟩) (by assumption) ?rest37
                          case hy37 => intro X hX; (try dsimp only at hX); obtain ⟨q1, q2, q3⟩ := (BX.out.keep (hbel3.trans (hX.mono hbel3.size))).cells; have z1 := (hX.cell (p := ⟨gL, j, none⟩) hgLY).trans C1.out; have z3 := (hX.cell (p := ⟨gi, q, none⟩) hgiY).trans C3.out; go_simp <;> with_reducible rfl
                          try simp only [List.getElem_toArray, List.getElem_cons_succ, List.getElem_cons_zero, Act.put, List.setIfInBounds_toArray, List.set_cons_zero, List.set_cons_succ]
                          refine wpAnyH_take (i := 14) (v := ?v38) rfl (by kernel_rfl) (by kernel_rfl) (by kernel_rfl) (fun _ _ _ h => h) (Or.inl ⟨by rfl, ?hy38⟩) (by assumption) ?rest38
                          case hy38 => intro X hX; (try dsimp only at hX); go_simp <;> with_reducible rfl
                          try simp only [List.getElem_toArray, List.getElem_cons_succ, List.getElem_cons_zero, Act.put, List.setIfInBounds_toArray, List.set_cons_zero, List.set_cons_succ]
                          refine wpAnyH_take (i := 15) (v := ?v39) rfl (by kernel_rfl) (by kernel_rfl) (by kernel_rfl) (fun _ _ _ h => h) (Or.inl ⟨by rfl, ?hy39⟩) (by assumption) ?rest39
                          case hy39 => intro X hX; (try dsimp only at hX); go_simp <;> with_reducible rfl
                          try simp only [List.getElem_toArray, List.getElem_cons_succ, List.getElem_cons_zero, Act.put, List.setIfInBounds_toArray, List.set_cons_zero, List.set_cons_succ]
                          refine wpAnyH_take (i := 16) (v := ?v40) rfl (by kernel_rfl) (by kernel_rfl) (by kernel_rfl) (fun _ _ _ h => h) (Or.inl ⟨by rfl, ?hy40⟩) (by assumption) ?rest40
                          case hy40 => intro X hX; (try dsimp only at hX); go_simp <;> with_reducible rfl
                          try simp only [List.getElem_toArray, List.getElem_cons_succ, List.getElem_cons_zero, Act.put, List.setIfInBounds_toArray, List.set_cons_zero, List.set_cons_succ]
                          refine wpAnyH_take (i := 17) (v := ?v41) rfl (by kernel_rfl) (by kernel_rfl) (by kernel_rfl) (fun _ _ _ h => h) (Or.inl ⟨by rfl, ?hy41⟩) (by assumption) ?rest41
                          case hy41 => intro X hX; (try dsimp only at hX); go_simp <;> with_reducible rfl
                          try simp only [List.getElem_toArray, List.getElem_cons_succ, List.getElem_cons_zero, Act.put, List.setIfInBounds_toArray, List.set_cons_zero, List.set_cons_succ]
                          refine wpAnyH_take (i := 18) (v := undef) rfl (by kernel_rfl) (by kernel_rfl) (by kernel_rfl) (fun _ _ _ h => h) (Or.inr ⟨by rfl, rfl⟩) (by assumption) ?_
                          try simp only [List.getElem_toArray, List.getElem_cons_succ, List.getElem_cons_zero, Act.put, List.setIfInBounds_toArray, List.set_cons_zero, List.set_cons_succ]
                          refine wpAnyH_take (i := 19) (v := undef) rfl (by kernel_rfl) (by kernel_rfl) (by kernel_rfl) (fun _ _ _ h => h) (Or.inr ⟨by rfl, rfl⟩) (by assumption) ?_
                          try simp only [List.getElem_toArray, List.getElem_cons_succ, List.getElem_cons_zero, Act.put, List.setIfInBounds_toArray, List.set_cons_zero, List.set_cons_succ]
                          refine wpAnyH_take (i := 20) (v := undef) rfl (by kernel_rfl) (by kernel_rfl) (by kernel_rfl) (fun _ _ _ h => h) (Or.inr ⟨by rfl, rfl⟩) (by assumption) ?_
                          try simp only [List.getElem_toArray, List.getElem_cons_succ, List.getElem_cons_zero, Act.put, List.setIfInBounds_toArray, List.set_cons_zero, List.set_cons_succ]
                          refine wpAnyH_take (i := 21) (v := undef) rfl (by kernel_rfl) (by kernel_rfl) (by kernel_rfl) (fun _ _ _ h => h) (Or.inr ⟨by rfl, rfl⟩) (by assumption) ?_
                          try simp only [List.getElem_toArray, List.getElem_cons_succ, List.getElem_cons_zero, Act.put, List.setIfInBounds_toArray, List.set_cons_zero, List.set_cons_succ]
                          refine wpAnyH_take (i := 22) (v := undef) rfl (by kernel_rfl) (by kernel_rfl) (by kernel_rfl) (fun _ _ _ h => h) (Or.inr ⟨by rfl, rfl⟩) (by assumption) ?_
                          try simp only [List.getElem_toArray, List.getElem_cons_succ, List.getElem_cons_zero, Act.put, List.setIfInBounds_toArray, List.set_cons_zero, List.set_cons_succ]
                          refine wpAnyH_take (i := 23) (v := undef) rfl (by kernel_rfl) (by kernel_rfl) (by kernel_rfl) (fun _ _ _ h => h) (Or.inr ⟨by rfl, rfl⟩) (by assumption) ?_
                          try simp only [List.getElem_toArray, List.getElem_cons_succ, List.getElem_cons_zero, Act.put, List.setIfInBounds_toArray, List.set_cons_zero, List.set_cons_succ]
                          refine wpAnyH_take (i := 24) (v := undef) rfl (by kernel_rfl) (by kernel_rfl) (by kernel_rfl) (fun _ _ _ h => h) (Or.inr ⟨by rfl, rfl⟩) (by assumption) ?_
                          try simp only [List.getElem_toArray, List.getElem_cons_succ, List.getElem_cons_zero, Act.put, List.setIfInBounds_toArray, List.set_cons_zero, List.set_cons_succ]
                          refine wpAnyH_take (i := 25) (v := undef) rfl (by kernel_rfl) (by kernel_rfl) (by kernel_rfl) (fun _ _ _ h => h) (Or.inr ⟨by rfl, rfl⟩) (by assumption) ?_
                          try simp only [List.getElem_toArray, List.getElem_cons_succ, List.getElem_cons_zero, Act.put, List.setIfInBounds_toArray, List.set_cons_zero, List.set_cons_succ]
                          refine wpAnyH_take (i := 26) (v := ?v42) rfl (by kernel_rfl) (by kernel_rfl) (by kernel_rfl) (fun _ _ _ h => h) (Or.inl ⟨by rfl, ?hy42⟩) (by assumption) ?rest42
                          case hy42 => intro X hX; (try dsimp only at hX); go_simp <;> with_reducible rfl
                          try simp only [List.getElem_toArray, List.getElem_cons_succ, List.getElem_cons_zero, Act.put, List.setIfInBounds_toArray, List.set_cons_zero, List.set_cons_succ]
                          refine wpAnyH_done (by kernel_rfl) ?_ _
                          go_wp2
                          go_roundw
                          case rel => exact ⟨j + 1, gn3, cn3, vn3, Fn3, nxt3, by omega, by go_num, rfl, hst6, by omega, hLy3.keep hHeld, hbel3.trans (hHeld.mono hbel3.size)⟩
                          case measure => simp [intOf]; omega
                        · have txy : (x != -y) = true := by simpa using hxy
                          have HOK : Hid (okNext u x = true) := Lib.hid (by rw [hok, decide_eq_false hxy]; rfl)
                          clear hok hxy
                          go_wp2
                          refine wp_region_held_drew (S := fun X => Below W3.heap.size W3 X) (by kernel_rfl) ((Below.refl W3.heap.size W3).drew) (fun hHeld => ?_)
                          refine wpAnyH_take (i := 0) (v := ?v43) rfl (by kernel_rfl) (by kernel_rfl) (by kernel_rfl) (fun _ _ _ h => h) (Or.inl ⟨by rfl, ?hy43⟩) (by assumption) ?rest43
                          case hy43 => intro X hX; (try dsimp only at hX); go_simp <;> with_reducible rfl
                          try simp only [List.getElem_toArray, List.getElem_cons_zero, Act.put, List.setIfInBounds_toArray, List.set_cons_zero, List.set_cons_succ]
                          refine wpAnyH_take (i := 1) (v := ?v44) rfl (by kernel_rfl) (by kernel_rfl) (by kernel_rfl) (fun _ _ _ h => h) (Or.inl ⟨by rfl, ?hy44⟩) (by assumption) ?rest44
                          case hy44 => intro X hX; (try dsimp only at hX); go_simp <;> with_reducible rfl
                          try simp only [List.getElem_toArray, List.getElem_cons_succ, List.getElem_cons_zero, Act.put, List.setIfInBounds_toArray, List.set_cons_zero, List.set_cons_succ]
                          refine wpAnyH_take (i := 2) (v := ?v45) rfl (by kernel_rfl) (by kernel_rfl) (by kernel_rfl) (fun _ _ _ h => h) (Or.inl ⟨by rfl, ?hy45⟩) (by assumption) ?rest45
                          case hy45 => intro X hX; (try dsimp only at hX); go_simp <;> with_reducible rfl
                          try simp only [List.getElem_toArray, List.getElem_cons_succ, List.getElem_cons_zero, Act.put, List.setIfInBounds_toArray, List.set_cons_zero, List.set_cons_succ]
                          refine wpAnyH_take (i := 3) (v := ?v46) rfl (by kernel_rfl) (by kernel_rfl) (by kernel_rfl) (fun _ _ _ h => h) (Or.inl ⟨by rfl, ?hy46⟩) (by assumption) ?rest46
                          case hy46 => intro X hX; (try dsimp only at hX); go_simp <;> with_reducible rfl
                          try simp only [List.getElem_toArray, List.getElem_cons_succ, List.getElem_cons_zero, Act.put, List.setIfInBounds_toArray, List.set_cons_zero, List.set_cons_succ]
                          refine wpAnyH_take (i := 4) (v := ?v47) rfl (by kernel_rfl) (by kernel_rfl) (by kernel_rfl) (fun _ _ _ h => h) (Or.inl ⟨by rfl, ?hy47⟩) (by assumption) ?rest47
                          case hy47 => intro X hX; (try dsimp only at hX); go_simp <;> with_reducible rfl
                          try simp only [List.getElem_toArray, List.getElem_cons_succ, List.getElem_cons_zero, Act.put, List.setIfInBounds_toArray, List.set_cons_zero, List.set_cons_succ]
                          refine wpAnyH_take (i := 5) (v := ?v48) rfl (by kernel_rfl) (by kernel_rfl) (by kernel_rfl) (fun _ _ _ h => h) (Or.inl ⟨by rfl, ?hy48⟩) (by assumption) ?rest48
                          case hy48 => intro X hX; (try dsimp only at hX); go_simp <;> with_reducible rfl
                          try simp only [List.getElem_toArray, List.getElem_cons_succ, List.getElem_cons_zero, Act.put, List.setIfInBounds_toArray, List.set_cons_zero, List.set_cons_succ]
                          refine wpAnyH_take (i := 6) (v := ?v49) rfl (by kernel_rfl) (by kernel_rfl) (by kernel_rfl) (fun _ _ _ h => h) (Or.inl ⟨by rfl, ?hy49⟩) (by assumption) ?rest49
                          case hy49 => intro X hX; (try dsimp only at hX); obtain ⟨q1, q2, q3⟩ := (BX.out.keep (hbel3.trans (hX.mono hbel3.size))).cells; have z1 := (hX.cell (p := ⟨gL, j, none⟩) hgLY).trans C1.out; have z3 := (hX.cell (p := ⟨gi, q, none⟩) hgiY).trans C3.out; go_simp <;> with_reducible rfl
                          try simp only [List.getElem_toArray, List.getElem_cons_succ, List.getElem_cons_zero, Act.put, List.setIfInBounds_toArray, List.set_cons_zero, List.set_cons_succ]
                          refine wpAnyH_take (i := 7) (v := ?v50) rfl (by kernel_rfl) (by kernel_rfl) (by kernel_rfl) (fun _ _ _ h => h) (Or.inl ⟨by rfl, ?hy50⟩) (by assumption) ?rest50
                          case hy50 => intro X hX; (try dsimp only at hX); obtain ⟨q1, q2, q3⟩ := (BX.out.keep (hbel3.trans (hX.mono hbel3.size))).cells; have z1 := (hX.cell (p := ⟨gL, j, none⟩) hgLY).trans C1.out; have z3 := (hX.cell (p := ⟨gi, q, none⟩) hgiY).trans C3.out; go_simp <;> with_reducible rfl
                          try simp only [List.getElem_toArray, List.getElem_cons_succ, List.getElem_cons_zero, Act.put, List.setIfInBounds_toArray, List.set_cons_zero, List.set_cons_succ]
                          refine wpAnyH_take (i := 8) (v := ?v51) rfl (by kernel_rfl) (by kernel_rfl) (by kernel_rfl) (fun _ _ _ h => h) (Or.inl ⟨by rfl, ?hy51⟩) (by assumption) ?rest51
                          case hy51 => intro X hX; (try dsimp only at hX); go_simp <;> with_reducible rfl
                          try simp only [List.getElem_toArray, List.getElem_cons_succ, List.getElem_cons_zero, Act.put, List.setIfInBounds_toArray, List.set_cons_zero, List.set_cons_succ]
                          refine wpAnyH_take (i := 9) (v := ?v52) rfl (by kernel_rfl) (by kernel_rfl) (by kernel_rfl) (fun _ _ _ h => h) (Or.inl ⟨by rfl, ?hy52⟩) (by assumption) ?rest52
                          case hy52 => intro X hX; (try dsimp only at hX); go_simp <;> with_reducible rfl
                          try simp only [List.getElem_toArray, List.getElem_cons_succ, List.getElem_cons_zero, Act.put, List.setIfInBounds_toArray, List.set_cons_zero, List.set_cons_succ]
                          refine wpAnyH_take (i := 10) (v := ?v53) rfl (by kernel_rfl) (by kernel_rfl) (by kernel_rfl) (fun _ _ _ h => h) (Or.inl ⟨by rfl, ?hy53⟩) (by assumption) ?rest53
                          case hy53 => intro X hX; (try dsimp only at hX); go_simp <;> with_reducible rfl
                          try simp only [List.getElem_toArray, List.getElem_cons_succ, List.getElem_cons_zero, Act.put, List.setIfInBounds_toArray, List.set_cons_zero, List.set_cons_succ]
                          refine wpAnyH_take (i := 11) (v := ?v54) rfl (by kernel_rfl) (by kernel_rfl) (by kernel_rfl) (fun _ _ _ h => h) (Or.inl ⟨by rfl, ?hy54⟩) (by assumption) ?rest54
                          case hy54 => intro X hX; (try dsimp only at hX); go_simp <;> with_reducible rfl
                          try simp only [List.getElem_toArray, List.getElem_cons_succ, List.getElem_cons_zero, Act.put, List.setIfInBounds_toArray, List.set_cons_zero, List.set_cons_succ]
                          refine wpAnyH_take (i := 12) (v := ?v55) rfl (by kernel_rfl) (by kernel_rfl) (by kernel_rfl) (fun _ _ _ h => h) (Or.inl ⟨by rfl, ?hy55⟩) (by assumption) ?rest55
                          case hy55 => intro X hX; (try dsimp only at hX); obtain ⟨q1, q2, q3⟩ := (BX.out.keep (hbel3.trans (hX.mono hbel3.size))).cells; have z1 := (hX.cell (p := ⟨gL, j, none⟩) hgLY).trans C1.out; have z3 := (hX.cell (p := ⟨gi, q, none⟩) hgiY).trans C3.out; go_simp <;> with_reducible rfl
                          try simp only [List.getElem_toArray, List.getElem_cons_succ, List.getElem_cons_zero, Act.put, List.setIfInBounds_toArray, List.set_cons_zero, List.set_cons_succ]
                          refine wpAnyH_take (i := 13) (v := ?v56) rfl (by kernel_rfl) (by kernel_rfl) (by kernel_rfl) (fun _ _ _ h => h) (Or.inl ⟨by rfl, ?hy56⟩) (by assumption) ?rest56
                          case hy56 => intro X hX; (try dsimp only at hX); obtain ⟨q1, q2, q3⟩ := (BX.out.keep (hbel3.trans (hX.mono hbel3.size))).cells; have z1 := (hX.cell (p := ⟨gL, j, none⟩) hgLY).trans C1.out; have z3 := (hX.cell (p := ⟨gi, q, none⟩) hgiY).trans C3.out; go_simp <;> with_reducible rfl
                          try simp only [List.getElem_toArray, List.getElem_cons_succ, List.getElem_cons_zero, Act.put, List.setIfInBounds_toArray, List.set_cons_zero, List.set_cons_succ]
                          refine wpAnyH_take (i := 14) (v := ?v57) rfl (by kernel_rfl) (by kernel_rfl) (by kernel_rfl) (fun _ _ _ h => h) (Or.inl ⟨by rfl, ?hy57⟩) (by assumption) ?rest57
                          case hy57 => intro X hX; (try dsimp only at hX); go_simp <;> with_reducible rfl
                          try simp only [List.getElem_toArray, List.getElem_cons_succ, List.getElem_cons_zero, Act.put, List.setIfInBounds_toArray, List.set_cons_zero, List.set_cons_succ]
                          refine wpAnyH_take (i := 15) (v := ?v58) rfl (by kernel_rfl) (by kernel_rfl) (by kernel_rfl) (fun _ _ _ h => h) (Or.inl ⟨by rfl, ?hy58⟩) (by assumption) ?rest58
                          case hy58 => intro X hX; (try dsimp only at hX); go_simp <;> with_reducible rfl
                          try simp only [List.getElem_toArray, List.getElem_cons_succ, List.getElem_cons_zero, Act.put, List.setIfInBounds_toArray, List.set_cons_zero, List.set_cons_succ]
                          refine wpAnyH_take (i := 16) (v := ?v59) rfl (by kernel_rfl) (by kernel_rfl) (by kernel_rfl) (fun _ _ _ h => h) (Or.inl ⟨by rfl, ?hy59⟩) (by assumption) ?rest59
                          case hy59 => intro X hX; (try dsimp only at hX); go_simp <;> with_reducible rfl
                          try simp only [List.getElem_toArray, List.getElem_cons_succ, List.getElem_cons_zero, Act.put, List.setIfInBounds_toArray, List.set_cons_zero, List.set_cons_succ]
                          refine wpAnyH_take (i := 17) (v := ?v60) rfl (by kernel_rfl) (by kernel_rfl) (by kernel_rfl) (fun _ _ _ h => h) (Or.inl ⟨by rfl, ?hy60⟩) (by assumption) ?rest60
                          case hy60 => intro X hX; (try dsimp only at hX); go_simp <;> with_reducible rfl
                          try simp only [List.getElem_toArray, List.getElem_cons_succ, List.getElem_cons_zero, Act.put, List.setIfInBounds_toArray, List.set_cons_zero, List.set_cons_succ]
                          refine wpAnyH_take (i := 18) (v := ?v61) rfl (by kernel_rfl) (by kernel_rfl) (by kernel_rfl) (fun _ _ _ h => h) (Or.inl ⟨by rfl, ?hy61⟩) (by assumption) ?rest61
                          case hy61 => intro X hX; (try dsimp only at hX); obtain ⟨q1, q2, q3⟩ := (BX.out.keep (hbel3.trans (hX.mono hbel3.size))).cells; have z1 := (hX.cell (p := ⟨gL, j, none⟩) hgLY).trans C1.out; have z3 := (hX.cell (p := ⟨gi, q, none⟩) hgiY).trans C3.out; go_simp <;> with_reducible rfl
                          try simp only [List.getElem_toArray, List.getElem_cons_succ, List.getElem_cons_zero, Act.put, List.setIfInBounds_toArray, List.set_cons_zero, List.set_cons_succ]
                          refine wpAnyH_take (i := 19) (v := ?v62) rfl (by kernel_rfl) (by kernel_rfl) (by kernel_rfl) (fun _ _ _ h => h) (Or.inl ⟨by rfl, ?hy62⟩) (by assumption) ?rest62
                          case hy62 => intro X hX; (try dsimp only at hX); go_simp <;> with_reducible rfl
                          try simp only [List.getElem_toArray, List.getElem_cons_succ, List.getElem_cons_zero, Act.put, List.setIfInBounds_toArray, List.set_cons_zero, List.set_cons_succ]
                          refine wpAnyH_take (i := 20) (v := ?v63) rfl (by kernel_rfl) (by kernel_rfl) (by kernel_rfl) (fun _ _ _ h => h) (Or.inl ⟨by rfl, ?hy63⟩) (by assumption) ?rest63
                          case hy63 => intro X hX; (try dsimp only at hX); go_simp <;> with_reducible rfl
                          try simp only [List.getElem_toArray, List.getElem_cons_succ, List.getElem_cons_zero, Act.put, List.setIfInBounds_toArray, List.set_cons_zero, List.set_cons_succ]
                          refine wpAnyH_take (i := 21) (v := ?v64) rfl (by kernel_rfl) (by kernel_rfl) (by kernel_rfl) (fun _ _ _ h => h) (Or.inl ⟨by rfl, ?hy64⟩) (by assumption) ?rest64
                          case hy64 => intro X hX; (try dsimp only at hX); go_simp <;> with_reducible rfl
                          try simp only [List.getElem_toArray, List.getElem_cons_succ, List.getElem_cons_zero, Act.put, List.setIfInBounds_toArray, List.set_cons_zero, List.set_cons_succ]
                          refine wpAnyH_take (i := 22) (v := ?v65) rfl (by kernel_rfl) (by kernel_rfl) (by kernel_rfl) (fun _ _ _ h => h) (Or.inl ⟨by rfl, ?hy65⟩) (by assumption) ?rest65
                          case hy65 => intro X hX; (try dsimp only at hX); obtain ⟨q1, q2, q3⟩ := (BX.out.keep (hbel3.trans (hX.mono hbel3.size))).cells; have z1 := (hX.cell (p := ⟨gL, j, none⟩) hgLY).trans C1.out; have z3 := (hX.cell (p := ⟨gi, q, none⟩) hgiY).trans C3.out; go_simp <;> with_reducible rfl
                          try simp only [List.getElem_toArray, List.getElem_cons_succ, List.getElem_cons_zero, Act.put, List.setIfInBounds_toArray, List.set_cons_zero, List.set_cons_succ]
                          refine wpAnyH_take (i := 23) (v := ?v66) rfl (by kernel_rfl) (by kernel_rfl) (by kernel_rfl) (fun _ _ _ h => h) (Or.inl ⟨by rfl, ?hy66⟩) (by assumption) ?rest66
                          case hy66 => intro X hX; (try dsimp only at hX); obtain ⟨q1, q2, q3⟩ := (BX.out.keep (hbel3.trans (hX.mono hbel3.size))).cells; have z1 := (hX.cell (p := ⟨gL, j, none⟩) hgLY).trans C1.out; have z3 := (hX.cell (p := ⟨gi, q, none⟩) hgiY).trans C3.out; go_simp <;> with_reducible rfl
                          try simp only [List.getElem_toArray, List.getElem_cons_succ, List.getElem_cons_zero, Act.put, List.setIfInBounds_toArray, List.set_cons_zero, List.set_cons_succ]
                          refine wpAnyH_ready (rs := [24]) (by kernel_rfl) (by simp) ?_
                          refine AllReadyH.cons rfl (fun K hK => ?_) AllReadyH.nil
                          go_simp
                          go_at_call 11
                          refine (HN1.out _ hHeld).mono ?_
                          rintro e w2 ⟨rfl, hb2⟩
                          (try go_simp)
                          refine hK.out _ _ (hHeld.trans (hb2.mono hHeld.size)) (fun hHeld2 => ?_)
                          replace hHeld := hHeld2
                          clear hHeld2
                          clear hK K
                          try simp only [List.getElem_toArray, List.getElem_cons_succ, List.getElem_cons_zero, Act.put, List.setIfInBounds_toArray, List.set_cons_zero, List.set_cons_succ]
                          refine wpAnyH_take (i := 25) (v := ?v67) rfl (by kernel_rfl) (by kernel_rfl) (by kernel_rfl) (fun _ _ _ h => h) (Or.inl ⟨by rfl, ?hy67⟩) (by assumption) ?rest67
                          case hy67 => intro X hX; (try dsimp only at hX); go_simp <;> with_reducible rfl
                          try simp only [List.getElem_toArray, List.getElem_cons_succ, List.getElem_cons_zero, Act.put, List.setIfInBounds_toArray, List.set_cons_zero, List.set_cons_succ]
                          refine wpAnyH_take (i := 26) (v := ?v68) rfl (by kernel_rfl) (by kernel_rfl) (by kernel_rfl) (fun _ _ _ h => h) (Or.inl ⟨by rfl, ?hy68⟩) (by assumption) ?rest68
                          case hy68 => intro X hX; (try dsimp only at hX); go_simp <;> with_reducible rfl
                          try simp only [List.getElem_toArray, List.getElem_cons_succ, List.getElem_cons_zero, Act.put, List.setIfInBounds_toArray, List.set_cons_zero, List.set_cons_succ]
                          refine wpAnyH_done (by kernel_rfl) ?_ _
                          by_cases hneg : nv < 0
                          · have hst6 : Kept (nxt3 = nxt ++ extR l v (L.take (j + 1)) u) := ⟨by rw [HN.out (.inr (by rw [HNV.out]; exact hneg)), hst3.out]⟩
                            have tn : ¬ 0 ≤ nv := by omega
                            go_wp2
                            go_roundw
                            case rel => exact ⟨j + 1, gn3, cn3, vn3, Fn3, nxt3, by omega, by go_num, rfl, hst6, by omega, hLy3.keep hHeld, hbel3.trans (hHeld.mono hbel3.size)⟩
                            case measure => simp [intOf]; omega
                          · have hst6 : Kept (nxt3 ++ [u ++ [x]] = nxt ++ extR l v (L.take (j + 1)) u) := ⟨by rw [HYS.out HOK.out (by rw [HNV.out]; omega), hst3.out, List.append_assoc]⟩
                            have tn : 0 ≤ nv := by omega
                            have hLyY := hLy3.keep hHeld
                            have hbelY := hbel3.trans (hHeld.mono hbel3.size)
                            have LUI := Lib.hid (HROW3.out.keep hHeld).ints
                            have hgLY2 : gL < w2.heap.size := (ownsRow_parts hLyY.lets).2.1
                            have C1Y := Lib.hid ((hHeld.cell (p := ⟨gL, j, none⟩) hgLY).trans C1.out)
                            have hgne : gL ≠ gn3 := fun e => hLyY.ln2 (e ▸ hLyY.nxt.spine)
                            clear hLy3 hbel3 hHeld hneg hb2
                            go_wp2
                            obtain ⟨S, hS⟩ : ∃ S : World → Prop, S = fun X => X.cell? ⟨gL, j, none⟩ = some (.int .i64 x) := ⟨_, rfl⟩
                            have sb : ∀ X, Below w2.heap.size w2 X → S X := fun X hX => by rw [hS]; exact (hX.cell (p := ⟨gL, j, none⟩) hgLY2).trans C1Y.out
                            have sl : ∀ X, S X → X.cell? ⟨gL, j, none⟩ = some (.int .i64 x) := fun X hX => by rw [hS] at hX; exact hX
                            have sn : ∀ X X', Below w2.heap.size w2 X → X.grownBy X' (some gn3) → S X' := fun X X' hX hg => by
                              have h1 := sl X (sb X hX)
                              rw [hS]
                              exact (World.cell?_of_block (a := ⟨gL, j, none⟩) (hg.block gL (Nat.lt_of_lt_of_le hgLY2 hX.size) (by simp only [ne_eq, Option.some.injEq]; exact hgne))).trans h1
                            have SB := Lib.hid sb
                            have SL := Lib.hid sl
                            have SN := Lib.hid sn
                            clear sb sl sn hS
                            have hq0 : Below w2.heap.size w2 w2.drew := (Below.refl w2.heap.size w2).drew
                            refine wp_region_held_drew (S := S) (by kernel_rfl) (SB.out _ hq0) (fun hHeld => ?_)
                            refine wpAnyH_take (i := 0) (v := ?v69) rfl (by kernel_rfl) (by kernel_rfl) (by kernel_rfl) (fun _ _ _ h => h) (Or.inl ⟨by rfl, ?hy69⟩) (by assumption) ?rest69
                            case hy69 => intro X hX; (try dsimp only at hX); go_simp <;> with_reducible rfl
                            try simp only [List.getElem_toArray, List.getElem_cons_zero, Act.put, List.setIfInBounds_toArray, List.set_cons_zero, List.set_cons_succ]
                            refine wpAnyH_take (i := 2) (v := ?v70) rfl (by kernel_rfl) (by kernel_rfl) (by kernel_rfl) (fun _ _ _ h => h) (Or.inl ⟨by rfl, ?hy70⟩) (by assumption) ?rest70
                            case hy70 => intro X hX; (try dsimp only at hX); go_simp <;> with_reducible rfl
                            try simp only [List.getElem_toArray, List.getElem_cons_succ, List.getElem_cons_zero, Act.put, List.setIfInBounds_toArray, List.set_cons_zero, List.set_cons_succ]
                            refine wpAnyH_take (i := 4) (v := ?v71) rfl (by kernel_rfl) (by kernel_rfl) (by kernel_rfl) (fun _ _ _ h => h) (Or.inl ⟨by rfl, ?hy71⟩) (by assumption) ?rest71
                            case hy71 => intro X hX; (try dsimp only at hX); go_simp <;> with_reducible rfl
                            try simp only [List.getElem_toArray, List.getElem_cons_succ, List.getElem_cons_zero, Act.put, List.setIfInBounds_toArray, List.set_cons_zero, List.set_cons_succ]
                            refine wpAnyH_take (i := 5) (v := ?v72) rfl (by kernel_rfl) (by kernel_rfl) (by kernel_rfl) (fun _ _ _ h => h) (Or.inl ⟨by rfl, ?hy72⟩) (by assumption) ?rest72
                            case hy72 => intro X hX; (try dsimp only at hX); go_simp <;> with_reducible rfl
                            try simp only [List.getElem_toArray, List.getElem_cons_succ, List.getElem_cons_zero, Act.put, List.setIfInBounds_toArray, List.set_cons_zero, List.set_cons_succ]
                            refine wpAnyH_take (i := 6) (v := ?v73) rfl (by kernel_rfl) (by kernel_rfl) (by kernel_rfl) (fun _ _ _ h => h) (Or.inl ⟨by rfl, ?hy73⟩) (by assumption) ?rest73
                            case hy73 => intro X hX; (try dsimp only at hX); have z1 := SL.out X hX; go_simp <;> with_reducible rfl
                            try simp only [List.getElem_toArray, List.getElem_cons_succ, List.getElem_cons_zero, Act.put, List.setIfInBounds_toArray, List.set_cons_zero, List.set_cons_succ]
                            refine wpAnyH_take (i := 7) (v := ?v74) rfl (by kernel_rfl) (by kernel_rfl) (by kernel_rfl) (fun _ _ _ h => h) (Or.inl ⟨by rfl, ?hy74⟩) (by assumption) ?rest74
                            case hy74 => intro X hX; (try dsimp only at hX); have z1 := SL.out X hX; go_simp <;> with_reducible rfl
                            try simp only [List.getElem_toArray, List.getElem_cons_succ, List.getElem_cons_zero, Act.put, List.setIfInBounds_toArray, List.set_cons_zero, List.set_cons_succ]
                            refine wpAnyH_ready (rs := [1, 8]) (by kernel_rfl) (by simp) ?_
                            refine AllReadyH.cons rfl (fun K hK => ?_) (AllReadyH.cons rfl (fun K hK => ?_) AllReadyH.nil)
                            go_simp
                            have hq1 := hq0.alloc hq0.size (.cells #[] 3 (0, 0))
                            refine hK.out _ _ (SB.out _ hq1) (fun hHeld2 => ?_)
                            replace hHeld := hHeld2
                            clear hHeld2 hK K
                            try simp only [List.getElem_toArray, List.getElem_cons_succ, List.getElem_cons_zero, Act.put, List.setIfInBounds_toArray, List.set_cons_zero, List.set_cons_succ]
                            refine wpAnyH_ready (rs := [3, 8]) (by kernel_rfl) (by simp) ?_
                            refine AllReadyH.cons rfl (fun K hK => ?_) (AllReadyH.cons rfl (fun K hK => ?_) AllReadyH.nil)
                            refine step_app elemI rfl (.tmp 106) (.tmp 107) rfl rfl (World.ownsRow_made (base := w2.heap.size) (e := 3) (size := 1) w2.drew #[] 0 (Nat.le_refl _) (by decide) rfl) rfl (by simp [intsV]) ((LUI.out.keep hq1).news) (intsV_one _) (by omega) ?_
                            intro g1 c1' X1 hown1 hgrow1 hat1
                            have hq2 : Below w2.heap.size w2 X1 := below_grown hq1 hgrow1 hq1.size (Nat.le_refl _)
                            simp only [Nat.zero_add, List.nil_append] at hown1
                            refine hK.out _ _ (SB.out _ hq2) (fun hHeld2 => ?_)
                            replace hHeld := hHeld2
                            clear hHeld2 hK K
                            try simp only [List.getElem_toArray, List.getElem_cons_succ, List.getElem_cons_zero, Act.put, List.setIfInBounds_toArray, List.set_cons_zero, List.set_cons_succ]
                            refine wpAnyH_ready (rs := [8]) (by kernel_rfl) (by simp) ?_
                            refine AllReadyH.cons rfl (fun K hK => ?_) AllReadyH.nil
                            go_simp
                            have hq3 := hq2.alloc hq2.size (.cells #[.int .i64 x] 3 (0, 0))
                            refine hK.out _ _ (SB.out _ hq3) (fun hHeld2 => ?_)
                            replace hHeld := hHeld2
                            clear hHeld2 hK K
                            try simp only [List.getElem_toArray, List.getElem_cons_succ, List.getElem_cons_zero, Act.put, List.setIfInBounds_toArray, List.set_cons_zero, List.set_cons_succ]
                            refine wpAnyH_ready (rs := [9]) (by kernel_rfl) (by simp) ?_
                            refine AllReadyH.cons rfl (fun K hK => ?_) AllReadyH.nil
                            refine step_push elemI rfl (.tmp 108) (.tmp 113) rfl rfl (hown1.alloc (.cells #[.int .i64 x] 3 (0, 0))) rfl (heap_alloc_new _ _) rfl (by omega) ?_
                            intro g4 c4 w4 hown4 hgrow4 hat4
                            have hb4 : Below w2.heap.size w2 w4 := below_grown hq3 hgrow4 hq3.size (ownsRow_parts hown1).1
                            refine hK.out _ _ (SB.out _ hb4) (fun hHeld2 => ?_)
                            replace hHeld := hHeld2
                            clear hHeld2 hK K
                            try simp only [List.getElem_toArray, List.getElem_cons_succ, List.getElem_cons_zero, Act.put, List.setIfInBounds_toArray, List.set_cons_zero, List.set_cons_succ]
                            refine wpAnyH_ready (rs := [10]) (by kernel_rfl) (by simp) ?_
                            refine AllReadyH.cons rfl (fun K hK => ?_) AllReadyH.nil
                            go_simp
                            have hq9 := hb4.alloc hb4.size (.cells #[.slice (some ⟨g4, 0, none⟩) (u.length + 1) c4] 33 (0, 0))
                            refine hK.out _ _ (SB.out _ hq9) (fun hHeld2 => ?_)
                            replace hHeld := hHeld2
                            clear hHeld2 hK K
                            try simp only [List.getElem_toArray, List.getElem_cons_succ, List.getElem_cons_zero, Act.put, List.setIfInBounds_toArray, List.set_cons_zero, List.set_cons_succ]
                            refine wpAnyH_ready (rs := [11]) (by kernel_rfl) (by simp) ?_
                            refine AllReadyH.cons rfl (fun K hK => ?_) AllReadyH.nil
                            refine step_push elemII rfl (.tmp 105) (.tmp 115) rfl rfl ((ownsRow_keep hLyY.nxt.own hb4).alloc (.cells #[.slice (some ⟨g4, 0, none⟩) (u.length + 1) c4] 33 (0, 0))) rfl (heap_alloc_new _ _) rfl (by omega) ?_
                            intro g6 c6 w6 hown6 hgrow6 hat6
                            refine hK.out _ _ (SN.out _ _ hq9 hgrow6) (fun hHeld2 => ?_)
                            replace hHeld := hHeld2
                            clear hHeld2 hK K
                            try simp only [List.getElem_toArray, List.getElem_cons_succ, List.getElem_cons_zero, Act.put, List.setIfInBounds_toArray, List.set_cons_zero, List.set_cons_succ]
                            refine wpAnyH_take (i := 12) (v := ?v75) rfl (by kernel_rfl) (by kernel_rfl) (by kernel_rfl) (fun _ _ _ h => h) (Or.inl ⟨by rfl, ?hy75⟩) (by assumption) ?rest75
                            case hy75 => intro X hX; (try dsimp only at hX); go_simp <;> with_reducible rfl
                            try simp only [List.getElem_toArray, List.getElem_cons_succ, List.getElem_cons_zero, Act.put, List.setIfInBounds_toArray, List.set_cons_zero, List.set_cons_succ]
                            refine wpAnyH_done (by kernel_rfl) ?_ _
                            rotate_left
                            go_simp
                            have hq2 := hq1.alloc hq1.size (.cells #[.int .i64 x] 3 (0, 0))
                            refine hK.out _ _ (SB.out _ hq2) (fun hHeld2 => ?_)
                            replace hHeld := hHeld2
                            clear hHeld2 hK K
                            try simp only [List.getElem_toArray, List.getElem_cons_succ, List.getElem_cons_zero, Act.put, List.setIfInBounds_toArray, List.set_cons_zero, List.set_cons_succ]
                            refine wpAnyH_ready (rs := [3]) (by kernel_rfl) (by simp) ?_
                            refine AllReadyH.cons rfl (fun K hK => ?_) AllReadyH.nil
                            refine step_app elemI rfl (.tmp 106) (.tmp 107) rfl rfl ((World.ownsRow_made (base := w2.heap.size) (e := 3) (size := 1) w2.drew #[] 0 (Nat.le_refl _) (by decide) rfl).alloc (.cells #[.int .i64 x] 3 (0, 0))) rfl (by simp [intsV]) ((LUI.out.keep hq2).news) (intsV_one _) (by omega) ?_
                            intro g1 c1' X1 hown1 hgrow1 hat1
                            have hq3 : Below w2.heap.size w2 X1 := below_grown hq2 hgrow1 hq2.size (Nat.le_refl _)
                            simp only [Nat.zero_add, List.nil_append] at hown1
                            refine hK.out _ _ (SB.out _ hq3) (fun hHeld2 => ?_)
                            replace hHeld := hHeld2
                            clear hHeld2 hK K
                            try simp only [List.getElem_toArray, List.getElem_cons_succ, List.getElem_cons_zero, Act.put, List.setIfInBounds_toArray, List.set_cons_zero, List.set_cons_succ]
                            have hxb := heap_kept hgrow1 (heap_new_at (w2.drew.alloc (.cells #[] 3 (0, 0))) (w2.heap.size + 1) (.cells #[.int .i64 x] 3 (0, 0)) (by simp)) (by omega)
                            refine wpAnyH_ready (rs := [9]) (by kernel_rfl) (by simp) ?_
                            refine AllReadyH.cons rfl (fun K hK => ?_) AllReadyH.nil
                            refine step_push elemI rfl (.tmp 108) (.tmp 113) rfl rfl (show X1.ownsRow w2.heap.size 3 1 (.slice (some ⟨g1, 0, none⟩) (0 + u.length) c1') (0 + u.length) (intsV u) from by rw [Nat.zero_add]; exact hown1) rfl (hxb) rfl (by omega) ?_
                            intro g4 c4 w4 hown4 hgrow4 hat4
                            rw [Nat.zero_add] at hown4
                            have hb4 : Below w2.heap.size w2 w4 := below_grown hq3 hgrow4 hq3.size (ownsRow_parts hown1).1
                            refine hK.out _ _ (SB.out _ hb4) (fun hHeld2 => ?_)
                            replace hHeld := hHeld2
                            clear hHeld2 hK K
                            try simp only [List.getElem_toArray, List.getElem_cons_succ, List.getElem_cons_zero, Act.put, List.setIfInBounds_toArray, List.set_cons_zero, List.set_cons_succ]
                            refine wpAnyH_ready (rs := [10]) (by kernel_rfl) (by simp) ?_
                            refine AllReadyH.cons rfl (fun K hK => ?_) AllReadyH.nil
                            go_simp
                            have hq9 := hb4.alloc hb4.size (.cells #[.slice (some ⟨g4, 0, none⟩) (u.length + 1) c4] 33 (0, 0))
                            refine hK.out _ _ (SB.out _ hq9) (fun hHeld2 => ?_)
                            replace hHeld := hHeld2
                            clear hHeld2 hK K
                            try simp only [List.getElem_toArray, List.getElem_cons_succ, List.getElem_cons_zero, Act.put, List.setIfInBounds_toArray, List.set_cons_zero, List.set_cons_succ]
                            refine wpAnyH_ready (rs := [11]) (by kernel_rfl) (by simp) ?_
                            refine AllReadyH.cons rfl (fun K hK => ?_) AllReadyH.nil
                            refine step_push elemII rfl (.tmp 105) (.tmp 115) rfl rfl ((ownsRow_keep hLyY.nxt.own hb4).alloc (.cells #[.slice (some ⟨g4, 0, none⟩) (u.length + 1) c4] 33 (0, 0))) rfl (heap_alloc_new _ _) rfl (by omega) ?_
                            intro g6 c6 w6 hown6 hgrow6 hat6
                            refine hK.out _ _ (SN.out _ _ hq9 hgrow6) (fun hHeld2 => ?_)
                            replace hHeld := hHeld2
                            clear hHeld2 hK K
                            try simp only [List.getElem_toArray, List.getElem_cons_succ, List.getElem_cons_zero, Act.put, List.setIfInBounds_toArray, List.set_cons_zero, List.set_cons_succ]
                            refine wpAnyH_take (i := 12) (v := ?v76) rfl (by kernel_rfl) (by kernel_rfl) (by kernel_rfl) (fun _ _ _ h => h) (Or.inl ⟨by rfl, ?hy76⟩) (by assumption) ?rest76
                            case hy76 => intro X hX; (try dsimp only at hX); go_simp <;> with_reducible rfl
                            try simp only [List.getElem_toArray, List.getElem_cons_succ, List.getElem_cons_zero, Act.put, List.setIfInBounds_toArray, List.set_cons_zero, List.set_cons_succ]
                            refine wpAnyH_done (by kernel_rfl) ?_ _
                            rotate_left
                            go_simp
                            have hq1 := hq0.alloc hq0.size (.cells #[.int .i64 x] 3 (0, 0))
                            refine hK.out _ _ (SB.out _ hq1) (fun hHeld2 => ?_)
                            replace hHeld := hHeld2
                            clear hHeld2 hK K
                            try simp only [List.getElem_toArray, List.getElem_cons_succ, List.getElem_cons_zero, Act.put, List.setIfInBounds_toArray, List.set_cons_zero, List.set_cons_succ]
                            refine wpAnyH_ready (rs := [1]) (by kernel_rfl) (by simp) ?_
                            refine AllReadyH.cons rfl (fun K hK => ?_) AllReadyH.nil
                            go_simp
                            have hq2 := hq1.alloc hq1.size (.cells #[] 3 (0, 0))
                            refine hK.out _ _ (SB.out _ hq2) (fun hHeld2 => ?_)
                            replace hHeld := hHeld2
                            clear hHeld2 hK K
                            try simp only [List.getElem_toArray, List.getElem_cons_succ, List.getElem_cons_zero, Act.put, List.setIfInBounds_toArray, List.set_cons_zero, List.set_cons_succ]
                            have hm9 := made_at (w2.drew.alloc (.cells #[.int .i64 x] 3 (0, 0))) (w2.heap.size + 1) w2.heap.size (by simp) (by simp)
                            refine wpAnyH_ready (rs := [3]) (by kernel_rfl) (by simp) ?_
                            refine AllReadyH.cons rfl (fun K hK => ?_) AllReadyH.nil
                            refine step_app elemI rfl (.tmp 106) (.tmp 107) rfl rfl (hm9) rfl (by simp [intsV]) ((LUI.out.keep hq2).news) (intsV_one _) (by omega) ?_
                            intro g1 c1' X1 hown1 hgrow1 hat1
                            have hq3 : Below w2.heap.size w2 X1 := below_grown hq2 hgrow1 hq2.size (Nat.le_succ _)
                            simp only [Nat.zero_add, List.nil_append] at hown1
                            refine hK.out _ _ (SB.out _ hq3) (fun hHeld2 => ?_)
                            replace hHeld := hHeld2
                            clear hHeld2 hK K
                            try simp only [List.getElem_toArray, List.getElem_cons_succ, List.getElem_cons_zero, Act.put, List.setIfInBounds_toArray, List.set_cons_zero, List.set_cons_succ]
                            have hxb := heap_kept hgrow1 (heap_old_at (w2.drew.alloc (.cells #[.int .i64 x] 3 (0, 0))) w2.heap.size (.cells #[] 3 (0, 0)) (heap_new_at w2.drew w2.heap.size (.cells #[.int .i64 x] 3 (0, 0)) rfl)) (by omega)
                            refine wpAnyH_ready (rs := [9]) (by kernel_rfl) (by simp) ?_
                            refine AllReadyH.cons rfl (fun K hK => ?_) AllReadyH.nil
                            refine step_push elemI rfl (.tmp 108) (.tmp 113) rfl rfl (show X1.ownsRow w2.heap.size 3 1 (.slice (some ⟨g1, 0, none⟩) (0 + u.length) c1') (0 + u.length) (intsV u) from by rw [Nat.zero_add]; exact hown1) rfl (hxb) rfl (by omega) ?_
                            intro g4 c4 w4 hown4 hgrow4 hat4
                            rw [Nat.zero_add] at hown4
                            have hb4 : Below w2.heap.size w2 w4 := below_grown hq3 hgrow4 hq3.size (ownsRow_parts hown1).1
                            refine hK.out _ _ (SB.out _ hb4) (fun hHeld2 => ?_)
                            replace hHeld := hHeld2
                            clear hHeld2 hK K
                            try simp only [List.getElem_toArray, List.getElem_cons_succ, List.getElem_cons_zero, Act.put, List.setIfInBounds_toArray, List.set_cons_zero, List.set_cons_succ]
                            refine wpAnyH_ready (rs := [10]) (by kernel_rfl) (by simp) ?_
                            refine AllReadyH.cons rfl (fun K hK => ?_) AllReadyH.nil
                            go_simp
                            have hq9 := hb4.alloc hb4.size (.cells #[.slice (some ⟨g4, 0, none⟩) (u.length + 1) c4] 33 (0, 0))
                            refine hK.out _ _ (SB.out _ hq9) (fun hHeld2 => ?_)
                            replace hHeld := hHeld2
                            clear hHeld2 hK K
                            try simp only [List.getElem_toArray, List.getElem_cons_succ, List.getElem_cons_zero, Act.put, List.setIfInBounds_toArray, List.set_cons_zero, List.set_cons_succ]
                            refine wpAnyH_ready (rs := [11]) (by kernel_rfl) (by simp) ?_
                            refine AllReadyH.cons rfl (fun K hK => ?_) AllReadyH.nil
                            refine step_push elemII rfl (.tmp 105) (.tmp 115) rfl rfl ((ownsRow_keep hLyY.nxt.own hb4).alloc (.cells #[.slice (some ⟨g4, 0, none⟩) (u.length + 1) c4] 33 (0, 0))) rfl (heap_alloc_new _ _) rfl (by omega) ?_
                            intro g6 c6 w6 hown6 hgrow6 hat6
                            refine hK.out _ _ (SN.out _ _ hq9 hgrow6) (fun hHeld2 => ?_)
                            replace hHeld := hHeld2
                            clear hHeld2 hK K
                            try simp only [List.getElem_toArray, List.getElem_cons_succ, List.getElem_cons_zero, Act.put, List.setIfInBounds_toArray, List.set_cons_zero, List.set_cons_succ]
                            refine wpAnyH_take (i := 12) (v := ?v77) rfl (by kernel_rfl) (by kernel_rfl) (by kernel_rfl) (fun _ _ _ h => h) (Or.inl ⟨by rfl, ?hy77⟩) (by assumption) ?rest77
                            case hy77 => intro X hX; (try dsimp only at hX); go_simp <;> with_reducible rfl
                            try simp only [List.getElem_toArray, List.getElem_cons_succ, List.getElem_cons_zero, Act.put, List.setIfInBounds_toArray, List.set_cons_zero, List.set_cons_succ]
                            refine wpAnyH_done (by kernel_rfl) ?_ _
                            all_goals
                              have o4 : OwnI w4 w2.heap.size (.slice (some ⟨g4, 0, none⟩) (u.length + 1) c4) (u ++ [x]) := ⟨g4, c4, by simp, by rw [List.length_append, List.length_singleton, intsV_append]; exact hown4, HWX.out⟩
                              have hLy6 := hLyY.pushNxt hb4 o4 hbelY.size hown6 hgrow6 hat6
                              have hbel6 := below_push (hbelY.trans (hb4.mono hbelY.size)) hgrow6 (ownsRow_parts hLyY.nxt.own).1 (Nat.le_refl _)
                              have hlq6 : nxt3.length + 1 = (nxt3 ++ [u ++ [x]]).length := by simp
                              have HLQ6 := Lib.hid hlq6
                              clear hown6 hgrow6 hat6 hown4 hlq6
                              go_wp2
                              go_roundw
                              case rel => exact ⟨j + 1, g6, c6, _, _, nxt3 ++ [u ++ [x]], by omega, by go_num, by rw [← HLQ6.out], hst6, by rw [← HLQ6.out]; omega, hLy6, hbel6⟩
                              case measure => simp [intOf]; omega
                    · obtain rfl : j = L.length := by omega
                      have hst4 : Kept ((outL2 ++ [u]) = outL ++ (layL.take (i + 1)).filter (backs l v) ∧ nxt3 = (layL.take (i + 1)).flatMap (extR l v (lettersL R))) := ⟨hnextO.out, by rw [hst3.out, List.take_length, HLe.out]; exact hnextN.out⟩
                      have hlo4 : ((outL2 ++ [u])).length ≤ outL.length + (i + 1) := by first | omega | (rw [← HLQ.out]; omega)
                      clear hst3
                      go_wp2
                      go_roundw
                      case rel => exact ⟨i + 1, g9, c9, gn3, cn3, (vo2 ++ [.slice (some ⟨g8, 0, none⟩) u.length c8]), vn3, (fun k => Fo2 k ∨ (w7.heap.size ≤ k ∧ k < w9.heap.size)), Fn3, (outL2 ++ [u]), nxt3, by omega, by go_num, by first | rfl | (rw [← HLQ.out]), rfl, hst4, hlo4, by omega, hLy3, hbel3⟩
                      case measure => simp [intOf]; omega
                · have hnextO : Kept (outL2 = outL ++ (layL.take (i + 1)).filter (backs l v)) := ⟨by
                    have hb2 : backs l v u = false := decide_eq_false (by rw [← hev]; exact hb)
                    rw [hst2.out.1, take_get hil, List.filter_append, ← hu]; simp [hb2]⟩
                  have tv : (ev == v) = false := beq_eq_false_iff_ne.2 hb
                  have HEV := Lib.hid hev
                  clear hb hev hu
                  go_wp2_with fail
                  refine (HWK1.out).mono ?_
                  rintro e w7 ⟨rfl, hb7⟩
                  have hLy7 := hLy.keep hb7
                  have hbel7 := hbel.trans (hb7.mono hbel.size)
                  clear c1 q1 q2 q3 hLy hbel hst2 hb7 hgiY
                  go_wp2
                  go_loopw [11, 16] (fun nx j_ wr => ∃ (j gn3 cn3 : Nat) (vn3 : List Value) (Fn3 : Nat → Prop) (nxt3 : List (List Int)), j ≤ L.length ∧ j_ = .int .i64 j ∧ nx = .slice (some ⟨gn3, 0, none⟩) nxt3.length cn3 ∧ Kept (nxt3 = nxt ++ extR l v (L.take j) u) ∧ nxt3.length ≤ nxt.length + j ∧ Lay2 wr Wb.heap.size gL cL L Fo2 go2 co2 vo2 outL2 Fl gl cl vl layL Fn3 gn3 cn3 vn3 nxt3 ∧ Below Wb.heap.size Wb wr)
                    (fun _ j_ _ => L.length - (intOf j_).toNat)
                  case atStart => exact ⟨0, gn, cn, vn, Fn, nxt, by omega, rfl, rfl, ⟨by simp [extR_nil]⟩, by omega, hLy7, hbel7⟩
                  case round =>
                    clear hLy7 hbel7
                    obtain ⟨j, gn3, cn3, vn3, Fn3, nxt3, hj, rfl, rfl, hst3, hnl3, hLy3, hbel3⟩ := hrel
                    rename World => W3
                    by_cases hjl : j < L.length
                    · have tj : (j : Int) < (L.length : Int) := by omega
                      have c2 := hLy3.lets.cellAt j (by omega)
                      rw [intsV, List.getElem?_map, List.getElem?_eq_getElem hjl] at c2
                      simp only [Option.map_some] at c2
                      obtain ⟨gi', ci', hui3, _, hrow3, hFi3, _⟩ := hLy3.lay.at_ hil
                      rw [HU.out] at hui3 hrow3
                      rw [HUI.out] at hui3
                      simp only [Option.some.injEq, Value.slice.injEq, Addr.mk.injEq, and_true, true_and] at hui3
                      obtain ⟨rfl, rfl⟩ := hui3
                      have hxI := hIL _ (List.getElem_mem hjl)
                      have hyes := fun h1 h2 => HYES.out (L.take j) (L[j]'hjl) h1 h2
                      have hno := fun h1 => HNO.out (L.take j) (L[j]'hjl) h1
                      rw [← take_get hjl] at hyes hno
                      obtain ⟨x, hx⟩ : ∃ x, x = L[j] := ⟨_, rfl⟩
                      rw [← hx] at c2 hxI hyes hno
                      have hgLY : gL < W3.heap.size := (ownsRow_parts hLy3.lets).2.1
                      have hgiY : gi < W3.heap.size := hLy3.lay.lt gi hFi3
                      have hn1 := fun W' (hb : Below W3.heap.size W3 W') => HNX.out ev x hxI W' (hB0.trans ((hbel3.trans (hb.mono hbel3.size)).mono hB0.size))
                      obtain ⟨nv, hnv⟩ : ∃ z, z = nextV l ev x := ⟨_, rfl⟩
                      rw [← hnv] at hn1
                      have HNV := Lib.hid hnv.symm
                      have HYS := Lib.hid hyes
                      have HN := Lib.hid hno
                      have HN1 := Lib.hid hn1
                      have C1 := Lib.hid c2
                      have HROW3 := Lib.hid hrow3
                      have hwx : ∀ z ∈ u ++ [x], I64 z := fun z hz => by
                        rcases List.mem_append.1 hz with h | h
                        · exact huI z h
                        · simp at h; rw [h]; exact hxI
                      have HWX := Lib.hid hwx
                      have hnl9 : nxt3.length ≤ 1048576 := by omega
                      clear hyes hno hx hnv hn1 c2 hwx
                      by_cases hu0 : u.length = 0
                      · have tu : ((u.length : Int) == 0) = true := beq_iff_eq.2 (by omega)
                        have hue : u = [] := List.eq_nil_of_length_eq_zero hu0
                        have HOK : Hid (okNext u x = true) := Lib.hid (by rw [hue]; rfl)
                        clear hu0 hue hrow3
                        go_wp2
                        refine wp_region_held_drew (S := fun X => Below W3.heap.size W3 X) (by kernel_rfl) ((Below.refl W3.heap.size W3).drew) (fun hHeld => ?_)
                        refine wpAnyH_take (i := 0) (v := ?v78) rfl (by kernel_rfl) (by kernel_rfl) (by kernel_rfl) (fun _ _ _ h => h) (Or.inl ⟨by rfl, ?hy78⟩) (by assumption) ?rest78
                        case hy78 => intro X hX; (try dsimp only at hX); go_simp <;> with_reducible rfl
                        try simp only [List.getElem_toArray, List.getElem_cons_zero, Act.put, List.setIfInBounds_toArray, List.set_cons_zero, List.set_cons_succ]
                        refine wpAnyH_take (i := 1) (v := ?v79) rfl (by kernel_rfl) (by kernel_rfl) (by kernel_rfl) (fun _ _ _ h => h) (Or.inl ⟨by rfl, ?hy79⟩) (by assumption) ?rest79
                        case hy79 => intro X hX; (try dsimp only at hX); go_simp <;> with_reducible rfl
                        try simp only [List.getElem_toArray, List.getElem_cons_succ, List.getElem_cons_zero, Act.put, List.setIfInBounds_toArray, List.set_cons_zero, List.set_cons_succ]
                        refine wpAnyH_take (i := 2) (v := ?v80) rfl (by kernel_rfl) (by kernel_rfl) (by kernel_rfl) (fun _ _ _ h => h) (Or.inl ⟨by rfl, ?hy80⟩) (by assumption) ?rest80
                        case hy80 => intro X hX; (try dsimp only at hX); go_simp <;> with_reducible rfl
                        try simp only [List.getElem_toArray, List.getElem_cons_succ, List.getElem_cons_zero, Act.put, List.setIfInBounds_toArray, List.set_cons_zero, List.set_cons_succ]
                        refine wpAnyH_take (i := 3) (v := ?v81) rfl (by kernel_rfl) (by kernel_rfl) (by kernel_rfl) (fun _ _ _ h => h) (Or.inl ⟨by rfl, ?hy81⟩) (by assumption) ?rest81
                        case hy81 => intro X hX; (try dsimp only at hX); go_simp <;> with_reducible rfl
                        try simp only [List.getElem_toArray, List.getElem_cons_succ, List.getElem_cons_zero, Act.put, List.setIfInBounds_toArray, List.set_cons_zero, List.set_cons_succ]
                        refine wpAnyH_take (i := 4) (v := undef) rfl (by kernel_rfl) (by kernel_rfl) (by kernel_rfl) (fun _ _ _ h => h) (Or.inr ⟨by rfl, rfl⟩) (by assumption) ?_
                        try simp only [List.getElem_toArray, List.getElem_cons_succ, List.getElem_cons_zero, Act.put, List.setIfInBounds_toArray, List.set_cons_zero, List.set_cons_succ]
                        refine wpAnyH_take (i := 5) (v := undef) rfl (by kernel_rfl) (by kernel_rfl) (by kernel_rfl) (fun _ _ _ h => h) (Or.inr ⟨by rfl, rfl⟩) (by assumption) ?_
                        try simp only [List.getElem_toArray, List.getElem_cons_succ, List.getElem_cons_zero, Act.put, List.setIfInBounds_toArray, List.set_cons_zero, List.set_cons_succ]
                        refine wpAnyH_take (i := 6) (v := undef) rfl (by kernel_rfl) (by kernel_rfl) (by kernel_rfl) (fun _ _ _ h => h) (Or.inr ⟨by rfl, rfl⟩) (by assumption) ?_
                        try simp only [List.getElem_toArray, List.getElem_cons_succ, List.getElem_cons_zero, Act.put, List.setIfInBounds_toArray, List.set_cons_zero, List.set_cons_succ]
                        refine wpAnyH_take (i := 7) (v := undef) rfl (by kernel_rfl) (by kernel_rfl) (by kernel_rfl) (fun _ _ _ h => h) (Or.inr ⟨by rfl, rfl⟩) (by assumption) ?_
                        try simp only [List.getElem_toArray, List.getElem_cons_succ, List.getElem_cons_zero, Act.put, List.setIfInBounds_toArray, List.set_cons_zero, List.set_cons_succ]
                        refine wpAnyH_take (i := 8) (v := undef) rfl (by kernel_rfl) (by kernel_rfl) (by kernel_rfl) (fun _ _ _ h => h) (Or.inr ⟨by rfl, rfl⟩) (by assumption) ?_
                        try simp only [List.getElem_toArray, List.getElem_cons_succ, List.getElem_cons_zero, Act.put, List.setIfInBounds_toArray, List.set_cons_zero, List.set_cons_succ]
                        refine wpAnyH_take (i := 9) (v := undef) rfl (by kernel_rfl) (by kernel_rfl) (by kernel_rfl) (fun _ _ _ h => h) (Or.inr ⟨by rfl, rfl⟩) (by assumption) ?_
                        try simp only [List.getElem_toArray, List.getElem_cons_succ, List.getElem_cons_zero, Act.put, List.setIfInBounds_toArray, List.set_cons_zero, List.set_cons_succ]
                        refine wpAnyH_take (i := 10) (v := undef) rfl (by kernel_rfl) (by kernel_rfl) (by kernel_rfl) (fun _ _ _ h => h) (Or.inr ⟨by rfl, rfl⟩) (by assumption) ?_
                        try simp only [List.getElem_toArray, List.getElem_cons_succ, List.getElem_cons_zero, Act.put, List.setIfInBounds_toArray, List.set_cons_zero, List.set_cons_succ]
                        refine wpAnyH_take (i := 11) (v := undef) rfl (by kernel_rfl) (by kernel_rfl) (by kernel_rfl) (fun _ _ _ h => h) (Or.inr ⟨by rfl, rfl⟩) (by assumption) ?_
                        try simp only [List.getElem_toArray, List.getElem_cons_succ, List.getElem_cons_zero, Act.put, List.setIfInBounds_toArray, List.set_cons_zero, List.set_cons_succ]
                        refine wpAnyH_take (i := 12) (v := undef) rfl (by kernel_rfl) (by kernel_rfl) (by kernel_rfl) (fun _ _ _ h => h) (Or.inr ⟨by rfl, rfl⟩) (by assumption) ?_
                        try simp only [List.getElem_toArray, List.getElem_cons_succ, List.getElem_cons_zero, Act.put, List.setIfInBounds_toArray, List.set_cons_zero, List.set_cons_succ]
                        refine wpAnyH_take (i := 13) (v := undef) rfl (by kernel_rfl) (by kernel_rfl) (by kernel_rfl) (fun _ _ _ h => h) (Or.inr ⟨by rfl, rfl⟩) (by assumption) ?_
                        try simp only [List.getElem_toArray, List.getElem_cons_succ, List.getElem_cons_zero, Act.put, List.setIfInBounds_toArray, List.set_cons_zero, List.set_cons_succ]
                        refine wpAnyH_take (i := 14) (v := undef) rfl (by kernel_rfl) (by kernel_rfl) (by kernel_rfl) (fun _ _ _ h => h) (Or.inr ⟨by rfl, rfl⟩) (by assumption) ?_
                        try simp only [List.getElem_toArray, List.getElem_cons_succ, List.getElem_cons_zero, Act.put, List.setIfInBounds_toArray, List.set_cons_zero, List.set_cons_succ]
                        refine wpAnyH_take (i := 15) (v := undef) rfl (by kernel_rfl) (by kernel_rfl) (by kernel_rfl) (fun _ _ _ h => h) (Or.inr ⟨by rfl, rfl⟩) (by assumption) ?_
                        try simp only [List.getElem_toArray, List.getElem_cons_succ, List.getElem_cons_zero, Act.put, List.setIfInBounds_toArray, List.set_cons_zero, List.set_cons_succ]
                        refine wpAnyH_take (i := 16) (v := ?v82) rfl (by kernel_rfl) (by kernel_rfl) (by kernel_rfl) (fun _ _ _ h => h) (Or.inl ⟨by rfl, ?hy82⟩) (by assumption) ?rest82
                        case hy82 => intro X hX; (try dsimp only at hX); go_simp <;> with_reducible rfl
                        try simp only [List.getElem_toArray, List.getElem_cons_succ, List.getElem_cons_zero, Act.put, List.setIfInBounds_toArray, List.set_cons_zero, List.set_cons_succ]
                        refine wpAnyH_take (i := 17) (v := ?v83) rfl (by kernel_rfl) (by kernel_rfl) (by kernel_rfl) (fun _ _ _ h => h) (Or.inl ⟨by rfl, ?hy83⟩) (by assumption) ?rest83
                        case hy83 => intro X hX; (try dsimp only at hX); go_simp <;> with_reducible rfl
                        try simp only [List.getElem_toArray, List.getElem_cons_succ, List.getElem_cons_zero, Act.put, List.setIfInBounds_toArray, List.set_cons_zero, List.set_cons_succ]
                        refine wpAnyH_take (i := 18) (v := ?v84) rfl (by kernel_rfl) (by kernel_rfl) (by kernel_rfl) (fun _ _ _ h => h) (Or.inl ⟨by rfl, ?hy84⟩) (by assumption) ?rest84
                        case hy84 => intro X hX; (try dsimp only at hX); obtain ⟨q1, q2, q3⟩ := (BX.out.keep (hbel3.trans (hX.mono hbel3.size))).cells; have z1 := (hX.cell (p := ⟨gL, j, none⟩) hgLY).trans C1.out; go_simp <;> with_reducible rfl
                        try simp only [List.getElem_toArray, List.getElem_cons_succ, List.getElem_cons_zero, Act.put, List.setIfInBounds_toArray, List.set_cons_zero, List.set_cons_succ]
                        refine wpAnyH_take (i := 19) (v := ?v85) rfl (by kernel_rfl) (by kernel_rfl) (by kernel_rfl) (fun _ _ _ h => h) (Or.inl ⟨by rfl, ?hy85⟩) (by assumption) ?rest85
                        case hy85 => intro X hX; (try dsimp only at hX); go_simp <;> with_reducible rfl
                        try simp only [List.getElem_toArray, List.getElem_cons_succ, List.getElem_cons_zero, Act.put, List.setIfInBounds_toArray, List.set_cons_zero, List.set_cons_succ]
                        refine wpAnyH_take (i := 20) (v := ?v86) rfl (by kernel_rfl) (by kernel_rfl) (by kernel_rfl) (fun _ _ _ h => h) (Or.inl ⟨by rfl, ?hy86⟩) (by assumption) ?rest86
                        case hy86 => intro X hX; (try dsimp only at hX); go_simp <;> with_reducible rfl
                        try simp only [List.getElem_toArray, List.getElem_cons_succ, List.getElem_cons_zero, Act.put, List.setIfInBounds_toArray, List.set_cons_zero, List.set_cons_succ]
                        refine wpAnyH_take (i := 21) (v := ?v87) rfl (by kernel_rfl) (by kernel_rfl) (by kernel_rfl) (fun _ _ _ h => h) (Or.inl ⟨by rfl, ?hy87⟩) (by assumption) ?rest87
                        case hy87 => intro X hX; (try dsimp only at hX); go_simp <;> with_reducible rfl
                        try simp only [List.getElem_toArray, List.getElem_cons_succ, List.getElem_cons_zero, Act.put, List.setIfInBounds_toArray, List.set_cons_zero, List.set_cons_succ]
                        refine wpAnyH_take (i := 22) (v := ?v88) rfl (by kernel_rfl) (by kernel_rfl) (by kernel_rfl) (fun _ _ _ h => h) (Or.inl ⟨by rfl, ?hy88⟩) (by assumption) ?rest88
                        case hy88 => intro X hX; (try dsimp only at hX); obtain ⟨q1, q2, q3⟩ := (BX.out.keep (hbel3.trans (hX.mono hbel3.size))).cells; have z1 := (hX.cell (p := ⟨gL, j, none⟩) hgLY).trans C1.out; go_simp <;> with_reducible rfl
                        try simp only [List.getElem_toArray, List.getElem_cons_succ, List.getElem_cons_zero, Act.put, List.setIfInBounds_toArray, List.set_cons_zero, List.set_cons_succ]
                        refine wpAnyH_take (i := 23) (v := ?v89) rfl (by kernel_rfl) (by kernel_rfl) (by kernel_rfl) (fun _ _ _ h => h) (Or.inl ⟨by rfl, ?hy89⟩) (by assumption) ?rest89
                        case hy89 => intro X hX; (try dsimp only at hX); obtain ⟨q1, q2, q3⟩ := (BX.out.keep (hbel3.trans (hX.mono hbel3.size))).cells; have z1 := (hX.cell (p := ⟨gL, j, none⟩) hgLY).trans C1.out; go_simp <;> with_reducible rfl
                        try simp only [List.getElem_toArray, List.getElem_cons_succ, List.getElem_cons_zero, Act.put, List.setIfInBounds_toArray, List.set_cons_zero, List.set_cons_succ]
                        refine wpAnyH_ready (rs := [24]) (by kernel_rfl) (by simp) ?_
                        refine AllReadyH.cons rfl (fun K hK => ?_) AllReadyH.nil
                        go_simp
                        go_at_call 11
                        refine (HN1.out _ hHeld).mono ?_
                        rintro e w2 ⟨rfl, hb2⟩
                        (try go_simp)
                        refine hK.out _ _ (hHeld.trans (hb2.mono hHeld.size)) (fun hHeld2 => ?_)
                        replace hHeld := hHeld2
                        clear hHeld2
                        clear hK K
                        try simp only [List.getElem_toArray, List.getElem_cons_succ, List.getElem_cons_zero, Act.put, List.setIfInBounds_toArray, List.set_cons_zero, List.set_cons_succ]
                        refine wpAnyH_take (i := 25) (v := ?v90) rfl (by kernel_rfl) (by kernel_rfl) (by kernel_rfl) (fun _ _ _ h => h) (Or.inl ⟨by rfl, ?hy90⟩) (by assumption) ?rest90
                        case hy90 => intro X hX; (try dsimp only at hX); go_simp <;> with_reducible rfl
                        try simp only [List.getElem_toArray, List.getElem_cons_succ, List.getElem_cons_zero, Act.put, List.setIfInBounds_toArray, List.set_cons_zero, List.set_cons_succ]
                        refine wpAnyH_take (i := 26) (v := ?v91) rfl (by kernel_rfl) (by kernel_rfl) (by kernel_rfl) (fun _ _ _ h => h) (Or.inl ⟨by rfl, ?hy91⟩) (by assumption) ?rest91
                        case hy91 => intro X hX; (try dsimp only at hX); go_simp <;> with_reducible rfl
                        try simp only [List.getElem_toArray, List.getElem_cons_succ, List.getElem_cons_zero, Act.put, List.setIfInBounds_toArray, List.set_cons_zero, List.set_cons_succ]
                        refine wpAnyH_done (by kernel_rfl) ?_ _
                        by_cases hneg : nv < 0
                        · have hst6 : Kept (nxt3 = nxt ++ extR l v (L.take (j + 1)) u) := ⟨by rw [HN.out (.inr (by rw [HNV.out]; exact hneg)), hst3.out]⟩
                          have tn : ¬ 0 ≤ nv := by omega
                          go_wp2
                          go_roundw
                          case rel => exact ⟨j + 1, gn3, cn3, vn3, Fn3, nxt3, by omega, by go_num, rfl, hst6, by omega, hLy3.keep hHeld, hbel3.trans (hHeld.mono hbel3.size)⟩
                          case measure => simp [intOf]; omega
                        · have hst6 : Kept (nxt3 ++ [u ++ [x]] = nxt ++ extR l v (L.take (j + 1)) u) := ⟨by rw [HYS.out HOK.out (by rw [HNV.out]; omega), hst3.out, List.append_assoc]⟩
                          have tn : 0 ≤ nv := by omega
                          have hLyY := hLy3.keep hHeld
                          have hbelY := hbel3.trans (hHeld.mono hbel3.size)
                          have LUI := Lib.hid (HROW3.out.keep hHeld).ints
                          have hgLY2 : gL < w2.heap.size := (ownsRow_parts hLyY.lets).2.1
                          have C1Y := Lib.hid ((hHeld.cell (p := ⟨gL, j, none⟩) hgLY).trans C1.out)
                          have hgne : gL ≠ gn3 := fun e => hLyY.ln2 (e ▸ hLyY.nxt.spine)
                          clear hLy3 hbel3 hHeld hneg hb2
                          go_wp2
                          obtain ⟨S, hS⟩ : ∃ S : World → Prop, S = fun X => X.cell? ⟨gL, j, none⟩ = some (.int .i64 x) := ⟨_, rfl⟩
                          have sb : ∀ X, Below w2.heap.size w2 X → S X := fun X hX => by rw [hS]; exact (hX.cell (p := ⟨gL, j, none⟩) hgLY2).trans C1Y.out
                          have sl : ∀ X, S X → X.cell? ⟨gL, j, none⟩ = some (.int .i64 x) := fun X hX => by rw [hS] at hX; exact hX
                          have sn : ∀ X X', Below w2.heap.size w2 X → X.grownBy X' (some gn3) → S X' := fun X X' hX hg => by
                            have h1 := sl X (sb X hX)
                            rw [hS]
                            exact (World.cell?_of_block (a := ⟨gL, j, none⟩) (hg.block gL (Nat.lt_of_lt_of_le hgLY2 hX.size) (by simp only [ne_eq, Option.some.injEq]; exact hgne))).trans h1
                          have SB := Lib.hid sb
                          have SL := Lib.hid sl
                          have SN := Lib.hid sn
                          clear sb sl sn hS
                          have hq0 : Below w2.heap.size w2 w2.drew := (Below.refl w2.heap.size w2).drew
                          refine wp_region_held_drew (S := S) (by kernel_rfl) (SB.out _ hq0) (fun hHeld => ?_)
                          refine wpAnyH_take (i := 0) (v := ?v92) rfl (by kernel_rfl) (by kernel_rfl) (by kernel_rfl) (fun _ _ _ h => h) (Or.inl ⟨by rfl, ?hy92⟩) (by assumption) ?rest92
                          case hy92 => intro X hX; (try dsimp only at hX); go_simp <;> with_reducible rfl
                          try simp only [List.getElem_toArray, List.getElem_cons_zero, Act.put, List.setIfInBounds_toArray, List.set_cons_zero, List.set_cons_succ]
                          refine wpAnyH_take (i := 2) (v := ?v93) rfl (by kernel_rfl) (by kernel_rfl) (by kernel_rfl) (fun _ _ _ h => h) (Or.inl ⟨by rfl, ?hy93⟩) (by assumption) ?rest93
                          case hy93 => intro X hX; (try dsimp only at hX); go_simp <;> with_reducible rfl
                          try simp only [List.getElem_toArray, List.getElem_cons_succ, List.getElem_cons_zero, Act.put, List.setIfInBounds_toArray, List.set_cons_zero, List.set_cons_succ]
                          refine wpAnyH_take (i := 4) (v := ?v94) rfl (by kernel_rfl) (by kernel_rfl) (by kernel_rfl) (fun _ _ _ h => h) (Or.inl ⟨by rfl, ?hy94⟩) (by assumption) ?rest94
                          case hy94 => intro X hX; (try dsimp only at hX); go_simp <;> with_reducible rfl
                          try simp only [List.getElem_toArray, List.getElem_cons_succ, List.getElem_cons_zero, Act.put, List.setIfInBounds_toArray, List.set_cons_zero, List.set_cons_succ]
                          refine wpAnyH_take (i := 5) (v := ?v95) rfl (by kernel_rfl) (by kernel_rfl) (by kernel_rfl) (fun _ _ _ h => h) (Or.inl ⟨by rfl, ?hy95⟩) (by assumption) ?rest95
                          case hy95 => intro X hX; (try dsimp only at hX); go_simp <;> with_reducible rfl
                          try simp only [List.getElem_toArray, List.getElem_cons_succ, List.getElem_cons_zero, Act.put, List.setIfInBounds_toArray, List.set_cons_zero, List.set_cons_succ]
                          refine wpAnyH_take (i := 6) (v := ?v96) rfl (by kernel_rfl) (by kernel_rfl) (by kernel_rfl) (fun _ _ _ h => h) (Or.inl ⟨by rfl, ?hy96⟩) (by assumption) ?rest96
                          case hy96 => intro X hX; (try dsimp only at hX); have z1 := SL.out X hX; go_simp <;> with_reducible rfl
                          try simp only [List.getElem_toArray, List.getElem_cons_succ, List.getElem_cons_zero, Act.put, List.setIfInBounds_toArray, List.set_cons_zero, List.set_cons_succ]
                          refine wpAnyH_take (i := 7) (v := ?v97) rfl (by kernel_rfl) (by kernel_rfl) (by kernel_rfl) (fun _ _ _ h => h) (Or.inl ⟨by rfl, ?hy97⟩) (by assumption) ?rest97
                          case hy97 => intro X hX; (try dsimp only at hX); have z1 := SL.out X hX; go_simp <;> with_reducible rfl
                          try simp only [List.getElem_toArray, List.getElem_cons_succ, List.getElem_cons_zero, Act.put, List.setIfInBounds_toArray, List.set_cons_zero, List.set_cons_succ]
                          refine wpAnyH_ready (rs := [1, 8]) (by kernel_rfl) (by simp) ?_
                          refine AllReadyH.cons rfl (fun K hK => ?_) (AllReadyH.cons rfl (fun K hK => ?_) AllReadyH.nil)
                          go_simp
                          have hq1 := hq0.alloc hq0.size (.cells #[] 3 (0, 0))
                          refine hK.out _ _ (SB.out _ hq1) (fun hHeld2 => ?_)
                          replace hHeld := hHeld2
                          clear hHeld2 hK K
                          try simp only [List.getElem_toArray, List.getElem_cons_succ, List.getElem_cons_zero, Act.put, List.setIfInBounds_toArray, List.set_cons_zero, List.set_cons_succ]
                          refine wpAnyH_ready (rs := [3, 8]) (by kernel_rfl) (by simp) ?_
                          refine AllReadyH.cons rfl (fun K hK => ?_) (AllReadyH.cons rfl (fun K hK => ?_) AllReadyH.nil)
                          refine step_app elemI rfl (.tmp 106) (.tmp 107) rfl rfl (World.ownsRow_made (base := w2.heap.size) (e := 3) (size := 1) w2.drew #[] 0 (Nat.le_refl _) (by decide) rfl) rfl (by simp [intsV]) ((LUI.out.keep hq1).news) (intsV_one _) (by omega) ?_
                          intro g1 c1' X1 hown1 hgrow1 hat1
                          have hq2 : Below w2.heap.size w2 X1 := below_grown hq1 hgrow1 hq1.size (Nat.le_refl _)
                          simp only [Nat.zero_add, List.nil_append] at hown1
                          refine hK.out _ _ (SB.out _ hq2) (fun hHeld2 => ?_)
                          replace hHeld := hHeld2
                          clear hHeld2 hK K
                          try simp only [List.getElem_toArray, List.getElem_cons_succ, List.getElem_cons_zero, Act.put, List.setIfInBounds_toArray, List.set_cons_zero, List.set_cons_succ]
                          refine wpAnyH_ready (rs := [8]) (by kernel_rfl) (by simp) ?_
                          refine AllReadyH.cons rfl (fun K hK => ?_) AllReadyH.nil
                          go_simp
                          have hq3 := hq2.alloc hq2.size (.cells #[.int .i64 x] 3 (0, 0))
                          refine hK.out _ _ (SB.out _ hq3) (fun hHeld2 => ?_)
                          replace hHeld := hHeld2
                          clear hHeld2 hK K
                          try simp only [List.getElem_toArray, List.getElem_cons_succ, List.getElem_cons_zero, Act.put, List.setIfInBounds_toArray, List.set_cons_zero, List.set_cons_succ]
                          refine wpAnyH_ready (rs := [9]) (by kernel_rfl) (by simp) ?_
                          refine AllReadyH.cons rfl (fun K hK => ?_) AllReadyH.nil
                          refine step_push elemI rfl (.tmp 108) (.tmp 113) rfl rfl (hown1.alloc (.cells #[.int .i64 x] 3 (0, 0))) rfl (heap_alloc_new _ _) rfl (by omega) ?_
                          intro g4 c4 w4 hown4 hgrow4 hat4
                          have hb4 : Below w2.heap.size w2 w4 := below_grown hq3 hgrow4 hq3.size (ownsRow_parts hown1).1
                          refine hK.out _ _ (SB.out _ hb4) (fun hHeld2 => ?_)
                          replace hHeld := hHeld2
                          clear hHeld2 hK K
                          try simp only [List.getElem_toArray, List.getElem_cons_succ, List.getElem_cons_zero, Act.put, List.setIfInBounds_toArray, List.set_cons_zero, List.set_cons_succ]
                          refine wpAnyH_ready (rs := [10]) (by kernel_rfl) (by simp) ?_
                          refine AllReadyH.cons rfl (fun K hK => ?_) AllReadyH.nil
                          go_simp
                          have hq9 := hb4.alloc hb4.size (.cells #[.slice (some ⟨g4, 0, none⟩) (u.length + 1) c4] 33 (0, 0))
                          refine hK.out _ _ (SB.out _ hq9) (fun hHeld2 => ?_)
                          replace hHeld := hHeld2
                          clear hHeld2 hK K
                          try simp only [List.getElem_toArray, List.getElem_cons_succ, List.getElem_cons_zero, Act.put, List.setIfInBounds_toArray, List.set_cons_zero, List.set_cons_succ]
                          refine wpAnyH_ready (rs := [11]) (by kernel_rfl) (by simp) ?_
                          refine AllReadyH.cons rfl (fun K hK => ?_) AllReadyH.nil
                          refine step_push elemII rfl (.tmp 105) (.tmp 115) rfl rfl ((ownsRow_keep hLyY.nxt.own hb4).alloc (.cells #[.slice (some ⟨g4, 0, none⟩) (u.length + 1) c4] 33 (0, 0))) rfl (heap_alloc_new _ _) rfl (by omega) ?_
                          intro g6 c6 w6 hown6 hgrow6 hat6
                          refine hK.out _ _ (SN.out _ _ hq9 hgrow6) (fun hHeld2 => ?_)
                          replace hHeld := hHeld2
                          clear hHeld2 hK K
                          try simp only [List.getElem_toArray, List.getElem_cons_succ, List.getElem_cons_zero, Act.put, List.setIfInBounds_toArray, List.set_cons_zero, List.set_cons_succ]
                          refine wpAnyH_take (i := 12) (v := ?v98) rfl (by kernel_rfl) (by kernel_rfl) (by kernel_rfl) (fun _ _ _ h => h) (Or.inl ⟨by rfl, ?hy98⟩) (by assumption) ?rest98
                          case hy98 => intro X hX; (try dsimp only at hX); go_simp <;> with_reducible rfl
                          try simp only [List.getElem_toArray, List.getElem_cons_succ, List.getElem_cons_zero, Act.put, List.setIfInBounds_toArray, List.set_cons_zero, List.set_cons_succ]
                          refine wpAnyH_done (by kernel_rfl) ?_ _
                          rotate_left
                          go_simp
                          have hq2 := hq1.alloc hq1.size (.cells #[.int .i64 x] 3 (0, 0))
                          refine hK.out _ _ (SB.out _ hq2) (fun hHeld2 => ?_)
                          replace hHeld := hHeld2
                          clear hHeld2 hK K
                          try simp only [List.getElem_toArray, List.getElem_cons_succ, List.getElem_cons_zero, Act.put, List.setIfInBounds_toArray, List.set_cons_zero, List.set_cons_succ]
                          refine wpAnyH_ready (rs := [3]) (by kernel_rfl) (by simp) ?_
                          refine AllReadyH.cons rfl (fun K hK => ?_) AllReadyH.nil
                          refine step_app elemI rfl (.tmp 106) (.tmp 107) rfl rfl ((World.ownsRow_made (base := w2.heap.size) (e := 3) (size := 1) w2.drew #[] 0 (Nat.le_refl _) (by decide) rfl).alloc (.cells #[.int .i64 x] 3 (0, 0))) rfl (by simp [intsV]) ((LUI.out.keep hq2).news) (intsV_one _) (by omega) ?_
                          intro g1 c1' X1 hown1 hgrow1 hat1
                          have hq3 : Below w2.heap.size w2 X1 := below_grown hq2 hgrow1 hq2.size (Nat.le_refl _)
                          simp only [Nat.zero_add, List.nil_append] at hown1
                          refine hK.out _ _ (SB.out _ hq3) (fun hHeld2 => ?_)
                          replace hHeld := hHeld2
                          clear hHeld2 hK K
                          try simp only [List.getElem_toArray, List.getElem_cons_succ, List.getElem_cons_zero, Act.put, List.setIfInBounds_toArray, List.set_cons_zero, List.set_cons_succ]
                          have hxb := heap_kept hgrow1 (heap_new_at (w2.drew.alloc (.cells #[] 3 (0, 0))) (w2.heap.size + 1) (.cells #[.int .i64 x] 3 (0, 0)) (by simp)) (by omega)
                          refine wpAnyH_ready (rs := [9]) (by kernel_rfl) (by simp) ?_
                          refine AllReadyH.cons rfl (fun K hK => ?_) AllReadyH.nil
                          refine step_push elemI rfl (.tmp 108) (.tmp 113) rfl rfl (show X1.ownsRow w2.heap.size 3 1 (.slice (some ⟨g1, 0, none⟩) (0 + u.length) c1') (0 + u.length) (intsV u) from by rw [Nat.zero_add]; exact hown1) rfl (hxb) rfl (by omega) ?_
                          intro g4 c4 w4 hown4 hgrow4 hat4
                          rw [Nat.zero_add] at hown4
                          have hb4 : Below w2.heap.size w2 w4 := below_grown hq3 hgrow4 hq3.size (ownsRow_parts hown1).1
                          refine hK.out _ _ (SB.out _ hb4) (fun hHeld2 => ?_)
                          replace hHeld := hHeld2
                          clear hHeld2 hK K
                          try simp only [List.getElem_toArray, List.getElem_cons_succ, List.getElem_cons_zero, Act.put, List.setIfInBounds_toArray, List.set_cons_zero, List.set_cons_succ]
                          refine wpAnyH_ready (rs := [10]) (by kernel_rfl) (by simp) ?_
                          refine AllReadyH.cons rfl (fun K hK => ?_) AllReadyH.nil
                          go_simp
                          have hq9 := hb4.alloc hb4.size (.cells #[.slice (some ⟨g4, 0, none⟩) (u.length + 1) c4] 33 (0, 0))
                          refine hK.out _ _ (SB.out _ hq9) (fun hHeld2 => ?_)
                          replace hHeld := hHeld2
                          clear hHeld2 hK K
                          try simp only [List.getElem_toArray, List.getElem_cons_succ, List.getElem_cons_zero, Act.put, List.setIfInBounds_toArray, List.set_cons_zero, List.set_cons_succ]
                          refine wpAnyH_ready (rs := [11]) (by kernel_rfl) (by simp) ?_
                          refine AllReadyH.cons rfl (fun K hK => ?_) AllReadyH.nil
                          refine step_push elemII rfl (.tmp 105) (.tmp 115) rfl rfl ((ownsRow_keep hLyY.nxt.own hb4).alloc (.cells #[.slice (some ⟨g4, 0, none⟩) (u.length + 1) c4] 33 (0, 0))) rfl (heap_alloc_new _ _) rfl (by omega) ?_
                          intro g6 c6 w6 hown6 hgrow6 hat6
                          refine hK.out _ _ (SN.out _ _ hq9 hgrow6) (fun hHeld2 => ?_)
                          replace hHeld := hHeld2
                          clear hHeld2 hK K
                          try simp only [List.getElem_toArray, List.getElem_cons_succ, List.getElem_cons_zero, Act.put, List.setIfInBounds_toArray, List.set_cons_zero, List.set_cons_succ]
                          refine wpAnyH_take (i := 12) (v := ?v99) rfl (by kernel_rfl) (by kernel_rfl) (by kernel_rfl) (fun _ _ _ h => h) (Or.inl ⟨by rfl, ?hy99⟩) (by assumption) ?rest99
                          case hy99 => intro X hX; (try dsimp only at hX); go_simp <;> with_reducible rfl
                          try simp only [List.getElem_toArray, List.getElem_cons_succ, List.getElem_cons_zero, Act.put, List.setIfInBounds_toArray, List.set_cons_zero, List.set_cons_succ]
                          refine wpAnyH_done (by kernel_rfl) ?_ _
                          rotate_left
                          go_simp
                          have hq1 := hq0.alloc hq0.size (.cells #[.int .i64 x] 3 (0, 0))
                          refine hK.out _ _ (SB.out _ hq1) (fun hHeld2 => ?_)
                          replace hHeld := hHeld2
                          clear hHeld2 hK K
                          try simp only [List.getElem_toArray, List.getElem_cons_succ, List.getElem_cons_zero, Act.put, List.setIfInBounds_toArray, List.set_cons_zero, List.set_cons_succ]
                          refine wpAnyH_ready (rs := [1]) (by kernel_rfl) (by simp) ?_
                          refine AllReadyH.cons rfl (fun K hK => ?_) AllReadyH.nil
                          go_simp
                          have hq2 := hq1.alloc hq1.size (.cells #[] 3 (0, 0))
                          refine hK.out _ _ (SB.out _ hq2) (fun hHeld2 => ?_)
                          replace hHeld := hHeld2
                          clear hHeld2 hK K
                          try simp only [List.getElem_toArray, List.getElem_cons_succ, List.getElem_cons_zero, Act.put, List.setIfInBounds_toArray, List.set_cons_zero, List.set_cons_succ]
                          have hm9 := made_at (w2.drew.alloc (.cells #[.int .i64 x] 3 (0, 0))) (w2.heap.size + 1) w2.heap.size (by simp) (by simp)
                          refine wpAnyH_ready (rs := [3]) (by kernel_rfl) (by simp) ?_
                          refine AllReadyH.cons rfl (fun K hK => ?_) AllReadyH.nil
                          refine step_app elemI rfl (.tmp 106) (.tmp 107) rfl rfl (hm9) rfl (by simp [intsV]) ((LUI.out.keep hq2).news) (intsV_one _) (by omega) ?_
                          intro g1 c1' X1 hown1 hgrow1 hat1
                          have hq3 : Below w2.heap.size w2 X1 := below_grown hq2 hgrow1 hq2.size (Nat.le_succ _)
                          simp only [Nat.zero_add, List.nil_append] at hown1
                          refine hK.out _ _ (SB.out _ hq3) (fun hHeld2 => ?_)
                          replace hHeld := hHeld2
                          clear hHeld2 hK K
                          try simp only [List.getElem_toArray, List.getElem_cons_succ, List.getElem_cons_zero, Act.put, List.setIfInBounds_toArray, List.set_cons_zero, List.set_cons_succ]
                          have hxb := heap_kept hgrow1 (heap_old_at (w2.drew.alloc (.cells #[.int .i64 x] 3 (0, 0))) w2.heap.size (.cells #[] 3 (0, 0)) (heap_new_at w2.drew w2.heap.size (.cells #[.int .i64 x] 3 (0, 0)) rfl)) (by omega)
                          refine wpAnyH_ready (rs := [9]) (by kernel_rfl) (by simp) ?_
                          refine AllReadyH.cons rfl (fun K hK => ?_) AllReadyH.nil
                          refine step_push elemI rfl (.tmp 108) (.tmp 113) rfl rfl (show X1.ownsRow w2.heap.size 3 1 (.slice (some ⟨g1, 0, none⟩) (0 + u.length) c1') (0 + u.length) (intsV u) from by rw [Nat.zero_add]; exact hown1) rfl (hxb) rfl (by omega) ?_
                          intro g4 c4 w4 hown4 hgrow4 hat4
                          rw [Nat.zero_add] at hown4
                          have hb4 : Below w2.heap.size w2 w4 := below_grown hq3 hgrow4 hq3.size (ownsRow_parts hown1).1
                          refine hK.out _ _ (SB.out _ hb4) (fun hHeld2 => ?_)
                          replace hHeld := hHeld2
                          clear hHeld2 hK K
                          try simp only [List.getElem_toArray, List.getElem_cons_succ, List.getElem_cons_zero, Act.put, List.setIfInBounds_toArray, List.set_cons_zero, List.set_cons_succ]
                          refine wpAnyH_ready (rs := [10]) (by kernel_rfl) (by simp) ?_
                          refine AllReadyH.cons rfl (fun K hK => ?_) AllReadyH.nil
                          go_simp
                          have hq9 := hb4.alloc hb4.size (.cells #[.slice (some ⟨g4, 0, none⟩) (u.length + 1) c4] 33 (0, 0))
                          refine hK.out _ _ (SB.out _ hq9) (fun hHeld2 => ?_)
                          replace hHeld := hHeld2
                          clear hHeld2 hK K
                          try simp only [List.getElem_toArray, List.getElem_cons_succ, List.getElem_cons_zero, Act.put, List.setIfInBounds_toArray, List.set_cons_zero, List.set_cons_succ]
                          refine wpAnyH_ready (rs := [11]) (by kernel_rfl) (by simp) ?_
                          refine AllReadyH.cons rfl (fun K hK => ?_) AllReadyH.nil
                          refine step_push elemII rfl (.tmp 105) (.tmp 115) rfl rfl ((ownsRow_keep hLyY.nxt.own hb4).alloc (.cells #[.slice (some ⟨g4, 0, none⟩) (u.length + 1) c4] 33 (0, 0))) rfl (heap_alloc_new _ _) rfl (by omega) ?_
                          intro g6 c6 w6 hown6 hgrow6 hat6
                          refine hK.out _ _ (SN.out _ _ hq9 hgrow6) (fun hHeld2 => ?_)
                          replace hHeld := hHeld2
                          clear hHeld2 hK K
                          try simp only [List.getElem_toArray, List.getElem_cons_succ, List.getElem_cons_zero, Act.put, List.setIfInBounds_toArray, List.set_cons_zero, List.set_cons_succ]
                          refine wpAnyH_take (i := 12) (v := ?v100) rfl (by kernel_rfl) (by kernel_rfl) (by kernel_rfl) (fun _ _ _ h => h) (Or.inl ⟨by rfl, ?hy100⟩) (by assumption) ?rest100
                          case hy100 => intro X hX; (try dsimp only at hX); go_simp <;> with_reducible rfl
                          try simp only [List.getElem_toArray, List.getElem_cons_succ, List.getElem_cons_zero, Act.put, List.setIfInBounds_toArray, List.set_cons_zero, List.set_cons_succ]
                          refine wpAnyH_done (by kernel_rfl) ?_ _
                          all_goals
                            have o4 : OwnI w4 w2.heap.size (.slice (some ⟨g4, 0, none⟩) (u.length + 1) c4) (u ++ [x]) := ⟨g4, c4, by simp, by rw [List.length_append, List.length_singleton, intsV_append]; exact hown4, HWX.out⟩
                            have hLy6 := hLyY.pushNxt hb4 o4 hbelY.size hown6 hgrow6 hat6
                            have hbel6 := below_push (hbelY.trans (hb4.mono hbelY.size)) hgrow6 (ownsRow_parts hLyY.nxt.own).1 (Nat.le_refl _)
                            have hlq6 : nxt3.length + 1 = (nxt3 ++ [u ++ [x]]).length := by simp
                            have HLQ6 := Lib.hid hlq6
                            clear hown6 hgrow6 hat6 hown4 hlq6
                            go_wp2
                            go_roundw
                            case rel => exact ⟨j + 1, g6, c6, _, _, nxt3 ++ [u ++ [x]], by omega, by go_num, by rw [← HLQ6.out], hst6, by rw [← HLQ6.out]; omega, hLy6, hbel6⟩
                            case measure => simp [intOf]; omega
                      · have hu1 : (0 : Int) < (u.length : Int) := by omega
                        have tu : ((u.length : Int) == 0) = false := beq_eq_false_iff_ne.2 (by omega)
                        obtain ⟨y, hy⟩ : ∃ y, y = u[u.length - 1]'(by omega) := ⟨_, rfl⟩
                        have hok := okNext_last (x := x) (w := u) (by omega)
                        have hgd : u.getD (u.length - 1) 0 = y := by rw [List.getD_eq_getElem?_getD, List.getElem?_eq_getElem (by omega), hy]; rfl
                        rw [hgd] at hok
                        obtain ⟨y0, y1, y2⟩ := HUL.out y (by rw [hy]; exact List.getElem_mem _)
                        have hwn : IntKind.i64.wrap (-y) = -y := IntWalk.i64_in _ (by omega)
                        have c3 : W3.cell? ⟨gi, u.length - 1, none⟩ = some (.int .i64 y) := by
                          obtain ⟨g', cap', hv', ho', _⟩ := hrow3
                          simp only [Value.slice.injEq, Option.some.injEq, Addr.mk.injEq, and_true, true_and] at hv'
                          obtain ⟨rfl, rfl⟩ := hv'
                          rw [ho'.cellAt _ (by omega), intsV, List.getElem?_map, List.getElem?_eq_getElem (by omega), hy]; rfl
                        rw [inv_small y0 y1 y2] at hok
                        obtain ⟨q, hq⟩ : ∃ q, q = u.length - 1 := ⟨_, rfl⟩
                        rw [← hq] at c3
                        have hwl : IntKind.i64.wrap ((u.length : Int) - 1) = (q : Int) := by rw [IntWalk.i64_in _ (by omega)]; omega
                        have hqu : (q : Int) < (u.length : Int) := by omega
                        have C3 := Lib.hid c3
                        clear hq
                        clear hy hgd c3 hrow3
                        by_cases hxy : x = -y
                        · have hst6 : Kept (nxt3 = nxt ++ extR l v (L.take (j + 1)) u) := ⟨by rw [HN.out (.inl (by rw [hok, decide_eq_true hxy]; rfl)), hst3.out]⟩
                          have txy : (x != -y) = false := by simpa using hxy
                          clear hok hxy
                          go_wp2
                          refine wp_region_held_drew (S := fun X => Below W3.heap.size W3 X) (by kernel_rfl) ((Below.refl W3.heap.size W3).drew) (fun hHeld => ?_)
                          refine wpAnyH_take (i := 0) (v := ?v101) rfl (by kernel_rfl) (by kernel_rfl) (by kernel_rfl) (fun _ _ _ h => h) (Or.inl ⟨by rfl, ?hy101⟩) (by assumption) ?rest101
                          case hy101 => intro X hX; (try dsimp only at hX); go_simp <;> with_reducible rfl
                          try simp only [List.getElem_toArray, List.getElem_cons_zero, Act.put, List.setIfInBounds_toArray, List.set_cons_zero, List.set_cons_succ]
                          refine wpAnyH_take (i := 1) (v := ?v102) rfl (by kernel_rfl) (by kernel_rfl) (by kernel_rfl) (fun _ _ _ h => h) (Or.inl ⟨by rfl, ?hy102⟩) (by assumption) ?rest102
                          case hy102 => intro X hX; (try dsimp only at hX); go_simp <;> with_reducible rfl
                          try simp only [List.getElem_toArray, List.getElem_cons_succ, List.getElem_cons_zero, Act.put, List.setIfInBounds_toArray, List.set_cons_zero, List.set_cons_succ]
                          refine wpAnyH_take (i := 2) (v := ?v103) rfl (by kernel_rfl) (by kernel_rfl) (by kernel_rfl) (fun _ _ _ h => h) (Or.inl ⟨by rfl, ?hy103⟩) (by assumption) ?rest103
                          case hy103 => intro X hX; (try dsimp only at hX); go_simp <;> with_reducible rfl
                          try simp only [List.getElem_toArray, List.getElem_cons_succ, List.getElem_cons_zero, Act.put, List.setIfInBounds_toArray, List.set_cons_zero, List.set_cons_succ]
                          refine wpAnyH_take (i := 3) (v := ?v104) rfl (by kernel_rfl) (by kernel_rfl) (by kernel_rfl) (fun _ _ _ h => h) (Or.inl ⟨by rfl, ?hy104⟩) (by assumption) ?rest104
                          case hy104 => intro X hX; (try dsimp only at hX); go_simp <;> with_reducible rfl
                          try simp only [List.getElem_toArray, List.getElem_cons_succ, List.getElem_cons_zero, Act.put, List.setIfInBounds_toArray, List.set_cons_zero, List.set_cons_succ]
                          refine wpAnyH_take (i := 4) (v := ?v105) rfl (by kernel_rfl) (by kernel_rfl) (by kernel_rfl) (fun _ _ _ h => h) (Or.inl ⟨by rfl, ?hy105⟩) (by assumption) ?rest105
                          case hy105 => intro X hX; (try dsimp only at hX); go_simp <;> with_reducible rfl
                          try simp only [List.getElem_toArray, List.getElem_cons_succ, List.getElem_cons_zero, Act.put, List.setIfInBounds_toArray, List.set_cons_zero, List.set_cons_succ]
                          refine wpAnyH_take (i := 5) (v := ?v106) rfl (by kernel_rfl) (by kernel_rfl) (by kernel_rfl) (fun _ _ _ h => h) (Or.inl ⟨by rfl, ?hy106⟩) (by assumption) ?rest106
                          case hy106 => intro X hX; (try dsimp only at hX); go_simp <;> with_reducible rfl
                          try simp only [List.getElem_toArray, List.getElem_cons_succ, List.getElem_cons_zero, Act.put, List.setIfInBounds_toArray, List.set_cons_zero, List.set_cons_succ]
                          refine wpAnyH_take (i := 6) (v := ?v107) rfl (by kernel_rfl) (by kernel_rfl) (by kernel_rfl) (fun _ _ _ h => h) (Or.inl ⟨by rfl, ?hy107⟩) (by assumption) ?rest107
                          case hy107 => intro X hX; (try dsimp only at hX); obtain ⟨q1, q2, q3⟩ := (BX.out.keep (hbel3.trans (hX.mono hbel3.size))).cells; have z1 := (hX.cell (p := ⟨gL, j, none⟩) hgLY).trans C1.out; have z3 := (hX.cell (p := ⟨gi, q, none⟩) hgiY).trans C3.out; go_simp <;> with_reducible rfl
                          try simp only [List.getElem_toArray, List.getElem_cons_succ, List.getElem_cons_zero, Act.put, List.setIfInBounds_toArray, List.set_cons_zero, List.set_cons_succ]
                          refine wpAnyH_take (i := 7) (v := ?v108) rfl (by kernel_rfl) (by kernel_rfl) (by kernel_rfl) (fun _ _ _ h => h) (Or.inl ⟨by rfl, ?hy108⟩) (by assumption) ?rest108
                          case hy108 => intro X hX; (try dsimp only at hX); obtain ⟨q1, q2, q3⟩ := (BX.out.keep (hbel3.trans (hX.mono hbel3.size))).cells; have z1 := (hX.cell (p := ⟨gL, j, none⟩) hgLY).trans C1.out; have z3 := (hX.cell (p := ⟨gi, q, none⟩) hgiY).trans C3.out; go_simp <;> with_reducible rfl
                          try simp only [List.getElem_toArray, List.getElem_cons_succ, List.getElem_cons_zero, Act.put, List.setIfInBounds_toArray, List.set_cons_zero, List.set_cons_succ]
                          refine wpAnyH_take (i := 8) (v := ?v109) rfl (by kernel_rfl) (by kernel_rfl) (by kernel_rfl) (fun _ _ _ h => h) (Or.inl ⟨by rfl, ?hy109⟩) (by assumption) ?rest109
                          case hy109 => intro X hX; (try dsimp only at hX); go_simp <;> with_reducible rfl
                          try simp only [List.getElem_toArray, List.getElem_cons_succ, List.getElem_cons_zero, Act.put, List.setIfInBounds_toArray, List.set_cons_zero, List.set_cons_succ]
                          refine wpAnyH_take (i := 9) (v := ?v110) rfl (by kernel_rfl) (by kernel_rfl) (by kernel_rfl) (fun _ _ _ h => h) (Or.inl ⟨by rfl, ?hy110⟩) (by assumption) ?rest110
                          case hy110 => intro X hX; (try dsimp only at hX); go_simp <;> with_reducible rfl
                          try simp only [List.getElem_toArray, List.getElem_cons_succ, List.getElem_cons_zero, Act.put, List.setIfInBounds_toArray, List.set_cons_zero, List.set_cons_succ]
                          refine wpAnyH_take (i := 10) (v := ?v111) rfl (by kernel_rfl) (by kernel_rfl) (by kernel_rfl) (fun _ _ _ h => h) (Or.inl ⟨by rfl, ?hy111⟩) (by assumption) ?rest111
                          case hy111 => intro X hX; (try dsimp only at hX); go_simp <;> with_reducible rfl
                          try simp only [List.getElem_toArray, List.getElem_cons_succ, List.getElem_cons_zero, Act.put, List.setIfInBounds_toArray, List.set_cons_zero, List.set_cons_succ]
                          refine wpAnyH_take (i := 11) (v := ?v112) rfl (by kernel_rfl) (by kernel_rfl) (by kernel_rfl) (fun _ _ _ h => h) (Or.inl ⟨by rfl, ?hy112⟩) (by assumption) ?rest112
                          case hy112 => intro X hX; (try dsimp only at hX); go_simp <;> with_reducible rfl
                          try simp only [List.getElem_toArray, List.getElem_cons_succ, List.getElem_cons_zero, Act.put, List.setIfInBounds_toArray, List.set_cons_zero, List.set_cons_succ]
                          refine wpAnyH_take (i := 12) (v := ?v113) rfl (by kernel_rfl) (by kernel_rfl) (by kernel_rfl) (fun _ _ _ h => h) (Or.inl ⟨by rfl, ?hy113⟩) (by assumption) ?rest113
                          case hy113 => intro X hX; (try dsimp only at hX); obtain ⟨q1, q2, q3⟩ := (BX.out.keep (hbel3.trans (hX.mono hbel3.size))).cells; have z1 := (hX.cell (p := ⟨gL, j, none⟩) hgLY).trans C1.out; have z3 := (hX.cell (p := ⟨gi, q, none⟩) hgiY).trans C3.out; go_simp <;> with_reducible rfl
                          try simp only [List.getElem_toArray, List.getElem_cons_succ, List.getElem_cons_zero, Act.put, List.setIfInBounds_toArray, List.set_cons_zero, List.set_cons_succ]
                          refine wpAnyH_take (i := 13) (v := ?v114) rfl (by kernel_rfl) (by kernel_rfl) (by kernel_rfl) (fun _ _ _ h => h) (Or.inl ⟨by rfl, ?hy114⟩) (by assumption) ?rest114
                          case hy114 => intro X hX; (try dsimp only at hX); obtain ⟨q1, q2, q3⟩ := (BX.out.keep (hbel3.trans (hX.mono hbel3.size))).cells; have z1 := (hX.cell (p := ⟨gL, j, none⟩) hgLY).trans C1.out; have z3 := (hX.cell (p := ⟨gi, q, none⟩) hgiY).trans C3.out; go_simp <;> with_reducible rfl
                          try simp only [List.getElem_toArray, List.getElem_cons_succ, List.getElem_cons_zero, Act.put, List.setIfInBounds_toArray, List.set_cons_zero, List.set_cons_succ]
                          refine wpAnyH_take (i := 14) (v := ?v115) rfl (by kernel_rfl) (by kernel_rfl) (by kernel_rfl) (fun _ _ _ h => h) (Or.inl ⟨by rfl, ?hy115⟩) (by assumption) ?rest115
                          case hy115 => intro X hX; (try dsimp only at hX); go_simp <;> with_reducible rfl
                          try simp only [List.getElem_toArray, List.getElem_cons_succ, List.getElem_cons_zero, Act.put, List.setIfInBounds_toArray, List.set_cons_zero, List.set_cons_succ]
                          refine wpAnyH_take (i := 15) (v := ?v116) rfl (by kernel_rfl) (by kernel_rfl) (by kernel_rfl) (fun _ _ _ h => h) (Or.inl ⟨by rfl, ?hy116⟩) (by assumption) ?rest116
                          case hy116 => intro X hX; (try dsimp only at hX); go_simp <;> with_reducible rfl
                          try simp only [List.getElem_toArray, List.getElem_cons_succ, List.getElem_cons_zero, Act.put, List.setIfInBounds_toArray, List.set_cons_zero, List.set_cons_succ]
                          refine wpAnyH_take (i := 16) (v := ?v117) rfl (by kernel_rfl) (by kernel_rfl) (by kernel_rfl) (fun _ _ _ h => h) (Or.inl ⟨by rfl, ?hy117⟩) (by assumption) ?rest117
                          case hy117 => intro X hX; (try dsimp only at hX); go_simp <;> with_reducible rfl
                          try simp only [List.getElem_toArray, List.getElem_cons_succ, List.getElem_cons_zero, Act.put, List.setIfInBounds_toArray, List.set_cons_zero, List.set_cons_succ]
                          refine wpAnyH_take (i := 17) (v := ?v118) rfl (by kernel_rfl) (by kernel_rfl) (by kernel_rfl) (fun _ _ _ h => h) (Or.inl ⟨by rfl, ?hy118⟩) (by assumption) ?rest118
                          case hy118 => intro X hX; (try dsimp only at hX); go_simp <;> with_reducible rfl
                          try simp only [List.getElem_toArray, List.getElem_cons_succ, List.getElem_cons_zero, Act.put, List.setIfInBounds_toArray, List.set_cons_zero, List.set_cons_succ]
                          refine wpAnyH_take (i := 18) (v := undef) rfl (by kernel_rfl) (by kernel_rfl) (by kernel_rfl) (fun _ _ _ h => h) (Or.inr ⟨by rfl, rfl⟩) (by assumption) ?_
                          try simp only [List.getElem_toArray, List.getElem_cons_succ, List.getElem_cons_zero, Act.put, List.setIfInBounds_toArray, List.set_cons_zero, List.set_cons_succ]
                          refine wpAnyH_take (i := 19) (v := undef) rfl (by kernel_rfl) (by kernel_rfl) (by kernel_rfl) (fun _ _ _ h => h) (Or.inr ⟨by rfl, rfl⟩) (by assumption) ?_
                          try simp only [List.getElem_toArray, List.getElem_cons_succ, List.getElem_cons_zero, Act.put, List.setIfInBounds_toArray, List.set_cons_zero, List.set_cons_succ]
                          refine wpAnyH_take (i := 20) (v := undef) rfl (by kernel_rfl) (by kernel_rfl) (by kernel_rfl) (fun _ _ _ h => h) (Or.inr ⟨by rfl, rfl⟩) (by assumption) ?_
                          try simp only [List.getElem_toArray, List.getElem_cons_succ, List.getElem_cons_zero, Act.put, List.setIfInBounds_toArray, List.set_cons_zero, List.set_cons_succ]
                          refine wpAnyH_take (i := 21) (v := undef) rfl (by kernel_rfl) (by kernel_rfl) (by kernel_rfl) (fun _ _ _ h => h) (Or.inr ⟨by rfl, rfl⟩) (by assumption) ?_
                          try simp only [List.getElem_toArray, List.getElem_cons_succ, List.getElem_cons_zero, Act.put, List.setIfInBounds_toArray, List.set_cons_zero, List.set_cons_succ]
                          refine wpAnyH_take (i := 22) (v := undef) rfl (by kernel_rfl) (by kernel_rfl) (by kernel_rfl) (fun _ _ _ h => h) (Or.inr ⟨by rfl, rfl⟩) (by assumption) ?_
                          try simp only [List.getElem_toArray, List.getElem_cons_succ, List.getElem_cons_zero, Act.put, List.setIfInBounds_toArray, List.set_cons_zero, List.set_cons_succ]
                          refine wpAnyH_take (i := 23) (v := undef) rfl (by kernel_rfl) (by kernel_rfl) (by kernel_rfl) (fun _ _ _ h => h) (Or.inr ⟨by rfl, rfl⟩) (by assumption) ?_
                          try simp only [List.getElem_toArray, List.getElem_cons_succ, List.getElem_cons_zero, Act.put, List.setIfInBounds_toArray, List.set_cons_zero, List.set_cons_succ]
                          refine wpAnyH_take (i := 24) (v := undef) rfl (by kernel_rfl) (by kernel_rfl) (by kernel_rfl) (fun _ _ _ h => h) (Or.inr ⟨by rfl, rfl⟩) (by assumption) ?_
                          try simp only [List.getElem_toArray, List.getElem_cons_succ, List.getElem_cons_zero, Act.put, List.setIfInBounds_toArray, List.set_cons_zero, List.set_cons_succ]
                          refine wpAnyH_take (i := 25) (v := undef) rfl (by kernel_rfl) (by kernel_rfl) (by kernel_rfl) (fun _ _ _ h => h) (Or.inr ⟨by rfl, rfl⟩) (by assumption) ?_
                          try simp only [List.getElem_toArray, List.getElem_cons_succ, List.getElem_cons_zero, Act.put, List.setIfInBounds_toArray, List.set_cons_zero, List.set_cons_succ]
                          refine wpAnyH_take (i := 26) (v := ?v119) rfl (by kernel_rfl) (by kernel_rfl) (by kernel_rfl) (fun _ _ _ h => h) (Or.inl ⟨by rfl, ?hy119⟩) (by assumption) ?rest119
                          case hy119 => intro X hX; (try dsimp only at hX); go_simp <;> with_reducible rfl
                          try simp only [List.getElem_toArray, List.getElem_cons_succ, List.getElem_cons_zero, Act.put, List.setIfInBounds_toArray, List.set_cons_zero, List.set_cons_succ]
                          refine wpAnyH_done (by kernel_rfl) ?_ _
                          go_wp2
                          go_roundw
                          case rel => exact ⟨j + 1, gn3, cn3, vn3, Fn3, nxt3, by omega, by go_num, rfl, hst6, by omega, hLy3.keep hHeld, hbel3.trans (hHeld.mono hbel3.size)⟩
                          case measure => simp [intOf]; omega
                        · have txy : (x != -y) = true := by simpa using hxy
                          have HOK : Hid (okNext u x = true) := Lib.hid (by rw [hok, decide_eq_false hxy]; rfl)
                          clear hok hxy
                          go_wp2
                          refine wp_region_held_drew (S := fun X => Below W3.heap.size W3 X) (by kernel_rfl) ((Below.refl W3.heap.size W3).drew) (fun hHeld => ?_)
                          refine wpAnyH_take (i := 0) (v := ?v120) rfl (by kernel_rfl) (by kernel_rfl) (by kernel_rfl) (fun _ _ _ h => h) (Or.inl ⟨by rfl, ?hy120⟩) (by assumption) ?rest120
                          case hy120 => intro X hX; (try dsimp only at hX); go_simp <;> with_reducible rfl
                          try simp only [List.getElem_toArray, List.getElem_cons_zero, Act.put, List.setIfInBounds_toArray, List.set_cons_zero, List.set_cons_succ]
                          refine wpAnyH_take (i := 1) (v := ?v121) rfl (by kernel_rfl) (by kernel_rfl) (by kernel_rfl) (fun _ _ _ h => h) (Or.inl ⟨by rfl, ?hy121⟩) (by assumption) ?rest121
                          case hy121 => intro X hX; (try dsimp only at hX); go_simp <;> with_reducible rfl
                          try simp only [List.getElem_toArray, List.getElem_cons_succ, List.getElem_cons_zero, Act.put, List.setIfInBounds_toArray, List.set_cons_zero, List.set_cons_succ]
                          refine wpAnyH_take (i := 2) (v := ?v122) rfl (by kernel_rfl) (by kernel_rfl) (by kernel_rfl) (fun _ _ _ h => h) (Or.inl ⟨by rfl, ?hy122⟩) (by assumption) ?rest122
                          case hy122 => intro X hX; (try dsimp only at hX); go_simp <;> with_reducible rfl
                          try simp only [List.getElem_toArray, List.getElem_cons_succ, List.getElem_cons_zero, Act.put, List.setIfInBounds_toArray, List.set_cons_zero, List.set_cons_succ]
                          refine wpAnyH_take (i := 3) (v := ?v123) rfl (by kernel_rfl) (by kernel_rfl) (by kernel_rfl) (fun _ _ _ h => h) (Or.inl ⟨by rfl, ?hy123⟩) (by assumption) ?rest123
                          case hy123 => intro X hX; (try dsimp only at hX); go_simp <;> with_reducible rfl
                          try simp only [List.getElem_toArray, List.getElem_cons_succ, List.getElem_cons_zero, Act.put, List.setIfInBounds_toArray, List.set_cons_zero, List.set_cons_succ]
                          refine wpAnyH_take (i := 4) (v := ?v124) rfl (by kernel_rfl) (by kernel_rfl) (by kernel_rfl) (fun _ _ _ h => h) (Or.inl ⟨by rfl, ?hy124⟩) (by assumption) ?rest124
                          case hy124 => intro X hX; (try dsimp only at hX); go_simp <;> with_reducible rfl
                          try simp only [List.getElem_toArray, List.getElem_cons_succ, List.getElem_cons_zero, Act.put, List.setIfInBounds_toArray, List.set_cons_zero, List.set_cons_succ]
                          refine wpAnyH_take (i := 5) (v := ?v125) rfl (by kernel_rfl) (by kernel_rfl) (by kernel_rfl) (fun _ _ _ h => h) (Or.inl ⟨by rfl, ?hy125⟩) (by assumption) ?rest125
                          case hy125 => intro X hX; (try dsimp only at hX); go_simp <;> with_reducible rfl
                          try simp only [List.getElem_toArray, List.getElem_cons_succ, List.getElem_cons_zero, Act.put, List.setIfInBounds_toArray, List.set_cons_zero, List.set_cons_succ]
                          refine wpAnyH_take (i := 6) (v := ?v126) rfl (by kernel_rfl) (by kernel_rfl) (by kernel_rfl) (fun _ _ _ h => h) (Or.inl ⟨by rfl, ?hy126⟩) (by assumption) ?rest126
                          case hy126 => intro X hX; (try dsimp only at hX); obtain ⟨q1, q2, q3⟩ := (BX.out.keep (hbel3.trans (hX.mono hbel3.size))).cells; have z1 := (hX.cell (p := ⟨gL, j, none⟩) hgLY).trans C1.out; have z3 := (hX.cell (p := ⟨gi, q, none⟩) hgiY).trans C3.out; go_simp <;> with_reducible rfl
                          try simp only [List.getElem_toArray, List.getElem_cons_succ, List.getElem_cons_zero, Act.put, List.setIfInBounds_toArray, List.set_cons_zero, List.set_cons_succ]
                          refine wpAnyH_take (i := 7) (v := ?v127) rfl (by kernel_rfl) (by kernel_rfl) (by kernel_rfl) (fun _ _ _ h => h) (Or.inl ⟨by rfl, ?hy127⟩) (by assumption) ?rest127
                          case hy127 => intro X hX; (try dsimp only at hX); obtain ⟨q1, q2, q3⟩ := (BX.out.keep (hbel3.trans (hX.mono hbel3.size))).cells; have z1 := (hX.cell (p := ⟨gL, j, none⟩) hgLY).trans C1.out; have z3 := (hX.cell (p := ⟨gi, q, none⟩) hgiY).trans C3.out; go_simp <;> with_reducible rfl
                          try simp only [List.getElem_toArray, List.getElem_cons_succ, List.getElem_cons_zero, Act.put, List.setIfInBounds_toArray, List.set_cons_zero, List.set_cons_succ]
                          refine wpAnyH_take (i := 8) (v := ?v128) rfl (by kernel_rfl) (by kernel_rfl) (by kernel_rfl) (fun _ _ _ h => h) (Or.inl ⟨by rfl, ?hy128⟩) (by assumption) ?rest128
                          case hy128 => intro X hX; (try dsimp only at hX); go_simp <;> with_reducible rfl
                          try simp only [List.getElem_toArray, List.getElem_cons_succ, List.getElem_cons_zero, Act.put, List.setIfInBounds_toArray, List.set_cons_zero, List.set_cons_succ]
                          refine wpAnyH_take (i := 9) (v := ?v129) rfl (by kernel_rfl) (by kernel_rfl) (by kernel_rfl) (fun _ _ _ h => h) (Or.inl ⟨by rfl, ?hy129⟩) (by assumption) ?rest129
                          case hy129 => intro X hX; (try dsimp only at hX); go_simp <;> with_reducible rfl
                          try simp only [List.getElem_toArray, List.getElem_cons_succ, List.getElem_cons_zero, Act.put, List.setIfInBounds_toArray, List.set_cons_zero, List.set_cons_succ]
                          refine wpAnyH_take (i := 10) (v := ?v130) rfl (by kernel_rfl) (by kernel_rfl) (by kernel_rfl) (fun _ _ _ h => h) (Or.inl ⟨by rfl, ?hy130⟩) (by assumption) ?rest130
                          case hy130 => intro X hX; (try dsimp only at hX); go_simp <;> with_reducible rfl
                          try simp only [List.getElem_toArray, List.getElem_cons_succ, List.getElem_cons_zero, Act.put, List.setIfInBounds_toArray, List.set_cons_zero, List.set_cons_succ]
                          refine wpAnyH_take (i := 11) (v := ?v131) rfl (by kernel_rfl) (by kernel_rfl) (by kernel_rfl) (fun _ _ _ h => h) (Or.inl ⟨by rfl, ?hy131⟩) (by assumption) ?rest131
                          case hy131 => intro X hX; (try dsimp only at hX); go_simp <;> with_reducible rfl
                          try simp only [List.getElem_toArray, List.getElem_cons_succ, List.getElem_cons_zero, Act.put, List.setIfInBounds_toArray, List.set_cons_zero, List.set_cons_succ]
                          refine wpAnyH_take (i := 12) (v := ?v132) rfl (by kernel_rfl) (by kernel_rfl) (by kernel_rfl) (fun _ _ _ h => h) (Or.inl ⟨by rfl, ?hy132⟩) (by assumption) ?rest132
                          case hy132 => intro X hX; (try dsimp only at hX); obtain ⟨q1, q2, q3⟩ := (BX.out.keep (hbel3.trans (hX.mono hbel3.size))).cells; have z1 := (hX.cell (p := ⟨gL, j, none⟩) hgLY).trans C1.out; have z3 := (hX.cell (p := ⟨gi, q, none⟩) hgiY).trans C3.out; go_simp <;> with_reducible rfl
                          try simp only [List.getElem_toArray, List.getElem_cons_succ, List.getElem_cons_zero, Act.put, List.setIfInBounds_toArray, List.set_cons_zero, List.set_cons_succ]
                          refine wpAnyH_take (i := 13) (v := ?v133) rfl (by kernel_rfl) (by kernel_rfl) (by kernel_rfl) (fun _ _ _ h => h) (Or.inl ⟨by rfl, ?hy133⟩) (by assumption) ?rest133
                          case hy133 => intro X hX; (try dsimp only at hX); obtain ⟨q1, q2, q3⟩ := (BX.out.keep (hbel3.trans (hX.mono hbel3.size))).cells; have z1 := (hX.cell (p := ⟨gL, j, none⟩) hgLY).trans C1.out; have z3 := (hX.cell (p := ⟨gi, q, none⟩) hgiY).trans C3.out; go_simp <;> with_reducible rfl
                          try simp only [List.getElem_toArray, List.getElem_cons_succ, List.getElem_cons_zero, Act.put, List.setIfInBounds_toArray, List.set_cons_zero, List.set_cons_succ]
                          refine wpAnyH_take (i := 14) (v := ?v134) rfl (by kernel_rfl) (by kernel_rfl) (by kernel_rfl) (fun _ _ _ h => h) (Or.inl ⟨by rfl, ?hy134⟩) (by assumption) ?rest134
                          case hy134 => intro X hX; (try dsimp only at hX); go_simp <;> with_reducible rfl
                          try simp only [List.getElem_toArray, List.getElem_cons_succ, List.getElem_cons_zero, Act.put, List.setIfInBounds_toArray, List.set_cons_zero, List.set_cons_succ]
                          refine wpAnyH_take (i := 15) (v := ?v135) rfl (by kernel_rfl) (by kernel_rfl) (by kernel_rfl) (fun _ _ _ h => h) (Or.inl ⟨by rfl, ?hy135⟩) (by assumption) ?rest135
                          case hy135 => intro X hX; (try dsimp only at hX); go_simp <;> with_reducible rfl
                          try simp only [List.getElem_toArray, List.getElem_cons_succ, List.getElem_cons_zero, Act.put, List.setIfInBounds_toArray, List.set_cons_zero, List.set_cons_succ]
                          refine wpAnyH_take (i := 16) (v := ?v136) rfl (by kernel_rfl) (by kernel_rfl) (by kernel_rfl) (fun _ _ _ h => h) (Or.inl ⟨by rfl, ?hy136⟩) (by assumption) ?rest136
                          case hy136 => intro X hX; (try dsimp only at hX); go_simp <;> with_reducible rfl
                          try simp only [List.getElem_toArray, List.getElem_cons_succ, List.getElem_cons_zero, Act.put, List.setIfInBounds_toArray, List.set_cons_zero, List.set_cons_succ]
                          refine wpAnyH_take (i := 17) (v := ?v137) rfl (by kernel_rfl) (by kernel_rfl) (by kernel_rfl) (fun _ _ _ h => h) (Or.inl ⟨by rfl, ?hy137⟩) (by assumption) ?rest137
                          case hy137 => intro X hX; (try dsimp only at hX); go_simp <;> with_reducible rfl
                          try simp only [List.getElem_toArray, List.getElem_cons_succ, List.getElem_cons_zero, Act.put, List.setIfInBounds_toArray, List.set_cons_zero, List.set_cons_succ]
                          refine wpAnyH_take (i := 18) (v := ?v138) rfl (by kernel_rfl) (by kernel_rfl) (by kernel_rfl) (fun _ _ _ h => h) (Or.inl ⟨by rfl, ?hy138⟩) (by assumption) ?rest138
                          case hy138 => intro X hX; (try dsimp only at hX); obtain ⟨q1, q2, q3⟩ := (BX.out.keep (hbel3.trans (hX.mono hbel3.size))).cells; have z1 := (hX.cell (p := ⟨gL, j, none⟩) hgLY).trans C1.out; have z3 := (hX.cell (p := ⟨gi, q, none⟩) hgiY).trans C3.out; go_simp <;> with_reducible rfl
                          try simp only [List.getElem_toArray, List.getElem_cons_succ, List.getElem_cons_zero, Act.put, List.setIfInBounds_toArray, List.set_cons_zero, List.set_cons_succ]
                          refine wpAnyH_take (i := 19) (v := ?v139) rfl (by kernel_rfl) (by kernel_rfl) (by kernel_rfl) (fun _ _ _ h => h) (Or.inl ⟨by rfl, ?hy139⟩) (by assumption) ?rest139
                          case hy139 => intro X hX; (try dsimp only at hX); go_simp <;> with_reducible rfl
                          try simp only [List.getElem_toArray, List.getElem_cons_succ, List.getElem_cons_zero, Act.put, List.setIfInBounds_toArray, List.set_cons_zero, List.set_cons_succ]
                          refine wpAnyH_take (i := 20) (v := ?v140) rfl (by kernel_rfl) (by kernel_rfl) (by kernel_rfl) (fun _ _ _ h => h) (Or.inl ⟨by rfl, ?hy140⟩) (by assumption) ?rest140
                          case hy140 => intro X hX; (try dsimp only at hX); go_simp <;> with_reducible rfl
                          try simp only [List.getElem_toArray, List.getElem_cons_succ, List.getElem_cons_zero, Act.put, List.setIfInBounds_toArray, List.set_cons_zero, List.set_cons_succ]
                          refine wpAnyH_take (i := 21) (v := ?v141) rfl (by kernel_rfl) (by kernel_rfl) (by kernel_rfl) (fun _ _ _ h => h) (Or.inl ⟨by rfl, ?hy141⟩) (by assumption) ?rest141
                          case hy141 => intro X hX; (try dsimp only at hX); go_simp <;> with_reducible rfl
                          try simp only [List.getElem_toArray, List.getElem_cons_succ, List.getElem_cons_zero, Act.put, List.setIfInBounds_toArray, List.set_cons_zero, List.set_cons_succ]
                          refine wpAnyH_take (i := 22) (v := ?v142) rfl (by kernel_rfl) (by kernel_rfl) (by kernel_rfl) (fun _ _ _ h => h) (Or.inl ⟨by rfl, ?hy142⟩) (by assumption) ?rest142
                          case hy142 => intro X hX; (try dsimp only at hX); obtain ⟨q1, q2, q3⟩ := (BX.out.keep (hbel3.trans (hX.mono hbel3.size))).cells; have z1 := (hX.cell (p := ⟨gL, j, none⟩) hgLY).trans C1.out; have z3 := (hX.cell (p := ⟨gi, q, none⟩) hgiY).trans C3.out; go_simp <;> with_reducible rfl
                          try simp only [List.getElem_toArray, List.getElem_cons_succ, List.getElem_cons_zero, Act.put, List.setIfInBounds_toArray, List.set_cons_zero, List.set_cons_succ]
                          refine wpAnyH_take (i := 23) (v := ?v143) rfl (by kernel_rfl) (by kernel_rfl) (by kernel_rfl) (fun _ _ _ h => h) (Or.inl ⟨by rfl, ?hy143⟩) (by assumption) ?rest143
                          case hy143 => intro X hX; (try dsimp only at hX); obtain ⟨q1, q2, q3⟩ := (BX.out.keep (hbel3.trans (hX.mono hbel3.size))).cells; have z1 := (hX.cell (p := ⟨gL, j, none⟩) hgLY).trans C1.out; have z3 := (hX.cell (p := ⟨gi, q, none⟩) hgiY).trans C3.out; go_simp <;> with_reducible rfl
                          try simp only [List.getElem_toArray, List.getElem_cons_succ, List.getElem_cons_zero, Act.put, List.setIfInBounds_toArray, List.set_cons_zero, List.set_cons_succ]
                          refine wpAnyH_ready (rs := [24]) (by kernel_rfl) (by simp) ?_
                          refine AllReadyH.cons rfl (fun K hK => ?_) AllReadyH.nil
                          go_simp
                          go_at_call 11
                          refine (HN1.out _ hHeld).mono ?_
                          rintro e w2 ⟨rfl, hb2⟩
                          (try go_simp)
                          refine hK.out _ _ (hHeld.trans (hb2.mono hHeld.size)) (fun hHeld2 => ?_)
                          replace hHeld := hHeld2
                          clear hHeld2
                          clear hK K
                          try simp only [List.getElem_toArray, List.getElem_cons_succ, List.getElem_cons_zero, Act.put, List.setIfInBounds_toArray, List.set_cons_zero, List.set_cons_succ]
                          refine wpAnyH_take (i := 25) (v := ?v144) rfl (by kernel_rfl) (by kernel_rfl) (by kernel_rfl) (fun _ _ _ h => h) (Or.inl ⟨by rfl, ?hy144⟩) (by assumption) ?rest144
                          case hy144 => intro X hX; (try dsimp only at hX); go_simp <;> with_reducible rfl
                          try simp only [List.getElem_toArray, List.getElem_cons_succ, List.getElem_cons_zero, Act.put, List.setIfInBounds_toArray, List.set_cons_zero, List.set_cons_succ]
                          refine wpAnyH_take (i := 26) (v := ?v145) rfl (by kernel_rfl) (by kernel_rfl) (by kernel_rfl) (fun _ _ _ h => h) (Or.inl ⟨by rfl, ?hy145⟩) (by assumption) ?rest145
                          case hy145 => intro X hX; (try dsimp only at hX); go_simp <;> with_reducible rfl
                          try simp only [List.getElem_toArray, List.getElem_cons_succ, List.getElem_cons_zero, Act.put, List.setIfInBounds_toArray, List.set_cons_zero, List.set_cons_succ]
                          refine wpAnyH_done (by kernel_rfl) ?_ _
                          by_cases hneg : nv < 0
                          · have hst6 : Kept (nxt3 = nxt ++ extR l v (L.take (j + 1)) u) := ⟨by rw [HN.out (.inr (by rw [HNV.out]; exact hneg)), hst3.out]⟩
                            have tn : ¬ 0 ≤ nv := by omega
                            go_wp2
                            go_roundw
                            case rel => exact ⟨j + 1, gn3, cn3, vn3, Fn3, nxt3, by omega, by go_num, rfl, hst6, by omega, hLy3.keep hHeld, hbel3.trans (hHeld.mono hbel3.size)⟩
                            case measure => simp [intOf]; omega
                          · have hst6 : Kept (nxt3 ++ [u ++ [x]] = nxt ++ extR l v (L.take (j + 1)) u) := ⟨by rw [HYS.out HOK.out (by rw [HNV.out]; omega), hst3.out, List.append_assoc]⟩
                            have tn : 0 ≤ nv := by omega
                            have hLyY := hLy3.keep hHeld
                            have hbelY := hbel3.trans (hHeld.mono hbel3.size)
                            have LUI := Lib.hid (HROW3.out.keep hHeld).ints
                            have hgLY2 : gL < w2.heap.size := (ownsRow_parts hLyY.lets).2.1
                            have C1Y := Lib.hid ((hHeld.cell (p := ⟨gL, j, none⟩) hgLY).trans C1.out)
                            have hgne : gL ≠ gn3 := fun e => hLyY.ln2 (e ▸ hLyY.nxt.spine)
                            clear hLy3 hbel3 hHeld hneg hb2
                            go_wp2
                            obtain ⟨S, hS⟩ : ∃ S : World → Prop, S = fun X => X.cell? ⟨gL, j, none⟩ = some (.int .i64 x) := ⟨_, rfl⟩
                            have sb : ∀ X, Below w2.heap.size w2 X → S X := fun X hX => by rw [hS]; exact (hX.cell (p := ⟨gL, j, none⟩) hgLY2).trans C1Y.out
                            have sl : ∀ X, S X → X.cell? ⟨gL, j, none⟩ = some (.int .i64 x) := fun X hX => by rw [hS] at hX; exact hX
                            have sn : ∀ X X', Below w2.heap.size w2 X → X.grownBy X' (some gn3) → S X' := fun X X' hX hg => by
                              have h1 := sl X (sb X hX)
                              rw [hS]
                              exact (World.cell?_of_block (a := ⟨gL, j, none⟩) (hg.block gL (Nat.lt_of_lt_of_le hgLY2 hX.size) (by simp only [ne_eq, Option.some.injEq]; exact hgne))).trans h1
                            have SB := Lib.hid sb
                            have SL := Lib.hid sl
                            have SN := Lib.hid sn
                            clear sb sl sn hS
                            have hq0 : Below w2.heap.size w2 w2.drew := (Below.refl w2.heap.size w2).drew
                            refine wp_region_held_drew (S := S) (by kernel_rfl) (SB.out _ hq0) (fun hHeld => ?_)
                            refine wpAnyH_take (i := 0) (v := ?v146) rfl (by kernel_rfl) (by kernel_rfl) (by kernel_rfl) (fun _ _ _ h => h) (Or.inl ⟨by rfl, ?hy146⟩) (by assumption) ?rest146
                            case hy146 => intro X hX; (try dsimp only at hX); go_simp <;> with_reducible rfl
                            try simp only [List.getElem_toArray, List.getElem_cons_zero, Act.put, List.setIfInBounds_toArray, List.set_cons_zero, List.set_cons_succ]
                            refine wpAnyH_take (i := 2) (v := ?v147) rfl (by kernel_rfl) (by kernel_rfl) (by kernel_rfl) (fun _ _ _ h => h) (Or.inl ⟨by rfl, ?hy147⟩) (by assumption) ?rest147
                            case hy147 => intro X hX; (try dsimp only at hX); go_simp <;> with_reducible rfl
                            try simp only [List.getElem_toArray, List.getElem_cons_succ, List.getElem_cons_zero, Act.put, List.setIfInBounds_toArray, List.set_cons_zero, List.set_cons_succ]
                            refine wpAnyH_take (i := 4) (v := ?v148) rfl (by kernel_rfl) (by kernel_rfl) (by kernel_rfl) (fun _ _ _ h => h) (Or.inl ⟨by rfl, ?hy148⟩) (by assumption) ?rest148
                            case hy148 => intro X hX; (try dsimp only at hX); go_simp <;> with_reducible rfl
                            try simp only [List.getElem_toArray, List.getElem_cons_succ, List.getElem_cons_zero, Act.put, List.setIfInBounds_toArray, List.set_cons_zero, List.set_cons_succ]
                            refine wpAnyH_take (i := 5) (v := ?v149) rfl (by kernel_rfl) (by kernel_rfl) (by kernel_rfl) (fun _ _ _ h => h) (Or.inl ⟨by rfl, ?hy149⟩) (by assumption) ?rest149
                            case hy149 => intro X hX; (try dsimp only at hX); go_simp <;> with_reducible rfl
                            try simp only [List.getElem_toArray, List.getElem_cons_succ, List.getElem_cons_zero, Act.put, List.setIfInBounds_toArray, List.set_cons_zero, List.set_cons_succ]
                            refine wpAnyH_take (i := 6) (v := ?v150) rfl (by kernel_rfl) (by kernel_rfl) (by kernel_rfl) (fun _ _ _ h => h) (Or.inl ⟨by rfl, ?hy150⟩) (by assumption) ?rest150
                            case hy150 => intro X hX; (try dsimp only at hX); have z1 := SL.out X hX; go_simp <;> with_reducible rfl
                            try simp only [List.getElem_toArray, List.getElem_cons_succ, List.getElem_cons_zero, Act.put, List.setIfInBounds_toArray, List.set_cons_zero, List.set_cons_succ]
                            refine wpAnyH_take (i := 7) (v := ?v151) rfl (by kernel_rfl) (by kernel_rfl) (by kernel_rfl) (fun _ _ _ h => h) (Or.inl ⟨by rfl, ?hy151⟩) (by assumption) ?rest151
                            case hy151 => intro X hX; (try dsimp only at hX); have z1 := SL.out X hX; go_simp <;> with_reducible rfl
                            try simp only [List.getElem_toArray, List.getElem_cons_succ, List.getElem_cons_zero, Act.put, List.setIfInBounds_toArray, List.set_cons_zero, List.set_cons_succ]
                            refine wpAnyH_ready (rs := [1, 8]) (by kernel_rfl) (by simp) ?_
                            refine AllReadyH.cons rfl (fun K hK => ?_) (AllReadyH.cons rfl (fun K hK => ?_) AllReadyH.nil)
                            go_simp
                            have hq1 := hq0.alloc hq0.size (.cells #[] 3 (0, 0))
                            refine hK.out _ _ (SB.out _ hq1) (fun hHeld2 => ?_)
                            replace hHeld := hHeld2
                            clear hHeld2 hK K
                            try simp only [List.getElem_toArray, List.getElem_cons_succ, List.getElem_cons_zero, Act.put, List.setIfInBounds_toArray, List.set_cons_zero, List.set_cons_succ]
                            refine wpAnyH_ready (rs := [3, 8]) (by kernel_rfl) (by simp) ?_
                            refine AllReadyH.cons rfl (fun K hK => ?_) (AllReadyH.cons rfl (fun K hK => ?_) AllReadyH.nil)
                            refine step_app elemI rfl (.tmp 106) (.tmp 107) rfl rfl (World.ownsRow_made (base := w2.heap.size) (e := 3) (size := 1) w2.drew #[] 0 (Nat.le_refl _) (by decide) rfl) rfl (by simp [intsV]) ((LUI.out.keep hq1).news) (intsV_one _) (by omega) ?_
                            intro g1 c1' X1 hown1 hgrow1 hat1
                            have hq2 : Below w2.heap.size w2 X1 := below_grown hq1 hgrow1 hq1.size (Nat.le_refl _)
                            simp only [Nat.zero_add, List.nil_append] at hown1
                            refine hK.out _ _ (SB.out _ hq2) (fun hHeld2 => ?_)
                            replace hHeld := hHeld2
                            clear hHeld2 hK K
                            try simp only [List.getElem_toArray, List.getElem_cons_succ, List.getElem_cons_zero, Act.put, List.setIfInBounds_toArray, List.set_cons_zero, List.set_cons_succ]
                            refine wpAnyH_ready (rs := [8]) (by kernel_rfl) (by simp) ?_
                            refine AllReadyH.cons rfl (fun K hK => ?_) AllReadyH.nil
                            go_simp
                            have hq3 := hq2.alloc hq2.size (.cells #[.int .i64 x] 3 (0, 0))
                            refine hK.out _ _ (SB.out _ hq3) (fun hHeld2 => ?_)
                            replace hHeld := hHeld2
                            clear hHeld2 hK K
                            try simp only [List.getElem_toArray, List.getElem_cons_succ, List.getElem_cons_zero, Act.put, List.setIfInBounds_toArray, List.set_cons_zero, List.set_cons_succ]
                            refine wpAnyH_ready (rs := [9]) (by kernel_rfl) (by simp) ?_
                            refine AllReadyH.cons rfl (fun K hK => ?_) AllReadyH.nil
                            refine step_push elemI rfl (.tmp 108) (.tmp 113) rfl rfl (hown1.alloc (.cells #[.int .i64 x] 3 (0, 0))) rfl (heap_alloc_new _ _) rfl (by omega) ?_
                            intro g4 c4 w4 hown4 hgrow4 hat4
                            have hb4 : Below w2.heap.size w2 w4 := below_grown hq3 hgrow4 hq3.size (ownsRow_parts hown1).1
                            refine hK.out _ _ (SB.out _ hb4) (fun hHeld2 => ?_)
                            replace hHeld := hHeld2
                            clear hHeld2 hK K
                            try simp only [List.getElem_toArray, List.getElem_cons_succ, List.getElem_cons_zero, Act.put, List.setIfInBounds_toArray, List.set_cons_zero, List.set_cons_succ]
                            refine wpAnyH_ready (rs := [10]) (by kernel_rfl) (by simp) ?_
                            refine AllReadyH.cons rfl (fun K hK => ?_) AllReadyH.nil
                            go_simp
                            have hq9 := hb4.alloc hb4.size (.cells #[.slice (some ⟨g4, 0, none⟩) (u.length + 1) c4] 33 (0, 0))
                            refine hK.out _ _ (SB.out _ hq9) (fun hHeld2 => ?_)
                            replace hHeld := hHeld2
                            clear hHeld2 hK K
                            try simp only [List.getElem_toArray, List.getElem_cons_succ, List.getElem_cons_zero, Act.put, List.setIfInBounds_toArray, List.set_cons_zero, List.set_cons_succ]
                            refine wpAnyH_ready (rs := [11]) (by kernel_rfl) (by simp) ?_
                            refine AllReadyH.cons rfl (fun K hK => ?_) AllReadyH.nil
                            refine step_push elemII rfl (.tmp 105) (.tmp 115) rfl rfl ((ownsRow_keep hLyY.nxt.own hb4).alloc (.cells #[.slice (some ⟨g4, 0, none⟩) (u.length + 1) c4] 33 (0, 0))) rfl (heap_alloc_new _ _) rfl (by omega) ?_
                            intro g6 c6 w6 hown6 hgrow6 hat6
                            refine hK.out _ _ (SN.out _ _ hq9 hgrow6) (fun hHeld2 => ?_)
                            replace hHeld := hHeld2
                            clear hHeld2 hK K
                            try simp only [List.getElem_toArray, List.getElem_cons_succ, List.getElem_cons_zero, Act.put, List.setIfInBounds_toArray, List.set_cons_zero, List.set_cons_succ]
                            refine wpAnyH_take (i := 12) (v := ?v152) rfl (by kernel_rfl) (by kernel_rfl) (by kernel_rfl) (fun _ _ _ h => h) (Or.inl ⟨by rfl, ?hy152⟩) (by assumption) ?rest152
                            case hy152 => intro X hX; (try dsimp only at hX); go_simp <;> with_reducible rfl
                            try simp only [List.getElem_toArray, List.getElem_cons_succ, List.getElem_cons_zero, Act.put, List.setIfInBounds_toArray, List.set_cons_zero, List.set_cons_succ]
                            refine wpAnyH_done (by kernel_rfl) ?_ _
                            rotate_left
                            go_simp
                            have hq2 := hq1.alloc hq1.size (.cells #[.int .i64 x] 3 (0, 0))
                            refine hK.out _ _ (SB.out _ hq2) (fun hHeld2 => ?_)
                            replace hHeld := hHeld2
                            clear hHeld2 hK K
                            try simp only [List.getElem_toArray, List.getElem_cons_succ, List.getElem_cons_zero, Act.put, List.setIfInBounds_toArray, List.set_cons_zero, List.set_cons_succ]
                            refine wpAnyH_ready (rs := [3]) (by kernel_rfl) (by simp) ?_
                            refine AllReadyH.cons rfl (fun K hK => ?_) AllReadyH.nil
                            refine step_app elemI rfl (.tmp 106) (.tmp 107) rfl rfl ((World.ownsRow_made (base := w2.heap.size) (e := 3) (size := 1) w2.drew #[] 0 (Nat.le_refl _) (by decide) rfl).alloc (.cells #[.int .i64 x] 3 (0, 0))) rfl (by simp [intsV]) ((LUI.out.keep hq2).news) (intsV_one _) (by omega) ?_
                            intro g1 c1' X1 hown1 hgrow1 hat1
                            have hq3 : Below w2.heap.size w2 X1 := below_grown hq2 hgrow1 hq2.size (Nat.le_refl _)
                            simp only [Nat.zero_add, List.nil_append] at hown1
                            refine hK.out _ _ (SB.out _ hq3) (fun hHeld2 => ?_)
                            replace hHeld := hHeld2
                            clear hHeld2 hK K
                            try simp only [List.getElem_toArray, List.getElem_cons_succ, List.getElem_cons_zero, Act.put, List.setIfInBounds_toArray, List.set_cons_zero, List.set_cons_succ]
                            have hxb := heap_kept hgrow1 (heap_new_at (w2.drew.alloc (.cells #[] 3 (0, 0))) (w2.heap.size + 1) (.cells #[.int .i64 x] 3 (0, 0)) (by simp)) (by omega)
                            refine wpAnyH_ready (rs := [9]) (by kernel_rfl) (by simp) ?_
                            refine AllReadyH.cons rfl (fun K hK => ?_) AllReadyH.nil
                            refine step_push elemI rfl (.tmp 108) (.tmp 113) rfl rfl (show X1.ownsRow w2.heap.size 3 1 (.slice (some ⟨g1, 0, none⟩) (0 + u.length) c1') (0 + u.length) (intsV u) from by rw [Nat.zero_add]; exact hown1) rfl (hxb) rfl (by omega) ?_
                            intro g4 c4 w4 hown4 hgrow4 hat4
                            rw [Nat.zero_add] at hown4
                            have hb4 : Below w2.heap.size w2 w4 := below_grown hq3 hgrow4 hq3.size (ownsRow_parts hown1).1
                            refine hK.out _ _ (SB.out _ hb4) (fun hHeld2 => ?_)
                            replace hHeld := hHeld2
                            clear hHeld2 hK K
                            try simp only [List.getElem_toArray, List.getElem_cons_succ, List.getElem_cons_zero, Act.put, List.setIfInBounds_toArray, List.set_cons_zero, List.set_cons_succ]
                            refine wpAnyH_ready (rs := [10]) (by kernel_rfl) (by simp) ?_
                            refine AllReadyH.cons rfl (fun K hK => ?_) AllReadyH.nil
                            go_simp
                            have hq9 := hb4.alloc hb4.size (.cells #[.slice (some ⟨g4, 0, none⟩) (u.length + 1) c4] 33 (0, 0))
                            refine hK.out _ _ (SB.out _ hq9) (fun hHeld2 => ?_)
                            replace hHeld := hHeld2
                            clear hHeld2 hK K
                            try simp only [List.getElem_toArray, List.getElem_cons_succ, List.getElem_cons_zero, Act.put, List.setIfInBounds_toArray, List.set_cons_zero, List.set_cons_succ]
                            refine wpAnyH_ready (rs := [11]) (by kernel_rfl) (by simp) ?_
                            refine AllReadyH.cons rfl (fun K hK => ?_) AllReadyH.nil
                            refine step_push elemII rfl (.tmp 105) (.tmp 115) rfl rfl ((ownsRow_keep hLyY.nxt.own hb4).alloc (.cells #[.slice (some ⟨g4, 0, none⟩) (u.length + 1) c4] 33 (0, 0))) rfl (heap_alloc_new _ _) rfl (by omega) ?_
                            intro g6 c6 w6 hown6 hgrow6 hat6
                            refine hK.out _ _ (SN.out _ _ hq9 hgrow6) (fun hHeld2 => ?_)
                            replace hHeld := hHeld2
                            clear hHeld2 hK K
                            try simp only [List.getElem_toArray, List.getElem_cons_succ, List.getElem_cons_zero, Act.put, List.setIfInBounds_toArray, List.set_cons_zero, List.set_cons_succ]
                            refine wpAnyH_take (i := 12) (v := ?v153) rfl (by kernel_rfl) (by kernel_rfl) (by kernel_rfl) (fun _ _ _ h => h) (Or.inl ⟨by rfl, ?hy153⟩) (by assumption) ?rest153
                            case hy153 => intro X hX; (try dsimp only at hX); go_simp <;> with_reducible rfl
                            try simp only [List.getElem_toArray, List.getElem_cons_succ, List.getElem_cons_zero, Act.put, List.setIfInBounds_toArray, List.set_cons_zero, List.set_cons_succ]
                            refine wpAnyH_done (by kernel_rfl) ?_ _
                            rotate_left
                            go_simp
                            have hq1 := hq0.alloc hq0.size (.cells #[.int .i64 x] 3 (0, 0))
                            refine hK.out _ _ (SB.out _ hq1) (fun hHeld2 => ?_)
                            replace hHeld := hHeld2
                            clear hHeld2 hK K
                            try simp only [List.getElem_toArray, List.getElem_cons_succ, List.getElem_cons_zero, Act.put, List.setIfInBounds_toArray, List.set_cons_zero, List.set_cons_succ]
                            refine wpAnyH_ready (rs := [1]) (by kernel_rfl) (by simp) ?_
                            refine AllReadyH.cons rfl (fun K hK => ?_) AllReadyH.nil
                            go_simp
                            have hq2 := hq1.alloc hq1.size (.cells #[] 3 (0, 0))
                            refine hK.out _ _ (SB.out _ hq2) (fun hHeld2 => ?_)
                            replace hHeld := hHeld2
                            clear hHeld2 hK K
                            try simp only [List.getElem_toArray, List.getElem_cons_succ, List.getElem_cons_zero, Act.put, List.setIfInBounds_toArray, List.set_cons_zero, List.set_cons_succ]
                            have hm9 := made_at (w2.drew.alloc (.cells #[.int .i64 x] 3 (0, 0))) (w2.heap.size + 1) w2.heap.size (by simp) (by simp)
                            refine wpAnyH_ready (rs := [3]) (by kernel_rfl) (by simp) ?_
                            refine AllReadyH.cons rfl (fun K hK => ?_) AllReadyH.nil
                            refine step_app elemI rfl (.tmp 106) (.tmp 107) rfl rfl (hm9) rfl (by simp [intsV]) ((LUI.out.keep hq2).news) (intsV_one _) (by omega) ?_
                            intro g1 c1' X1 hown1 hgrow1 hat1
                            have hq3 : Below w2.heap.size w2 X1 := below_grown hq2 hgrow1 hq2.size (Nat.le_succ _)
                            simp only [Nat.zero_add, List.nil_append] at hown1
                            refine hK.out _ _ (SB.out _ hq3) (fun hHeld2 => ?_)
                            replace hHeld := hHeld2
                            clear hHeld2 hK K
                            try simp only [List.getElem_toArray, List.getElem_cons_succ, List.getElem_cons_zero, Act.put, List.setIfInBounds_toArray, List.set_cons_zero, List.set_cons_succ]
                            have hxb := heap_kept hgrow1 (heap_old_at (w2.drew.alloc (.cells #[.int .i64 x] 3 (0, 0))) w2.heap.size (.cells #[] 3 (0, 0)) (heap_new_at w2.drew w2.heap.size (.cells #[.int .i64 x] 3 (0, 0)) rfl)) (by omega)
                            refine wpAnyH_ready (rs := [9]) (by kernel_rfl) (by simp) ?_
                            refine AllReadyH.cons rfl (fun K hK => ?_) AllReadyH.nil
                            refine step_push elemI rfl (.tmp 108) (.tmp 113) rfl rfl (show X1.ownsRow w2.heap.size 3 1 (.slice (some ⟨g1, 0, none⟩) (0 + u.length) c1') (0 + u.length) (intsV u) from by rw [Nat.zero_add]; exact hown1) rfl (hxb) rfl (by omega) ?_
                            intro g4 c4 w4 hown4 hgrow4 hat4
                            rw [Nat.zero_add] at hown4
                            have hb4 : Below w2.heap.size w2 w4 := below_grown hq3 hgrow4 hq3.size (ownsRow_parts hown1).1
                            refine hK.out _ _ (SB.out _ hb4) (fun hHeld2 => ?_)
                            replace hHeld := hHeld2
                            clear hHeld2 hK K
                            try simp only [List.getElem_toArray, List.getElem_cons_succ, List.getElem_cons_zero, Act.put, List.setIfInBounds_toArray, List.set_cons_zero, List.set_cons_succ]
                            refine wpAnyH_ready (rs := [10]) (by kernel_rfl) (by simp) ?_
                            refine AllReadyH.cons rfl (fun K hK => ?_) AllReadyH.nil
                            go_simp
                            have hq9 := hb4.alloc hb4.size (.cells #[.slice (some ⟨g4, 0, none⟩) (u.length + 1) c4] 33 (0, 0))
                            refine hK.out _ _ (SB.out _ hq9) (fun hHeld2 => ?_)
                            replace hHeld := hHeld2
                            clear hHeld2 hK K
                            try simp only [List.getElem_toArray, List.getElem_cons_succ, List.getElem_cons_zero, Act.put, List.setIfInBounds_toArray, List.set_cons_zero, List.set_cons_succ]
                            refine wpAnyH_ready (rs := [11]) (by kernel_rfl) (by simp) ?_
                            refine AllReadyH.cons rfl (fun K hK => ?_) AllReadyH.nil
                            refine step_push elemII rfl (.tmp 105) (.tmp 115) rfl rfl ((ownsRow_keep hLyY.nxt.own hb4).alloc (.cells #[.slice (some ⟨g4, 0, none⟩) (u.length + 1) c4] 33 (0, 0))) rfl (heap_alloc_new _ _) rfl (by omega) ?_
                            intro g6 c6 w6 hown6 hgrow6 hat6
                            refine hK.out _ _ (SN.out _ _ hq9 hgrow6) (fun hHeld2 => ?_)
                            replace hHeld := hHeld2
                            clear hHeld2 hK K
                            try simp only [List.getElem_toArray, List.getElem_cons_succ, List.getElem_cons_zero, Act.put, List.setIfInBounds_toArray, List.set_cons_zero, List.set_cons_succ]
                            refine wpAnyH_take (i := 12) (v := ?v154) rfl (by kernel_rfl) (by kernel_rfl) (by kernel_rfl) (fun _ _ _ h => h) (Or.inl ⟨by rfl, ?hy154⟩) (by assumption) ?rest154
                            case hy154 => intro X hX; (try dsimp only at hX); go_simp <;> with_reducible rfl
                            try simp only [List.getElem_toArray, List.getElem_cons_succ, List.getElem_cons_zero, Act.put, List.setIfInBounds_toArray, List.set_cons_zero, List.set_cons_succ]
                            refine wpAnyH_done (by kernel_rfl) ?_ _
                            all_goals
                              have o4 : OwnI w4 w2.heap.size (.slice (some ⟨g4, 0, none⟩) (u.length + 1) c4) (u ++ [x]) := ⟨g4, c4, by simp, by rw [List.length_append, List.length_singleton, intsV_append]; exact hown4, HWX.out⟩
                              have hLy6 := hLyY.pushNxt hb4 o4 hbelY.size hown6 hgrow6 hat6
                              have hbel6 := below_push (hbelY.trans (hb4.mono hbelY.size)) hgrow6 (ownsRow_parts hLyY.nxt.own).1 (Nat.le_refl _)
                              have hlq6 : nxt3.length + 1 = (nxt3 ++ [u ++ [x]]).length := by simp
                              have HLQ6 := Lib.hid hlq6
                              clear hown6 hgrow6 hat6 hown4 hlq6
                              go_wp2
                              go_roundw
                              case rel => exact ⟨j + 1, g6, c6, _, _, nxt3 ++ [u ++ [x]], by omega, by go_num, by rw [← HLQ6.out], hst6, by rw [← HLQ6.out]; omega, hLy6, hbel6⟩
                              case measure => simp [intOf]; omega
                    · obtain rfl : j = L.length := by omega
                      have hst4 : Kept (outL2 = outL ++ (layL.take (i + 1)).filter (backs l v) ∧ nxt3 = (layL.take (i + 1)).flatMap (extR l v (lettersL R))) := ⟨hnextO.out, by rw [hst3.out, List.take_length, HLe.out]; exact hnextN.out⟩
                      have hlo4 : (outL2).length ≤ outL.length + (i + 1) := by first | omega | (rw [← HLQ.out]; omega)
                      clear hst3
                      go_wp2
                      go_roundw
                      case rel => exact ⟨i + 1, go2, co2, gn3, cn3, vo2, vn3, Fo2, Fn3, outL2, nxt3, by omega, by go_num, by first | rfl | (rw [← HLQ.out]), rfl, hst4, hlo4, by omega, hLy3, hbel3⟩
                      case measure => simp [intOf]; omega
              · obtain rfl : i = layL.length := by omega
                have hst4 : Kept (outL2 = (belowW R (k + 1)).filter (isLoop l v) ∧ nxt = layerW l R v (k + 1)) := ⟨by rw [hst2.out.1, List.take_length]; exact hfinO.out, by rw [hst2.out.2, List.take_length]; exact hfinL.out⟩
                have hlo4 : outL2.length ≤ 38880 := by rw [hst4.out.1]; exact hfinN.out.1
                have hln4 : nxt.length ≤ 38880 := by rw [hst4.out.2]; exact hfinN.out.2
                have hdj4 : Kept (Disj Fo2 Fn ∧ ¬ Fo2 gL ∧ ¬ Fn gL) := ⟨hLy.on, hLy.lo, hLy.ln2⟩
                clear hst2 hfinO hfinL hfinN hlm
                go_wp2
                go_roundw
                case rel => exact ⟨k + 1, go2, co2, gn, cn, vo2, vn, Fo2, Fn, outL2, nxt, by omega, by go_num, rfl, rfl, hst4, hlo4, hln4, hLy.out, hLy.nxt, hdj4, hLy.lets, hbel⟩
                case measure => simp [intOf]; omega
          · obtain rfl : k = M + 1 := by omega
            have hres : Kept (loopW (R : Int) n v (M : Int) l = outL) := ⟨by rw [HRES.out, hst.out.1]⟩
            have tk : ¬ ((M + 1 : Nat) : Int) ≤ (M : Int) := by omega
            clear hst
            go_wp2
            go_ret
            rw [hres.out]
            exact ⟨_, rfl, hFo.ownL.base hB0.size, hB0.trans (hbel.mono hB0.size)⟩
end Go.Proofs.Ytpebiacdkfpnpaa
