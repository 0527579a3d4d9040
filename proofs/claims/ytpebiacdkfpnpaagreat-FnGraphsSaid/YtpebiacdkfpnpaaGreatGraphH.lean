/- Contracts of FormatGraph. Conditions: at most 2^20 edges. -/
import Derived.Test.YtpebiacdkfpnpaaGreatGraphD
import Derived.Test.YtpebiacdkfpnpaaGreatNumC
import Derived.Test.YtpebiacdkfpnpaaGreatWordG
import Derived.Test.YtpebiacdkfpnpaaGreatStrs
import Derived.Deep.RegionHeld3
namespace Go.Proofs.YtpebiacdkfpnpaaGreat
open Go.RowKit

theorem dig_le : ∀ k, (dig k).length ≤ k := by
  intro k
  induction k using Nat.strongRecOn with
  | ind k ih =>
    by_cases h : 0 < k
    · rw [dig_pos h, List.length_append]
      have := ih (k / 10) (by omega)
      simp only [List.length_cons, List.length_nil]; omega
    · obtain rfl : k = 0 := by omega
      rw [dig]; simp
theorem fmtI_small {n : Int} (h0 : 0 ≤ n) (h1 : n ≤ 40) : (fmtI n).length ≤ 41 := by
  unfold fmtI
  split
  · simp
  · rw [if_neg (by omega)]
    have := dig_le n.natAbs
    omega
/-- The text of an edge. -/
def edTxt (e : Ed) : List UInt8 := [32] ++ fmtI e.1 ++ [chr e.2.1] ++ fmtI e.2.2
def headG (r n : Int) : List UInt8 := fmtI r ++ [32] ++ fmtI n
/-- The text of a graph. -/
def fmtG (r n : Int) (l : List Ed) : List UInt8 := match isG r n l with
  | true => headG r n ++ l.flatMap edTxt
  | false => []
theorem fmtG_no {r n : Int} {l : List Ed} (h : isG r n l = false) : fmtG r n l = [] := by simp only [fmtG, h]
theorem fmtG_yes {r n : Int} {l : List Ed} (h : isG r n l = true) : fmtG r n l = headG r n ++ l.flatMap edTxt := by simp only [fmtG, h]
theorem isG_parts {r n : Int} {l : List Ed} (h : isG r n l = true) : (1 ≤ r ∧ r ≤ 3) ∧ (1 ≤ n ∧ n ≤ 40) ∧ l.length ≤ 120 ∧ edgesOk r n l = true := by
  simpa [isG] using h
theorem isG_edge {r n : Int} {l : List Ed} {k : Nat} (h : isG r n l = true) (hk : k < l.length) : 0 ≤ l[k].1 ∧ l[k].1 ≤ n - 1 ∧ 1 ≤ l[k].2.1 ∧ l[k].2.1 ≤ r ∧ 0 ≤ l[k].2.2 ∧ l[k].2.2 ≤ n - 1 := by
  obtain ⟨h1, h2, h3, h4⟩ := isG_parts h
  rw [edgesOk, List.all_eq_true] at h4
  have h5 := h4 k (by simpa using hk)
  rw [stepOk, getD_at hk, Bool.and_eq_true] at h5
  have h6 := h5.1
  have hw : wrap64 (n - 1) = n - 1 := by unfold wrap64; omega
  simp only [okE, inV, Bool.and_eq_true, decide_eq_true_eq, hw] at h6
  omega
theorem headG_len {r n : Int} (h1 : 1 ≤ r ∧ r ≤ 3) (h2 : 1 ≤ n ∧ n ≤ 40) : (headG r n).length ≤ 100 := by
  have a := fmtI_small (n := r) (by omega) (by omega)
  have b := fmtI_small (n := n) (by omega) (by omega)
  simp only [headG, List.length_append, List.length_cons, List.length_nil]; omega
theorem flat_take {l : List Ed} {k : Nat} (h : k < l.length) : (l.take (k + 1)).flatMap edTxt = (l.take k).flatMap edTxt ++ edTxt l[k] := by
  rw [take_get h, List.flatMap_append]; simp
set_option maxHeartbeats 3200000 in
theorem formatGraph_any (r n : Int) (v : Value) (l : List Ed) (w : World) (h : Edges w v l) (hn : l.length ≤ 1048576) :
    Calls Tryz.prog 11 #[graphV r n v] w (RetV w (.string ⟨(fmtG r n l).toArray⟩)) := by
  have hkeep := h
  obtain ⟨A, cap, rfl, hc, hr, hcell⟩ := h
  have H := Lib.hid hcell
  clear hcell
  obtain ⟨W, hW⟩ : ∃ W, W = (w.alloc (.cells #[.int .i64 r, .int .i64 n, .slice A l.length cap] 26 (0, 0))) := ⟨_, rfl⟩
  have hB : Below w.heap.size w W := by rw [hW]; exact (Below.refl _ _).alloc (Nat.le_refl _) _
  have bx1 : Box W w.heap.size (.cells #[.int .i64 r, .int .i64 n, .slice A l.length cap] 26 (0, 0)) := by rw [hW]; exact Box.new _ _
  obtain ⟨y, hy⟩ : ∃ y, y = isG r n l := ⟨_, rfl⟩
  have hq := isGraph_any r n _ l W (hkeep.keep hB) hn
  rw [← hy] at hq
  have HW := Lib.hid hW
  have BX := Lib.hid bx1
  have HQ := Lib.hid hq
  clear hW bx1 hq hkeep
  go_enter Tryz.func11, Tryz.ntmps11
  go_wp2_with fail
  rw [← HW.out]
  refine (HQ.out).mono ?_
  rintro e w1 ⟨rfl, hb1⟩
  have hB1 := hB.trans (hb1.mono hB.size)
  have BG := Lib.hid (BX.out.keep hb1)
  cases y with
  | false =>
    have hst : Kept (fmtG r n l = []) := ⟨fmtG_no hy.symm⟩
    clear hy
    go_wp2
    go_ret
    rw [hst.out]
    exact ⟨rfl, hB1⟩
  | true =>
  have hpt := isG_parts hy.symm
  have hed := fun k (hk : k < l.length) => isG_edge hy.symm hk
  have hl1 : (fmtI r).length + [(32 : UInt8)].length ≤ 9223372036854775807 := by have := fmtI_small (n := r) (by omega) (by omega); simp only [List.length_cons, List.length_nil]; omega
  have hl2 : (fmtI r ++ [32]).length + (fmtI n).length ≤ 9223372036854775807 := by have := fmtI_small (n := r) (by omega) (by omega); have := fmtI_small (n := n) (by omega) (by omega); simp only [List.length_append, List.length_cons, List.length_nil]; omega
  have hhl := headG_len hpt.1 hpt.2.1
  have hfr := fun W => formatInt_any r (by omega) (by omega) W
  have hfn := fun W => formatInt_any n (by omega) (by omega) W
  obtain ⟨u1, hu1⟩ : ∃ u, u = fmtI r ++ [32] := ⟨_, rfl⟩
  obtain ⟨u2, hu2⟩ : ∃ u, u = u1 ++ fmtI n := ⟨_, rfl⟩
  have HL1 := Lib.hid (add_to (P := Tryz.prog) hu1 hl1)
  have HL2 := Lib.hid (add_to (P := Tryz.prog) hu2 (by rw [hu1]; exact hl2))
  have HU : Kept (u2 = headG r n) := ⟨by rw [hu2, hu1, headG]⟩
  have HR := Lib.hid hfr
  have HN := Lib.hid hfn
  have HED := Lib.hid hed
  have HHL := Lib.hid hhl
  have HPT := Lib.hid hpt
  have hst : Kept (fmtG r n l = headG r n ++ l.flatMap edTxt) := ⟨fmtG_yes hy.symm⟩
  clear hy hl1 hl2 hu1 hu2 hfr hfn hed hhl hpt
  go_wp2
  refine wp_region_held_drew (S := fun X => Below w1.heap.size w1 X) (by kernel_rfl) ((Below.refl w1.heap.size w1).drew) (fun hHeld => ?_)
  refine wpAnyH_take (i := 0) (v := ?v1) rfl (by kernel_rfl) (by kernel_rfl) (by kernel_rfl) (fun _ _ _ h => h) (Or.inl ⟨by rfl, ?hy1⟩) (by assumption) ?rest1
  case hy1 => intro X hX; (try dsimp only at hX); go_simp <;> with_reducible rfl
  try simp only [List.getElem_toArray, List.getElem_cons_zero, Act.put, List.setIfInBounds_toArray, List.set_cons_zero, List.set_cons_succ]
  refine wpAnyH_take (i := 1) (v := ?v2) rfl (by kernel_rfl) (by kernel_rfl) (by kernel_rfl) (fun _ _ _ h => h) (Or.inl ⟨by rfl, ?hy2⟩) (by assumption) ?rest2
  case hy2 => intro X hX; (try dsimp only at hX); obtain ⟨q1, q2, q3⟩ := (BG.out.keep hX).cells; go_simp <;> with_reducible rfl
  try simp only [List.getElem_toArray, List.getElem_cons_succ, List.getElem_cons_zero, Act.put, List.setIfInBounds_toArray, List.set_cons_zero, List.set_cons_succ]
  refine wpAnyH_take (i := 4) (v := ?v3) rfl (by kernel_rfl) (by kernel_rfl) (by kernel_rfl) (fun _ _ _ h => h) (Or.inl ⟨by rfl, ?hy3⟩) (by assumption) ?rest3
  case hy3 => intro X hX; (try dsimp only at hX); go_simp <;> with_reducible rfl
  try simp only [List.getElem_toArray, List.getElem_cons_succ, List.getElem_cons_zero, Act.put, List.setIfInBounds_toArray, List.set_cons_zero, List.set_cons_succ]
  refine wpAnyH_take (i := 5) (v := ?v4) rfl (by kernel_rfl) (by kernel_rfl) (by kernel_rfl) (fun _ _ _ h => h) (Or.inl ⟨by rfl, ?hy4⟩) (by assumption) ?rest4
  case hy4 => intro X hX; (try dsimp only at hX); obtain ⟨q1, q2, q3⟩ := (BG.out.keep hX).cells; go_simp <;> with_reducible rfl
  try simp only [List.getElem_toArray, List.getElem_cons_succ, List.getElem_cons_zero, Act.put, List.setIfInBounds_toArray, List.set_cons_zero, List.set_cons_succ]
  refine wpAnyH_ready (rs := [2]) (by kernel_rfl) (by simp) ?_
  refine AllReadyH.cons rfl (fun K hK => ?_) AllReadyH.nil
  go_simp
  go_at_call 47
  refine (HR.out _).mono ?_
  rintro e w2 ⟨rfl, hb2⟩
  (try go_simp)
  refine hK.out _ _ (hHeld.trans (hb2.mono hHeld.size)) (fun hHeld2 => ?_)
  replace hHeld := hHeld2
  clear hHeld2 hK K
  try simp only [List.getElem_toArray, List.getElem_cons_succ, List.getElem_cons_zero, Act.put, List.setIfInBounds_toArray, List.set_cons_zero, List.set_cons_succ]
  refine wpAnyH_take (i := 3) (v := ?v5) rfl (by kernel_rfl) (by kernel_rfl) (by kernel_rfl) (fun _ _ _ h => h) (Or.inl ⟨by rfl, ?hy5⟩) (by assumption) ?rest5
  case hy5 => intro X hX; (try dsimp only at hX); have h1 := HL1.out X; go_simp <;> with_reducible rfl
  try simp only [List.getElem_toArray, List.getElem_cons_succ, List.getElem_cons_zero, Act.put, List.setIfInBounds_toArray, List.set_cons_zero, List.set_cons_succ]
  refine wpAnyH_ready (rs := [6]) (by kernel_rfl) (by simp) ?_
  refine AllReadyH.cons rfl (fun K hK => ?_) AllReadyH.nil
  go_simp
  go_at_call 47
  refine (HN.out _).mono ?_
  rintro e w3 ⟨rfl, hb2⟩
  (try go_simp)
  refine hK.out _ _ (hHeld.trans (hb2.mono hHeld.size)) (fun hHeld2 => ?_)
  replace hHeld := hHeld2
  clear hHeld2 hK K
  try simp only [List.getElem_toArray, List.getElem_cons_succ, List.getElem_cons_zero, Act.put, List.setIfInBounds_toArray, List.set_cons_zero, List.set_cons_succ]
  refine wpAnyH_take (i := 7) (v := ?v6) rfl (by kernel_rfl) (by kernel_rfl) (by kernel_rfl) (fun _ _ _ h => h) (Or.inl ⟨by rfl, ?hy6⟩) (by assumption) ?rest6
  case hy6 => intro X hX; (try dsimp only at hX); have h1 := HL2.out X; go_simp <;> with_reducible rfl
  try simp only [List.getElem_toArray, List.getElem_cons_succ, List.getElem_cons_zero, Act.put, List.setIfInBounds_toArray, List.set_cons_zero, List.set_cons_succ]
  refine wpAnyH_take (i := 8) (v := ?v7) rfl (by kernel_rfl) (by kernel_rfl) (by kernel_rfl) (fun _ _ _ h => h) (Or.inl ⟨by rfl, ?hy7⟩) (by assumption) ?rest7
  case hy7 => intro X hX; (try dsimp only at hX); go_simp <;> with_reducible rfl
  try simp only [List.getElem_toArray, List.getElem_cons_succ, List.getElem_cons_zero, Act.put, List.setIfInBounds_toArray, List.set_cons_zero, List.set_cons_succ]
  refine wpAnyH_done (by kernel_rfl) ?_ _
  have hBh := hB1.trans (hHeld.mono hB1.size)
  obtain ⟨w4, hw4⟩ : ∃ w4, w4 = w3 := ⟨_, rfl⟩
  rw [← hw4] at hHeld hBh ⊢
  clear hw4
  have hbox := BG.out.keep hHeld
  have BH := Lib.hid hbox
  obtain ⟨q1, q2, q3⟩ := hbox.cells
  clear hbox
  go_wp2
  go_loopw [3, 5, 20] (fun t _ i wr => ∃ (k : Nat) (s : List UInt8), k ≤ l.length ∧ i = .int .i64 k ∧ t = .string ⟨s.toArray⟩ ∧ Kept (s = headG r n ++ (l.take k).flatMap edTxt) ∧ s.length ≤ 100 + 100 * k ∧ Below w4.heap.size w4 wr) (fun _ _ i _ => l.length - (intOf i).toNat)
  case atStart => exact ⟨0, u2, by omega, rfl, rfl, ⟨by rw [HU.out]; simp⟩, by rw [HU.out]; have := HHL.out; omega, Below.refl _ _⟩
  case round =>
    obtain ⟨k, s, hk, rfl, rfl, hs, hsl, hbel⟩ := hrel
    have hBw := hBh.trans (hbel.mono hBh.size)
    by_cases hlt : k < l.length
    · obtain ⟨b, off, rfl, hb, hcell⟩ := H.out (by omega)
      obtain ⟨e1, e2, e3⟩ := hcell k hlt
      replace e1 := (hBw.cell (p := ⟨b, off + k * 3, none⟩) hb).trans e1
      replace e2 := (hBw.cell (p := ⟨b, off + k * 3 + 1, none⟩) hb).trans e2
      replace e3 := (hBw.cell (p := ⟨b, off + k * 3 + 2, none⟩) hb).trans e3
      have hkl : (k : Int) < (l.length : Int) := by omega
      have hkn : k ≤ 120 := by have := HPT.out.2.2.1; omega
      have hx := HED.out k hlt
      have hrn := HPT.out
      obtain ⟨f1, hf1⟩ : ∃ z, z = l[k].1 := ⟨_, rfl⟩
      obtain ⟨f2, hf2⟩ : ∃ z, z = l[k].2.1 := ⟨_, rfl⟩
      obtain ⟨f3, hf3⟩ : ∃ z, z = l[k].2.2 := ⟨_, rfl⟩
      have hnext0 : Kept (s ++ [32] ++ fmtI f1 ++ [chr f2] ++ fmtI f3 = headG r n ++ (l.take (k + 1)).flatMap edTxt) := ⟨by
        rw [flat_take hlt, hs.out, edTxt, ← hf1, ← hf2, ← hf3]; simp only [List.append_assoc]⟩
      rw [← hf1] at e1 hx
      rw [← hf2] at e2 hx
      rw [← hf3] at e3 hx
      have l1 := fmtI_small (n := f1) (by omega) (by omega)
      have l3 := fmtI_small (n := f3) (by omega) (by omega)
      obtain ⟨t1, ht1⟩ : ∃ t, t = s ++ [32] := ⟨_, rfl⟩
      obtain ⟨t2, ht2⟩ : ∃ t, t = t1 ++ fmtI f1 := ⟨_, rfl⟩
      obtain ⟨t3, ht3⟩ : ∃ t, t = t2 ++ [chr f2] := ⟨_, rfl⟩
      obtain ⟨t4, ht4⟩ : ∃ t, t = t3 ++ fmtI f3 := ⟨_, rfl⟩
      have b1 : t1.length = s.length + 1 := by rw [ht1]; simp
      have b2 : t2.length = t1.length + (fmtI f1).length := by rw [ht2]; simp
      have b3 : t3.length = t2.length + 1 := by rw [ht3]; simp
      have b4 : t4.length = t3.length + (fmtI f3).length := by rw [ht4]; simp
      have HA1 := Lib.hid (add_to (P := Tryz.prog) ht1 (by simp only [List.length_cons, List.length_nil]; omega))
      have HA2 := Lib.hid (add_to (P := Tryz.prog) ht2 (by omega))
      have HA3 := Lib.hid (add_to (P := Tryz.prog) ht3 (by simp only [List.length_cons, List.length_nil]; omega))
      have HA4 := Lib.hid (add_to (P := Tryz.prog) ht4 (by omega))
      have HSL := Lib.hid (show t4.length ≤ 100 + 100 * (k + 1) by omega)
      have hnext : Kept (t4 = headG r n ++ (l.take (k + 1)).flatMap edTxt) := ⟨by rw [ht4, ht3, ht2, ht1]; exact hnext0.out⟩
      have HF1 := Lib.hid (fun W => formatInt_any f1 (by omega) (by omega) W)
      have HF2 := Lib.hid (fun W => letterText_one f2 (by omega) W)
      have HF3 := Lib.hid (fun W => formatInt_any f3 (by omega) (by omega) W)
      obtain ⟨W1, hW1⟩ : ∃ W1, W1 = wr.alloc (.cells #[.int .i64 f1, .int .i64 f2, .int .i64 f3] 28 (0, 0)) := ⟨_, rfl⟩
      have hd1 : Below w4.heap.size w4 W1 := by rw [hW1]; exact hbel.alloc hbel.size _
      have be : Box W1 wr.heap.size (.cells #[.int .i64 f1, .int .i64 f2, .int .i64 f3] 28 (0, 0)) := by rw [hW1]; exact Box.new _ _
      obtain ⟨x1, x2, x3⟩ := (BH.out.keep hbel).cells
      have HW1 := Lib.hid hW1
      have BE := Lib.hid be
      clear hcell hf1 hf2 hf3 hx hrn l1 l3 hW1 be hsl hs ht1 ht2 ht3 ht4 b1 b2 b3 b4 hnext0
      go_wp2
      rw [← HW1.out]
      refine wp_region_held_drew (S := fun X => Below W1.heap.size W1 X) (by kernel_rfl) ((Below.refl W1.heap.size W1).drew) (fun hHeld => ?_)
      refine wpAnyH_take (i := 0) (v := ?v8) rfl (by kernel_rfl) (by kernel_rfl) (by kernel_rfl) (fun _ _ _ h => h) (Or.inl ⟨by rfl, ?hy8⟩) (by assumption) ?rest8
      case hy8 => intro X hX; (try dsimp only at hX); go_simp <;> with_reducible rfl
      try simp only [List.getElem_toArray, List.getElem_cons_zero, Act.put, List.setIfInBounds_toArray, List.set_cons_zero, List.set_cons_succ]
      refine wpAnyH_take (i := 2) (v := ?v9) rfl (by kernel_rfl) (by kernel_rfl) (by kernel_rfl) (fun _ _ _ h => h) (Or.inl ⟨by rfl, ?hy9⟩) (by assumption) ?rest9
      case hy9 => intro X hX; (try dsimp only at hX); go_simp <;> with_reducible rfl
      try simp only [List.getElem_toArray, List.getElem_cons_succ, List.getElem_cons_zero, Act.put, List.setIfInBounds_toArray, List.set_cons_zero, List.set_cons_succ]
      refine wpAnyH_take (i := 3) (v := ?v10) rfl (by kernel_rfl) (by kernel_rfl) (by kernel_rfl) (fun _ _ _ h => h) (Or.inl ⟨by rfl, ?hy10⟩) (by assumption) ?rest10
      case hy10 => intro X hX; (try dsimp only at hX); obtain ⟨p1, p2, p3⟩ := (BE.out.keep hX).cells; go_simp <;> with_reducible rfl
      try simp only [List.getElem_toArray, List.getElem_cons_succ, List.getElem_cons_zero, Act.put, List.setIfInBounds_toArray, List.set_cons_zero, List.set_cons_succ]
      refine wpAnyH_take (i := 6) (v := ?v11) rfl (by kernel_rfl) (by kernel_rfl) (by kernel_rfl) (fun _ _ _ h => h) (Or.inl ⟨by rfl, ?hy11⟩) (by assumption) ?rest11
      case hy11 => intro X hX; (try dsimp only at hX); go_simp <;> with_reducible rfl
      try simp only [List.getElem_toArray, List.getElem_cons_succ, List.getElem_cons_zero, Act.put, List.setIfInBounds_toArray, List.set_cons_zero, List.set_cons_succ]
      refine wpAnyH_take (i := 7) (v := ?v12) rfl (by kernel_rfl) (by kernel_rfl) (by kernel_rfl) (fun _ _ _ h => h) (Or.inl ⟨by rfl, ?hy12⟩) (by assumption) ?rest12
      case hy12 => intro X hX; (try dsimp only at hX); obtain ⟨p1, p2, p3⟩ := (BE.out.keep hX).cells; go_simp <;> with_reducible rfl
      try simp only [List.getElem_toArray, List.getElem_cons_succ, List.getElem_cons_zero, Act.put, List.setIfInBounds_toArray, List.set_cons_zero, List.set_cons_succ]
      refine wpAnyH_take (i := 10) (v := ?v13) rfl (by kernel_rfl) (by kernel_rfl) (by kernel_rfl) (fun _ _ _ h => h) (Or.inl ⟨by rfl, ?hy13⟩) (by assumption) ?rest13
      case hy13 => intro X hX; (try dsimp only at hX); go_simp <;> with_reducible rfl
      try simp only [List.getElem_toArray, List.getElem_cons_succ, List.getElem_cons_zero, Act.put, List.setIfInBounds_toArray, List.set_cons_zero, List.set_cons_succ]
      refine wpAnyH_take (i := 11) (v := ?v14) rfl (by kernel_rfl) (by kernel_rfl) (by kernel_rfl) (fun _ _ _ h => h) (Or.inl ⟨by rfl, ?hy14⟩) (by assumption) ?rest14
      case hy14 => intro X hX; (try dsimp only at hX); obtain ⟨p1, p2, p3⟩ := (BE.out.keep hX).cells; go_simp <;> with_reducible rfl
      try simp only [List.getElem_toArray, List.getElem_cons_succ, List.getElem_cons_zero, Act.put, List.setIfInBounds_toArray, List.set_cons_zero, List.set_cons_succ]
      refine wpAnyH_take (i := 1) (v := ?v15) rfl (by kernel_rfl) (by kernel_rfl) (by kernel_rfl) (fun _ _ _ h => h) (Or.inl ⟨by rfl, ?hy15⟩) (by assumption) ?rest15
      case hy15 => intro X hX; (try dsimp only at hX); have h1 := HA1.out X; go_simp <;> with_reducible rfl
      try simp only [List.getElem_toArray, List.getElem_cons_succ, List.getElem_cons_zero, Act.put, List.setIfInBounds_toArray, List.set_cons_zero, List.set_cons_succ]
      refine wpAnyH_ready (rs := [4]) (by kernel_rfl) (by simp) ?_
      refine AllReadyH.cons rfl (fun K hK => ?_) AllReadyH.nil
      go_simp
      go_at_call 47
      refine (HF1.out _).mono ?_
      rintro e w5 ⟨rfl, hb2⟩
      (try go_simp)
      refine hK.out _ _ (hHeld.trans (hb2.mono hHeld.size)) (fun hHeld2 => ?_)
      replace hHeld := hHeld2
      clear hHeld2 hK K
      try simp only [List.getElem_toArray, List.getElem_cons_succ, List.getElem_cons_zero, Act.put, List.setIfInBounds_toArray, List.set_cons_zero, List.set_cons_succ]
      refine wpAnyH_take (i := 5) (v := ?v16) rfl (by kernel_rfl) (by kernel_rfl) (by kernel_rfl) (fun _ _ _ h => h) (Or.inl ⟨by rfl, ?hy16⟩) (by assumption) ?rest16
      case hy16 => intro X hX; (try dsimp only at hX); have h1 := HA2.out X; go_simp <;> with_reducible rfl
      try simp only [List.getElem_toArray, List.getElem_cons_succ, List.getElem_cons_zero, Act.put, List.setIfInBounds_toArray, List.set_cons_zero, List.set_cons_succ]
      refine wpAnyH_ready (rs := [8]) (by kernel_rfl) (by simp) ?_
      refine AllReadyH.cons rfl (fun K hK => ?_) AllReadyH.nil
      go_simp
      go_at_call 48
      refine (HF2.out _).mono ?_
      rintro e w6 ⟨rfl, rfl⟩
      (try go_simp)
      refine hK.out _ _ (hHeld) (fun hHeld2 => ?_)
      replace hHeld := hHeld2
      clear hHeld2 hK K
      try simp only [List.getElem_toArray, List.getElem_cons_succ, List.getElem_cons_zero, Act.put, List.setIfInBounds_toArray, List.set_cons_zero, List.set_cons_succ]
      refine wpAnyH_take (i := 9) (v := ?v17) rfl (by kernel_rfl) (by kernel_rfl) (by kernel_rfl) (fun _ _ _ h => h) (Or.inl ⟨by rfl, ?hy17⟩) (by assumption) ?rest17
      case hy17 => intro X hX; (try dsimp only at hX); have h1 := HA3.out X; go_simp <;> with_reducible rfl
      try simp only [List.getElem_toArray, List.getElem_cons_succ, List.getElem_cons_zero, Act.put, List.setIfInBounds_toArray, List.set_cons_zero, List.set_cons_succ]
      refine wpAnyH_ready (rs := [12]) (by kernel_rfl) (by simp) ?_
      refine AllReadyH.cons rfl (fun K hK => ?_) AllReadyH.nil
      go_simp
      go_at_call 47
      refine (HF3.out _).mono ?_
      rintro e w7 ⟨rfl, hb2⟩
      (try go_simp)
      refine hK.out _ _ (hHeld.trans (hb2.mono hHeld.size)) (fun hHeld2 => ?_)
      replace hHeld := hHeld2
      clear hHeld2 hK K
      try simp only [List.getElem_toArray, List.getElem_cons_succ, List.getElem_cons_zero, Act.put, List.setIfInBounds_toArray, List.set_cons_zero, List.set_cons_succ]
      refine wpAnyH_take (i := 13) (v := ?v18) rfl (by kernel_rfl) (by kernel_rfl) (by kernel_rfl) (fun _ _ _ h => h) (Or.inl ⟨by rfl, ?hy18⟩) (by assumption) ?rest18
      case hy18 => intro X hX; (try dsimp only at hX); have h1 := HA4.out X; go_simp <;> with_reducible rfl
      try simp only [List.getElem_toArray, List.getElem_cons_succ, List.getElem_cons_zero, Act.put, List.setIfInBounds_toArray, List.set_cons_zero, List.set_cons_succ]
      refine wpAnyH_take (i := 14) (v := ?v19) rfl (by kernel_rfl) (by kernel_rfl) (by kernel_rfl) (fun _ _ _ h => h) (Or.inl ⟨by rfl, ?hy19⟩) (by assumption) ?rest19
      case hy19 => intro X hX; (try dsimp only at hX); go_simp <;> with_reducible rfl
      try simp only [List.getElem_toArray, List.getElem_cons_succ, List.getElem_cons_zero, Act.put, List.setIfInBounds_toArray, List.set_cons_zero, List.set_cons_succ]
      refine wpAnyH_done (by kernel_rfl) ?_ _
      go_wp2
      go_roundw
      case rel => exact ⟨k + 1, t4, by omega, by go_num, rfl, hnext, HSL.out, hd1.trans (hHeld.mono hd1.size)⟩
      case measure => simp [intOf]; omega
    · obtain rfl : k = l.length := by omega
      have hfin : Kept (fmtG r n l = s) := ⟨by rw [hst.out, hs.out, List.take_length]⟩
      obtain ⟨x1, x2, x3⟩ := (BH.out.keep hbel).cells
      go_wp2
      go_ret
      rw [hfin.out]
      exact ⟨rfl, hBw⟩
set_option maxHeartbeats 3200000 in
theorem formatGraphS_any (r n : Int) (v : Value) (l : List Ed) (w : World) (h : Edges w v l) (hn : l.length ≤ 1048576) :
    Calls Tryz.prog 13 #[graphV r n v] w (RetV w (.string ⟨(fmtG r n l).toArray⟩)) := by
  have hkeep := h
  obtain ⟨A, cap, rfl, hc, hr, hcell⟩ := h
  have H := Lib.hid hcell
  clear hcell
  obtain ⟨W, hW⟩ : ∃ W, W = (w.alloc (.cells #[.int .i64 r, .int .i64 n, .slice A l.length cap] 26 (0, 0))) := ⟨_, rfl⟩
  have hB : Below w.heap.size w W := by rw [hW]; exact (Below.refl _ _).alloc (Nat.le_refl _) _
  have bx1 : Box W w.heap.size (.cells #[.int .i64 r, .int .i64 n, .slice A l.length cap] 26 (0, 0)) := by rw [hW]; exact Box.new _ _
  obtain ⟨y, hy⟩ : ∃ y, y = isG r n l := ⟨_, rfl⟩
  have hq := isGraphS_any r n _ l W (hkeep.keep hB) hn
  rw [← hy] at hq
  have HW := Lib.hid hW
  have BX := Lib.hid bx1
  have HQ := Lib.hid hq
  clear hW bx1 hq hkeep
  go_enter Tryz.func13, Tryz.ntmps13
  go_wp2_with fail
  rw [← HW.out]
  refine (HQ.out).mono ?_
  rintro e w1 ⟨rfl, hb1⟩
  have hB1 := hB.trans (hb1.mono hB.size)
  have BG := Lib.hid (BX.out.keep hb1)
  cases y with
  | false =>
    have hst : Kept (fmtG r n l = []) := ⟨fmtG_no hy.symm⟩
    clear hy
    go_wp2
    go_ret
    rw [hst.out]
    exact ⟨rfl, hB1⟩
  | true =>
  have hpt := isG_parts hy.symm
  have hed := fun k (hk : k < l.length) => isG_edge hy.symm hk
  have hl1 : (fmtI r).length + [(32 : UInt8)].length ≤ 9223372036854775807 := by have := fmtI_small (n := r) (by omega) (by omega); simp only [List.length_cons, List.length_nil]; omega
  have hl2 : (fmtI r ++ [32]).length + (fmtI n).length ≤ 9223372036854775807 := by have := fmtI_small (n := r) (by omega) (by omega); have := fmtI_small (n := n) (by omega) (by omega); simp only [List.length_append, List.length_cons, List.length_nil]; omega
  have hhl := headG_len hpt.1 hpt.2.1
  have hfr := fun W => formatIntS_any r (by omega) (by omega) W
  have hfn := fun W => formatIntS_any n (by omega) (by omega) W
  obtain ⟨u1, hu1⟩ : ∃ u, u = fmtI r ++ [32] := ⟨_, rfl⟩
  obtain ⟨u2, hu2⟩ : ∃ u, u = u1 ++ fmtI n := ⟨_, rfl⟩
  have HL1 := Lib.hid (add_to (P := Tryz.prog) hu1 hl1)
  have HL2 := Lib.hid (add_to (P := Tryz.prog) hu2 (by rw [hu1]; exact hl2))
  have HU : Kept (u2 = headG r n) := ⟨by rw [hu2, hu1, headG]⟩
  have HR := Lib.hid hfr
  have HN := Lib.hid hfn
  have HED := Lib.hid hed
  have HHL := Lib.hid hhl
  have HPT := Lib.hid hpt
  have hst : Kept (fmtG r n l = headG r n ++ l.flatMap edTxt) := ⟨fmtG_yes hy.symm⟩
  clear hy hl1 hl2 hu1 hu2 hfr hfn hed hhl hpt
  go_wp2
  refine wp_region_held_drew (S := fun X => Below w1.heap.size w1 X) (by kernel_rfl) ((Below.refl w1.heap.size w1).drew) (fun hHeld => ?_)
  refine wpAnyH_take (i := 0) (v := ?v20) rfl (by kernel_rfl) (by kernel_rfl) (by kernel_rfl) (fun _ _ _ h => h) (Or.inl ⟨by rfl, ?hy20⟩) (by assumption) ?rest20
  case hy20 => intro X hX; (try dsimp only at hX); go_simp <;> with_reducible rfl
  try simp only [List.getElem_toArray, List.getElem_cons_zero, Act.put, List.setIfInBounds_toArray, List.set_cons_zero, List.set_cons_succ]
  refine wpAnyH_take (i := 1) (v := ?v21) rfl (by kernel_rfl) (by kernel_rfl) (by kernel_rfl) (fun _ _ _ h => h) (Or.inl ⟨by rfl, ?hy21⟩) (by assumption) ?rest21
  case hy21 => intro X hX; (try dsimp only at hX); obtain ⟨q1, q2, q3⟩ := (BG.out.keep hX).cells; go_simp <;> with_reducible rfl
  try simp only [List.getElem_toArray, List.getElem_cons_succ, List.getElem_cons_zero, Act.put, List.setIfInBounds_toArray, List.set_cons_zero, List.set_cons_succ]
  refine wpAnyH_take (i := 4) (v := ?v22) rfl (by kernel_rfl) (by kernel_rfl) (by kernel_rfl) (fun _ _ _ h => h) (Or.inl ⟨by rfl, ?hy22⟩) (by assumption) ?rest22
  case hy22 => intro X hX; (try dsimp only at hX); go_simp <;> with_reducible rfl
  try simp only [List.getElem_toArray, List.getElem_cons_succ, List.getElem_cons_zero, Act.put, List.setIfInBounds_toArray, List.set_cons_zero, List.set_cons_succ]
  refine wpAnyH_take (i := 5) (v := ?v23) rfl (by kernel_rfl) (by kernel_rfl) (by kernel_rfl) (fun _ _ _ h => h) (Or.inl ⟨by rfl, ?hy23⟩) (by assumption) ?rest23
  case hy23 => intro X hX; (try dsimp only at hX); obtain ⟨q1, q2, q3⟩ := (BG.out.keep hX).cells; go_simp <;> with_reducible rfl
  try simp only [List.getElem_toArray, List.getElem_cons_succ, List.getElem_cons_zero, Act.put, List.setIfInBounds_toArray, List.set_cons_zero, List.set_cons_succ]
  refine wpAnyH_ready (rs := [2]) (by kernel_rfl) (by simp) ?_
  refine AllReadyH.cons rfl (fun K hK => ?_) AllReadyH.nil
  go_simp
  go_at_call 52
  refine (HR.out _).mono ?_
  rintro e w2 ⟨rfl, hb2⟩
  (try go_simp)
  refine hK.out _ _ (hHeld.trans (hb2.mono hHeld.size)) (fun hHeld2 => ?_)
  replace hHeld := hHeld2
  clear hHeld2 hK K
  try simp only [List.getElem_toArray, List.getElem_cons_succ, List.getElem_cons_zero, Act.put, List.setIfInBounds_toArray, List.set_cons_zero, List.set_cons_succ]
  refine wpAnyH_take (i := 3) (v := ?v24) rfl (by kernel_rfl) (by kernel_rfl) (by kernel_rfl) (fun _ _ _ h => h) (Or.inl ⟨by rfl, ?hy24⟩) (by assumption) ?rest24
  case hy24 => intro X hX; (try dsimp only at hX); have h1 := HL1.out X; go_simp <;> with_reducible rfl
  try simp only [List.getElem_toArray, List.getElem_cons_succ, List.getElem_cons_zero, Act.put, List.setIfInBounds_toArray, List.set_cons_zero, List.set_cons_succ]
  refine wpAnyH_ready (rs := [6]) (by kernel_rfl) (by simp) ?_
  refine AllReadyH.cons rfl (fun K hK => ?_) AllReadyH.nil
  go_simp
  go_at_call 52
  refine (HN.out _).mono ?_
  rintro e w3 ⟨rfl, hb2⟩
  (try go_simp)
  refine hK.out _ _ (hHeld.trans (hb2.mono hHeld.size)) (fun hHeld2 => ?_)
  replace hHeld := hHeld2
  clear hHeld2 hK K
  try simp only [List.getElem_toArray, List.getElem_cons_succ, List.getElem_cons_zero, Act.put, List.setIfInBounds_toArray, List.set_cons_zero, List.set_cons_succ]
  refine wpAnyH_take (i := 7) (v := ?v25) rfl (by kernel_rfl) (by kernel_rfl) (by kernel_rfl) (fun _ _ _ h => h) (Or.inl ⟨by rfl, ?hy25⟩) (by assumption) ?rest25
  case hy25 => intro X hX; (try dsimp only at hX); have h1 := HL2.out X; go_simp <;> with_reducible rfl
  try simp only [List.getElem_toArray, List.getElem_cons_succ, List.getElem_cons_zero, Act.put, List.setIfInBounds_toArray, List.set_cons_zero, List.set_cons_succ]
  refine wpAnyH_take (i := 8) (v := ?v26) rfl (by kernel_rfl) (by kernel_rfl) (by kernel_rfl) (fun _ _ _ h => h) (Or.inl ⟨by rfl, ?hy26⟩) (by assumption) ?rest26
  case hy26 => intro X hX; (try dsimp only at hX); go_simp <;> with_reducible rfl
  try simp only [List.getElem_toArray, List.getElem_cons_succ, List.getElem_cons_zero, Act.put, List.setIfInBounds_toArray, List.set_cons_zero, List.set_cons_succ]
  refine wpAnyH_done (by kernel_rfl) ?_ _
  have hBh := hB1.trans (hHeld.mono hB1.size)
  obtain ⟨w4, hw4⟩ : ∃ w4, w4 = w3 := ⟨_, rfl⟩
  rw [← hw4] at hHeld hBh ⊢
  clear hw4
  have hbox := BG.out.keep hHeld
  have BH := Lib.hid hbox
  obtain ⟨q1, q2, q3⟩ := hbox.cells
  clear hbox
  go_wp2
  go_loopw [3, 4, 5] (fun t i _ wr => ∃ (k : Nat) (s : List UInt8), k ≤ l.length ∧ i = .int .i64 k ∧ t = .string ⟨s.toArray⟩ ∧ Kept (s = headG r n ++ (l.take k).flatMap edTxt) ∧ s.length ≤ 100 + 100 * k ∧ Below w4.heap.size w4 wr) (fun _ i _ _ => l.length - (intOf i).toNat)
  case atStart => exact ⟨0, u2, by omega, rfl, rfl, ⟨by rw [HU.out]; simp⟩, by rw [HU.out]; have := HHL.out; omega, Below.refl _ _⟩
  case round =>
    obtain ⟨k, s, hk, rfl, rfl, hs, hsl, hbel⟩ := hrel
    have hBw := hBh.trans (hbel.mono hBh.size)
    by_cases hlt : k < l.length
    · obtain ⟨b, off, rfl, hb, hcell⟩ := H.out (by omega)
      obtain ⟨e1, e2, e3⟩ := hcell k hlt
      replace e1 := (hBw.cell (p := ⟨b, off + k * 3, none⟩) hb).trans e1
      replace e2 := (hBw.cell (p := ⟨b, off + k * 3 + 1, none⟩) hb).trans e2
      replace e3 := (hBw.cell (p := ⟨b, off + k * 3 + 2, none⟩) hb).trans e3
      have hkl : (k : Int) < (l.length : Int) := by omega
      have hkn : k ≤ 120 := by have := HPT.out.2.2.1; omega
      have hx := HED.out k hlt
      have hrn := HPT.out
      obtain ⟨f1, hf1⟩ : ∃ z, z = l[k].1 := ⟨_, rfl⟩
      obtain ⟨f2, hf2⟩ : ∃ z, z = l[k].2.1 := ⟨_, rfl⟩
      obtain ⟨f3, hf3⟩ : ∃ z, z = l[k].2.2 := ⟨_, rfl⟩
      have hnext0 : Kept (s ++ [32] ++ fmtI f1 ++ [chr f2] ++ fmtI f3 = headG r n ++ (l.take (k + 1)).flatMap edTxt) := ⟨by
        rw [flat_take hlt, hs.out, edTxt, ← hf1, ← hf2, ← hf3]; simp only [List.append_assoc]⟩
      rw [← hf1] at e1 hx
      rw [← hf2] at e2 hx
      rw [← hf3] at e3 hx
      have l1 := fmtI_small (n := f1) (by omega) (by omega)
      have l3 := fmtI_small (n := f3) (by omega) (by omega)
      obtain ⟨t1, ht1⟩ : ∃ t, t = s ++ [32] := ⟨_, rfl⟩
      obtain ⟨t2, ht2⟩ : ∃ t, t = t1 ++ fmtI f1 := ⟨_, rfl⟩
      obtain ⟨t3, ht3⟩ : ∃ t, t = t2 ++ [chr f2] := ⟨_, rfl⟩
      obtain ⟨t4, ht4⟩ : ∃ t, t = t3 ++ fmtI f3 := ⟨_, rfl⟩
      have b1 : t1.length = s.length + 1 := by rw [ht1]; simp
      have b2 : t2.length = t1.length + (fmtI f1).length := by rw [ht2]; simp
      have b3 : t3.length = t2.length + 1 := by rw [ht3]; simp
      have b4 : t4.length = t3.length + (fmtI f3).length := by rw [ht4]; simp
      have HA1 := Lib.hid (add_to (P := Tryz.prog) ht1 (by simp only [List.length_cons, List.length_nil]; omega))
      have HA2 := Lib.hid (add_to (P := Tryz.prog) ht2 (by omega))
      have HA3 := Lib.hid (add_to (P := Tryz.prog) ht3 (by simp only [List.length_cons, List.length_nil]; omega))
      have HA4 := Lib.hid (add_to (P := Tryz.prog) ht4 (by omega))
      have HSL := Lib.hid (show t4.length ≤ 100 + 100 * (k + 1) by omega)
      have hnext : Kept (t4 = headG r n ++ (l.take (k + 1)).flatMap edTxt) := ⟨by rw [ht4, ht3, ht2, ht1]; exact hnext0.out⟩
      have HF1 := Lib.hid (fun W => formatIntS_any f1 (by omega) (by omega) W)
      have HF2 := Lib.hid (fun W => l2Char_one f2 (by omega) W)
      have HF3 := Lib.hid (fun W => formatIntS_any f3 (by omega) (by omega) W)
      obtain ⟨W1, hW1⟩ : ∃ W1, W1 = wr.alloc (.cells #[.int .i64 f1, .int .i64 f2, .int .i64 f3] 28 (0, 0)) := ⟨_, rfl⟩
      have hd1 : Below w4.heap.size w4 W1 := by rw [hW1]; exact hbel.alloc hbel.size _
      have be : Box W1 wr.heap.size (.cells #[.int .i64 f1, .int .i64 f2, .int .i64 f3] 28 (0, 0)) := by rw [hW1]; exact Box.new _ _
      obtain ⟨x1, x2, x3⟩ := (BH.out.keep hbel).cells
      have HW1 := Lib.hid hW1
      have BE := Lib.hid be
      clear hcell hf1 hf2 hf3 hx hrn l1 l3 hW1 be hsl hs ht1 ht2 ht3 ht4 b1 b2 b3 b4 hnext0
      go_wp2
      rw [← HW1.out]
      refine wp_region_held_drew (S := fun X => Below W1.heap.size W1 X) (by kernel_rfl) ((Below.refl W1.heap.size W1).drew) (fun hHeld => ?_)
      refine wpAnyH_take (i := 0) (v := ?v27) rfl (by kernel_rfl) (by kernel_rfl) (by kernel_rfl) (fun _ _ _ h => h) (Or.inl ⟨by rfl, ?hy27⟩) (by assumption) ?rest27
      case hy27 => intro X hX; (try dsimp only at hX); go_simp <;> with_reducible rfl
      try simp only [List.getElem_toArray, List.getElem_cons_zero, Act.put, List.setIfInBounds_toArray, List.set_cons_zero, List.set_cons_succ]
      refine wpAnyH_take (i := 2) (v := ?v28) rfl (by kernel_rfl) (by kernel_rfl) (by kernel_rfl) (fun _ _ _ h => h) (Or.inl ⟨by rfl, ?hy28⟩) (by assumption) ?rest28
      case hy28 => intro X hX; (try dsimp only at hX); go_simp <;> with_reducible rfl
      try simp only [List.getElem_toArray, List.getElem_cons_succ, List.getElem_cons_zero, Act.put, List.setIfInBounds_toArray, List.set_cons_zero, List.set_cons_succ]
      refine wpAnyH_take (i := 3) (v := ?v29) rfl (by kernel_rfl) (by kernel_rfl) (by kernel_rfl) (fun _ _ _ h => h) (Or.inl ⟨by rfl, ?hy29⟩) (by assumption) ?rest29
      case hy29 => intro X hX; (try dsimp only at hX); obtain ⟨p1, p2, p3⟩ := (BE.out.keep hX).cells; go_simp <;> with_reducible rfl
      try simp only [List.getElem_toArray, List.getElem_cons_succ, List.getElem_cons_zero, Act.put, List.setIfInBounds_toArray, List.set_cons_zero, List.set_cons_succ]
      refine wpAnyH_take (i := 6) (v := ?v30) rfl (by kernel_rfl) (by kernel_rfl) (by kernel_rfl) (fun _ _ _ h => h) (Or.inl ⟨by rfl, ?hy30⟩) (by assumption) ?rest30
      case hy30 => intro X hX; (try dsimp only at hX); go_simp <;> with_reducible rfl
      try simp only [List.getElem_toArray, List.getElem_cons_succ, List.getElem_cons_zero, Act.put, List.setIfInBounds_toArray, List.set_cons_zero, List.set_cons_succ]
      refine wpAnyH_take (i := 7) (v := ?v31) rfl (by kernel_rfl) (by kernel_rfl) (by kernel_rfl) (fun _ _ _ h => h) (Or.inl ⟨by rfl, ?hy31⟩) (by assumption) ?rest31
      case hy31 => intro X hX; (try dsimp only at hX); obtain ⟨p1, p2, p3⟩ := (BE.out.keep hX).cells; go_simp <;> with_reducible rfl
      try simp only [List.getElem_toArray, List.getElem_cons_succ, List.getElem_cons_zero, Act.put, List.setIfInBounds_toArray, List.set_cons_zero, List.set_cons_succ]
      refine wpAnyH_take (i := 10) (v := ?v32) rfl (by kernel_rfl) (by kernel_rfl) (by kernel_rfl) (fun _ _ _ h => h) (Or.inl ⟨by rfl, ?hy32⟩) (by assumption) ?rest32
      case hy32 => intro X hX; (try dsimp only at hX); go_simp <;> with_reducible rfl
      try simp only [List.getElem_toArray, List.getElem_cons_succ, List.getElem_cons_zero, Act.put, List.setIfInBounds_toArray, List.set_cons_zero, List.set_cons_succ]
      refine wpAnyH_take (i := 11) (v := ?v33) rfl (by kernel_rfl) (by kernel_rfl) (by kernel_rfl) (fun _ _ _ h => h) (Or.inl ⟨by rfl, ?hy33⟩) (by assumption) ?rest33
      case hy33 => intro X hX; (try dsimp only at hX); obtain ⟨p1, p2, p3⟩ := (BE.out.keep hX).cells; go_simp <;> with_reducible rfl
      try simp only [List.getElem_toArray, List.getElem_cons_succ, List.getElem_cons_zero, Act.put, List.setIfInBounds_toArray, List.set_cons_zero, List.set_cons_succ]
      refine wpAnyH_take (i := 1) (v := ?v34) rfl (by kernel_rfl) (by kernel_rfl) (by kernel_rfl) (fun _ _ _ h => h) (Or.inl ⟨by rfl, ?hy34⟩) (by assumption) ?rest34
      case hy34 => intro X hX; (try dsimp only at hX); have h1 := HA1.out X; go_simp <;> with_reducible rfl
      try simp only [List.getElem_toArray, List.getElem_cons_succ, List.getElem_cons_zero, Act.put, List.setIfInBounds_toArray, List.set_cons_zero, List.set_cons_succ]
      refine wpAnyH_ready (rs := [4]) (by kernel_rfl) (by simp) ?_
      refine AllReadyH.cons rfl (fun K hK => ?_) AllReadyH.nil
      go_simp
      go_at_call 52
      refine (HF1.out _).mono ?_
      rintro e w5 ⟨rfl, hb2⟩
      (try go_simp)
      refine hK.out _ _ (hHeld.trans (hb2.mono hHeld.size)) (fun hHeld2 => ?_)
      replace hHeld := hHeld2
      clear hHeld2 hK K
      try simp only [List.getElem_toArray, List.getElem_cons_succ, List.getElem_cons_zero, Act.put, List.setIfInBounds_toArray, List.set_cons_zero, List.set_cons_succ]
      refine wpAnyH_take (i := 5) (v := ?v35) rfl (by kernel_rfl) (by kernel_rfl) (by kernel_rfl) (fun _ _ _ h => h) (Or.inl ⟨by rfl, ?hy35⟩) (by assumption) ?rest35
      case hy35 => intro X hX; (try dsimp only at hX); have h1 := HA2.out X; go_simp <;> with_reducible rfl
      try simp only [List.getElem_toArray, List.getElem_cons_succ, List.getElem_cons_zero, Act.put, List.setIfInBounds_toArray, List.set_cons_zero, List.set_cons_succ]
      refine wpAnyH_ready (rs := [8]) (by kernel_rfl) (by simp) ?_
      refine AllReadyH.cons rfl (fun K hK => ?_) AllReadyH.nil
      go_simp
      go_at_call 53
      refine (HF2.out _).mono ?_
      rintro e w6 ⟨rfl, hb2⟩
      (try go_simp)
      refine hK.out _ _ (hHeld.trans (hb2.mono hHeld.size)) (fun hHeld2 => ?_)
      replace hHeld := hHeld2
      clear hHeld2 hK K
      try simp only [List.getElem_toArray, List.getElem_cons_succ, List.getElem_cons_zero, Act.put, List.setIfInBounds_toArray, List.set_cons_zero, List.set_cons_succ]
      refine wpAnyH_take (i := 9) (v := ?v36) rfl (by kernel_rfl) (by kernel_rfl) (by kernel_rfl) (fun _ _ _ h => h) (Or.inl ⟨by rfl, ?hy36⟩) (by assumption) ?rest36
      case hy36 => intro X hX; (try dsimp only at hX); have h1 := HA3.out X; go_simp <;> with_reducible rfl
      try simp only [List.getElem_toArray, List.getElem_cons_succ, List.getElem_cons_zero, Act.put, List.setIfInBounds_toArray, List.set_cons_zero, List.set_cons_succ]
      refine wpAnyH_ready (rs := [12]) (by kernel_rfl) (by simp) ?_
      refine AllReadyH.cons rfl (fun K hK => ?_) AllReadyH.nil
      go_simp
      go_at_call 52
      refine (HF3.out _).mono ?_
      rintro e w7 ⟨rfl, hb2⟩
      (try go_simp)
      refine hK.out _ _ (hHeld.trans (hb2.mono hHeld.size)) (fun hHeld2 => ?_)
      replace hHeld := hHeld2
      clear hHeld2 hK K
      try simp only [List.getElem_toArray, List.getElem_cons_succ, List.getElem_cons_zero, Act.put, List.setIfInBounds_toArray, List.set_cons_zero, List.set_cons_succ]
      refine wpAnyH_take (i := 13) (v := ?v37) rfl (by kernel_rfl) (by kernel_rfl) (by kernel_rfl) (fun _ _ _ h => h) (Or.inl ⟨by rfl, ?hy37⟩) (by assumption) ?rest37
      case hy37 => intro X hX; (try dsimp only at hX); have h1 := HA4.out X; go_simp <;> with_reducible rfl
      try simp only [List.getElem_toArray, List.getElem_cons_succ, List.getElem_cons_zero, Act.put, List.setIfInBounds_toArray, List.set_cons_zero, List.set_cons_succ]
      refine wpAnyH_take (i := 14) (v := ?v38) rfl (by kernel_rfl) (by kernel_rfl) (by kernel_rfl) (fun _ _ _ h => h) (Or.inl ⟨by rfl, ?hy38⟩) (by assumption) ?rest38
      case hy38 => intro X hX; (try dsimp only at hX); go_simp <;> with_reducible rfl
      try simp only [List.getElem_toArray, List.getElem_cons_succ, List.getElem_cons_zero, Act.put, List.setIfInBounds_toArray, List.set_cons_zero, List.set_cons_succ]
      refine wpAnyH_done (by kernel_rfl) ?_ _
      go_wp2
      go_roundw
      case rel => exact ⟨k + 1, t4, by omega, by go_num, rfl, hnext, HSL.out, hd1.trans (hHeld.mono hd1.size)⟩
      case measure => simp [intOf]; omega
    · obtain rfl : k = l.length := by omega
      have hfin : Kept (fmtG r n l = s) := ⟨by rw [hst.out, hs.out, List.take_length]⟩
      obtain ⟨x1, x2, x3⟩ := (BH.out.keep hbel).cells
      go_wp2
      go_ret
      rw [hfin.out]
      exact ⟨rfl, hBw⟩
end Go.Proofs.YtpebiacdkfpnpaaGreat
