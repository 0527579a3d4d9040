/- Contract of the reference's StepsFrom. Conditions: at most 2^20 edges, no letter the least int. Contract of the program's StepsFrom. Conditions: at most 2^20 edges, no letter the least int. -/
import Derived.Test.YtpebiacdkfpnpaaGreatBoxes
import Derived.Test.YtpebiacdkfpnpaaGreatSteps
import Derived.Test.YtpebiacdkfpnpaaGreatAdds
import Derived.Test.YtpebiacdkfpnpaaGreatSorts
namespace Go.Proofs.YtpebiacdkfpnpaaGreat
open Go.RowKit

/-- The negative of a letter, as the machine takes it. -/
def negL (x : Int) : Int := wrap64 (-x)
theorem hit_bwd {l : List Ed} {k : Nat} {v x : Int} (hk : k < l.length) (hx : I64 x) (h : x < 0) (hL : l[k].2.1 ≠ -9223372036854775808) (h1 : l[k].2.1 = negL x) (h2 : l[k].2.2 = v) : hitE v x l[k] = some l[k].1 := by
  refine hitE_bwd h ?_ h2
  unfold negL wrap64 at h1; unfold I64 at hx; omega
theorem hit_other {l : List Ed} {k : Nat} {v x : Int} (hk : k < l.length) (hx : I64 x) (hE : I64E l[k]) (h1 : ¬ (0 < x ∧ l[k].2.1 = x ∧ l[k].1 = v)) (h2 : ¬ (x < 0 ∧ l[k].2.1 = negL x ∧ l[k].2.2 = v)) : hitE v x l[k] = none := by
  refine hitE_none h1 fun ⟨a, b, c⟩ => h2 ⟨a, ?_, c⟩
  have := hE.2.1
  unfold negL wrap64; unfold I64 at hx this; omega
set_option maxHeartbeats 1600000 in
theorem stepsFromS_any (r n v x : Int) (V : Value) (l : List Ed) (w : World) (h : Edges w V l) (hn : l.length ≤ 1048576) (hx : I64 x) (hL : ∀ e ∈ l, e.2.1 ≠ -9223372036854775808) :
    Calls Tryz.prog 19 #[graphV r n V, .int .i64 v, .int .i64 x] w (RetI w (stepsL l v x)) := by
  obtain ⟨A, cap, rfl, hc, hrE, hcell⟩ := h
  have H := Lib.hid hcell
  obtain ⟨W, hW⟩ : ∃ W, W = w.alloc (.cells #[.int .i64 r, .int .i64 n, .slice A l.length cap] 26 (0, 0)) := ⟨_, rfl⟩
  have hB : Below w.heap.size w W := by rw [hW]; exact (Below.refl _ _).alloc (Nat.le_refl _) _
  have bx1 : Box W w.heap.size (.cells #[.int .i64 r, .int .i64 n, .slice A l.length cap] 26 (0, 0)) := by rw [hW]; exact Box.new _ _
  have hsz : W.heap.size = w.heap.size + 1 := by rw [hW]; simp
  have hnil : OwnI (W.alloc (.cells #[] 3 (0, 0))) w.heap.size (.slice (some ⟨w.heap.size + 1, 0, none⟩) 0 0) [] := by
    refine ⟨_, _, rfl, ?_, by simp⟩
    have hm : ∀ X : World, w.heap.size ≤ X.heap.size → (X.alloc (.cells #[] 3 (0, 0))).ownsRow w.heap.size 3 1 (.slice (some ⟨X.heap.size, 0, none⟩) 0 0) 0 (intsV []) := fun X hX => World.ownsRow_made _ _ _ hX (by decide) rfl
    have := hm W hB.size
    rw [hsz] at this; exact this
  have hbn : Below W.heap.size W (W.alloc (.cells #[] 3 (0, 0))) := (Below.refl _ _).alloc (Nat.le_refl _) _
  rw [hW] at hnil hbn
  obtain ⟨nx, hnx⟩ : ∃ nx, nx = negL x := ⟨_, rfl⟩
  have hwn : wrap64 (-x) = nx := by rw [hnx]; rfl
  have HW := Lib.hid hW
  have BX := Lib.hid bx1
  have HE := Lib.hid hrE
  have HL := Lib.hid hL
  have HNX := Lib.hid hnx
  have HX := Lib.hid hx
  clear hW bx1 hcell hrE hL hnx hx hsz
  go_enter Tryz.func19, Tryz.ntmps19
  go_wp2
  go_loopw [7, 8, 9] (fun out i _ wr => ∃ k : Nat, k ≤ l.length ∧ i = .int .i64 k ∧ OwnI wr w.heap.size out (stepsL (l.take k) v x) ∧ Below W.heap.size W wr)
    (fun _ i _ _ => l.length - (intOf i).toNat)
  case atStart => exact ⟨0, by omega, rfl, hnil, by rw [HW.out]; exact hbn⟩
  case round =>
    obtain ⟨k, hk, rfl, hown, hbx⟩ := hrel
    have hBx := hB.trans (hbx.mono hB.size)
    obtain ⟨q1, q2, q3⟩ := (BX.out.keep hbx).cells
    by_cases hkl : k < l.length
    · obtain ⟨b0, off, rfl, hb, hcell⟩ := H.out (by omega)
      obtain ⟨e1, e2, e3⟩ := hcell k hkl
      replace e1 := (hBx.cell (p := ⟨b0, off + k * 3, none⟩) hb).trans e1
      replace e2 := (hBx.cell (p := ⟨b0, off + k * 3 + 1, none⟩) hb).trans e2
      replace e3 := (hBx.cell (p := ⟨b0, off + k * 3 + 2, none⟩) hb).trans e3
      have heI := HE.out _ (List.getElem_mem hkl)
      have heL := HL.out _ (List.getElem_mem hkl)
      have htk := stepsL_take (v := v) (x := x) hkl
      have hol : (stepsL (l.take k) v x).length ≤ 1048576 := by have := stepsL_len (l.take k) v x; rw [List.length_take] at this; omega
      have hfw : 0 < x → l[k].2.1 = x → l[k].1 = v → stepsL (l.take (k + 1)) v x = addI (stepsL (l.take k) v x) l[k].2.2 := fun a b c => htk.1 _ (hitE_fwd a b c)
      have hbw : x < 0 → l[k].2.1 = nx → l[k].2.2 = v → stepsL (l.take (k + 1)) v x = addI (stepsL (l.take k) v x) l[k].1 := fun a b c => htk.1 _ (hit_bwd hkl HX.out a heL (by rw [← HNX.out]; exact b) c)
      have hno : ¬ (0 < x ∧ l[k].2.1 = x ∧ l[k].1 = v) → ¬ (x < 0 ∧ l[k].2.1 = nx ∧ l[k].2.2 = v) → stepsL (l.take (k + 1)) v x = stepsL (l.take k) v x := fun a b => htk.2 (hit_other hkl HX.out heI a (by rw [← HNX.out]; exact b))
      obtain ⟨f, hf⟩ : ∃ z, z = l[k].1 := ⟨_, rfl⟩
      obtain ⟨a, ha⟩ : ∃ z, z = l[k].2.1 := ⟨_, rfl⟩
      obtain ⟨t, ht⟩ : ∃ z, z = l[k].2.2 := ⟨_, rfl⟩
      have hfI : I64 f := by rw [hf]; exact heI.1
      have htI : I64 t := by rw [ht]; exact heI.2.2
      rw [← hf] at e1 hfw hbw hno
      rw [← ha] at e2 hfw hbw hno
      rw [← ht] at e3 hfw hbw hno
      obtain ⟨o, ho⟩ : ∃ o, o = stepsL (l.take k) v x := ⟨_, rfl⟩
      rw [← ho] at hown hol hfw hbw hno
      have HF := Lib.hid hfw
      have HBW := Lib.hid hbw
      have HN := Lib.hid hno
      obtain ⟨Wa, hWa⟩ : ∃ Wa, Wa = wr.alloc (.cells #[.int .i64 f, .int .i64 a, .int .i64 t] 28 (0, 0)) := ⟨_, rfl⟩
      have hwa : Below wr.heap.size wr Wa := by rw [hWa]; exact (Below.refl _ _).alloc (Nat.le_refl _) _
      have hba : Below W.heap.size W Wa := by rw [hWa]; exact hbx.alloc hbx.size _
      have hoa := hown.keep hwa
      have be : Box Wa wr.heap.size (.cells #[.int .i64 f, .int .i64 a, .int .i64 t] 28 (0, 0)) := by rw [hWa]; exact Box.new _ _
      have HWa := Lib.hid hWa
      have BE := Lib.hid be
      have hszB : w.heap.size ≤ Wa.heap.size := Nat.le_trans hB.size hba.size
      have hjI : (k : Int) < (l.length : Int) := by omega
      have hoa2 := hoa
      have hba2 := hba
      rw [hWa] at hoa2 hba2
      clear hcell heI heL htk hf ha ht hfw hbw hno ho hWa be
      by_cases p1 : 0 < x
      · have p2 : ¬ x < 0 := by omega
        by_cases m1 : a = x
        · have t1 : (a == x) = true := by simp [m1]
          by_cases m2 : f = v
          · have t2 : (f == v) = true := by simp [m2]
            have hst : Kept (stepsL (l.take (k + 1)) v x = addI o t) := ⟨HF.out p1 m1 m2⟩
            clear m1 m2
            go_wp2_with fail
            rw [← HWa.out]
            refine (l4Add_any _ o t _ hoa.ints htI hol).mono ?_
            rintro e v4 ⟨vb, rfl, ob, hv4⟩
            have hv6 := hba.trans (hv4.mono hba.size)
            obtain ⟨r1, r2, r3⟩ := (BE.out.keep hv4).cells
            go_wp2
            go_roundw
            case rel => exact ⟨k + 1, by omega, by go_num, by rw [hst.out]; exact ob.base hszB, hv6⟩
            case measure => simp [intOf]; omega
          · have t2 : (f == v) = false := by simp [m2]
            have hst : Kept (stepsL (l.take (k + 1)) v x = o) := ⟨HN.out (fun h => m2 h.2.2) (fun h => p2 h.1)⟩
            clear m1 m2
            go_wp2
            go_roundw
            case rel => exact ⟨k + 1, by omega, by go_num, by rw [hst.out]; exact hoa2, hba2⟩
            case measure => simp [intOf]; omega
        · have t1 : (a == x) = false := by simp [m1]
          have hst : Kept (stepsL (l.take (k + 1)) v x = o) := ⟨HN.out (fun h => m1 h.2.1) (fun h => p2 h.1)⟩
          clear m1
          go_wp2
          go_roundw
          case rel => exact ⟨k + 1, by omega, by go_num, by rw [hst.out]; exact hoa2, hba2⟩
          case measure => simp [intOf]; omega
      · by_cases p2 : x < 0
        · by_cases m1 : a = nx
          · have t1 : (a == nx) = true := by simp [m1]
            by_cases m2 : t = v
            · have t2 : (t == v) = true := by simp [m2]
              have hst : Kept (stepsL (l.take (k + 1)) v x = addI o f) := ⟨HBW.out p2 m1 m2⟩
              clear m1 m2
              go_wp2_with fail
              rw [← HWa.out]
              refine (l4Add_any _ o f _ hoa.ints hfI hol).mono ?_
              rintro e v4 ⟨vb, rfl, ob, hv4⟩
              have hv6 := hba.trans (hv4.mono hba.size)
              go_wp2
              go_roundw
              case rel => exact ⟨k + 1, by omega, by go_num, by rw [hst.out]; exact ob.base hszB, hv6⟩
              case measure => simp [intOf]; omega
            · have t2 : (t == v) = false := by simp [m2]
              have hst : Kept (stepsL (l.take (k + 1)) v x = o) := ⟨HN.out (fun h => p1 h.1) (fun h => m2 h.2.2)⟩
              clear m1 m2
              go_wp2
              go_roundw
              case rel => exact ⟨k + 1, by omega, by go_num, by rw [hst.out]; exact hoa2, hba2⟩
              case measure => simp [intOf]; omega
          · have t1 : (a == nx) = false := by simp [m1]
            have hst : Kept (stepsL (l.take (k + 1)) v x = o) := ⟨HN.out (fun h => p1 h.1) (fun h => m1 h.2.1)⟩
            clear m1
            go_wp2
            go_roundw
            case rel => exact ⟨k + 1, by omega, by go_num, by rw [hst.out]; exact hoa2, hba2⟩
            case measure => simp [intOf]; omega
        · have hst : Kept (stepsL (l.take (k + 1)) v x = o) := ⟨HN.out (fun h => p1 h.1) (fun h => p2 h.1)⟩
          go_wp2
          go_roundw
          case rel => exact ⟨k + 1, by omega, by go_num, by rw [hst.out]; exact hoa2, hba2⟩
          case measure => simp [intOf]; omega
    · obtain rfl : k = l.length := by omega
      rw [List.take_length] at hown
      go_wp2
      go_ret
      exact ⟨_, rfl, hown, hBx⟩

theorem steps_sorted (l : List Ed) (v x : Int) : Lib.compact (sortL (hits l v x)) = stepsL l v x := stepsL_of compact_sort.1 compact_sort.2
set_option maxHeartbeats 1600000 in
theorem stepsFrom_any (r n v x : Int) (V : Value) (l : List Ed) (w : World) (h : Edges w V l) (hn : l.length ≤ 1048576) (hx : I64 x) (hL : ∀ e ∈ l, e.2.1 ≠ -9223372036854775808) :
    Calls Tryz.prog 17 #[graphV r n V, .int .i64 v, .int .i64 x] w (RetI w (stepsL l v x)) := by
  obtain ⟨A, cap, rfl, hc, hrE, hcell⟩ := h
  have H := Lib.hid hcell
  obtain ⟨W, hW⟩ : ∃ W, W = w.alloc (.cells #[.int .i64 r, .int .i64 n, .slice A l.length cap] 26 (0, 0)) := ⟨_, rfl⟩
  have hB : Below w.heap.size w W := by rw [hW]; exact (Below.refl _ _).alloc (Nat.le_refl _) _
  have bx1 : Box W w.heap.size (.cells #[.int .i64 r, .int .i64 n, .slice A l.length cap] 26 (0, 0)) := by rw [hW]; exact Box.new _ _
  have hsz : W.heap.size = w.heap.size + 1 := by rw [hW]; simp
  have hnil : (W.alloc (.cells #[] 3 (0, 0))).ownsRow W.heap.size 3 1 (.slice (some ⟨w.heap.size + 1, 0, none⟩) 0 0) 0 (intsV []) := by
    have hm : ∀ X : World, W.heap.size ≤ X.heap.size → (X.alloc (.cells #[] 3 (0, 0))).ownsRow W.heap.size 3 1 (.slice (some ⟨X.heap.size, 0, none⟩) 0 0) 0 (intsV []) := fun X hX => World.ownsRow_made _ _ _ hX (by decide) rfl
    have := hm W (Nat.le_refl _)
    rw [hsz] at this ⊢; exact this
  have hbn : Below W.heap.size W (W.alloc (.cells #[] 3 (0, 0))) := (Below.refl _ _).alloc (Nat.le_refl _) _
  obtain ⟨nx, hnx⟩ : ∃ nx, nx = negL x := ⟨_, rfl⟩
  have hwn : wrap64 (-x) = nx := by rw [hnx]; rfl
  obtain ⟨W1, hW1⟩ : ∃ W1, W1 = W.alloc (.cells #[] 3 (0, 0)) := ⟨_, rfl⟩
  have hW2 := hW1
  rw [hW] at hW2
  rw [← hW1] at hnil hbn
  have HW1 := Lib.hid hW2
  have BX := Lib.hid bx1
  have HE := Lib.hid hrE
  have HL := Lib.hid hL
  have HNX := Lib.hid hnx
  have HX := Lib.hid hx
  clear hW bx1 hcell hrE hL hnx hx hsz hW1 hW2
  go_enter Tryz.func17, Tryz.ntmps17
  go_wp2
  rw [← HW1.out]
  obtain ⟨q1, q2, q3⟩ := (BX.out.keep hbn).cells
  go_wp2
  clear q1 q2 q3
  go_loopw [7, 9, 14, 18, 38] (fun out _ i _ _ wr => ∃ (k g cap2 : Nat) (o : List Int), k ≤ l.length ∧ i = .int .i64 k ∧ out = .slice (some ⟨g, 0, none⟩) o.length cap2 ∧ wr.ownsRow W.heap.size 3 1 (.slice (some ⟨g, 0, none⟩) o.length cap2) o.length (intsV o) ∧ o.length ≤ k ∧ Kept (o = hits (l.take k) v x) ∧ Below W.heap.size W wr)
    (fun _ _ i _ _ _ => l.length - (intOf i).toNat)
  case atStart => exact ⟨0, _, _, [], by omega, rfl, rfl, hnil, by simp, ⟨rfl⟩, hbn⟩
  case round =>
    obtain ⟨k, g, cap2, o, hk, rfl, rfl, hown, hol, hok, hbx⟩ := hrel
    have hBx := hB.trans (hbx.mono hB.size)
    have hg : W.heap.size ≤ g := (ownsRow_parts hown).1
    by_cases hkl : k < l.length
    · obtain ⟨b0, off, rfl, hb, hcell⟩ := H.out (by omega)
      obtain ⟨e1, e2, e3⟩ := hcell k hkl
      replace e1 := (hBx.cell (p := ⟨b0, off + k * 3, none⟩) hb).trans e1
      replace e2 := (hBx.cell (p := ⟨b0, off + k * 3 + 1, none⟩) hb).trans e2
      replace e3 := (hBx.cell (p := ⟨b0, off + k * 3 + 2, none⟩) hb).trans e3
      have heI := HE.out _ (List.getElem_mem hkl)
      have heL := HL.out _ (List.getElem_mem hkl)
      have htk := hits_take (v := v) (x := x) hkl
      rw [← hok.out] at htk
      have hfw : 0 < x → l[k].2.1 = x → l[k].1 = v → hits (l.take (k + 1)) v x = o ++ [l[k].2.2] := fun a b c => by rw [htk, hitE_fwd a b c]; rfl
      have hbw : x < 0 → l[k].2.1 = nx → l[k].2.2 = v → hits (l.take (k + 1)) v x = o ++ [l[k].1] := fun a b c => by rw [htk, hit_bwd hkl HX.out a heL (by rw [← HNX.out]; exact b) c]; rfl
      have hno : ¬ (0 < x ∧ l[k].2.1 = x ∧ l[k].1 = v) → ¬ (x < 0 ∧ l[k].2.1 = nx ∧ l[k].2.2 = v) → hits (l.take (k + 1)) v x = o := fun a b => by rw [htk, hit_other hkl HX.out heI a (by rw [← HNX.out]; exact b)]; simp
      have hlst : x = -9223372036854775808 → l[k].2.1 ≠ nx := fun e e2 => heL (by rw [e2, HNX.out, e]; unfold negL wrap64; omega)
      obtain ⟨f, hf⟩ : ∃ z, z = l[k].1 := ⟨_, rfl⟩
      obtain ⟨a, ha⟩ : ∃ z, z = l[k].2.1 := ⟨_, rfl⟩
      obtain ⟨t, ht⟩ : ∃ z, z = l[k].2.2 := ⟨_, rfl⟩
      have hfI : I64 f := by rw [hf]; exact heI.1
      have htI : I64 t := by rw [ht]; exact heI.2.2
      rw [← hf] at e1 hfw hbw hno
      rw [← ha] at e2 hfw hbw hno hlst
      rw [← ht] at e3 hfw hbw hno
      have HF := Lib.hid hfw
      have HBW := Lib.hid hbw
      have HN := Lib.hid hno
      have HLS := Lib.hid hlst
      have hba : Below W.heap.size W (wr.alloc (.cells #[.int .i64 f, .int .i64 a, .int .i64 t] 28 (0, 0))) := hbx.alloc hbx.size _
      have hoa := hown.alloc (.cells #[.int .i64 f, .int .i64 a, .int .i64 t] 28 (0, 0))
      have hjI : (k : Int) < (l.length : Int) := by omega
      have hol1 : o.length + 1 ≤ 1099511627776 := by omega
      have hlt3 : o.length + 1 = (o ++ [t]).length := by simp
      have hlf3 : o.length + 1 = (o ++ [f]).length := by simp
      have HLT := Lib.hid hlt3
      have HLF := Lib.hid hlf3
      clear hcell heI heL htk hf ha ht hfw hbw hno hlst hlt3 hlf3 hok
      by_cases p1 : 0 < x
      · have p2 : ¬ x < 0 := by omega
        by_cases m1 : a = x
        · have t1 : (a == x) = true := by simp [m1]
          by_cases m2 : f = v
          · have t2 : (f == v) = true := by simp [m2]
            have hst : Kept (o ++ [t] = hits (l.take (k + 1)) v x) := ⟨(HF.out p1 m1 m2).symm⟩
            clear m1 m2
            go_wp2_with (at_builtin; refine wpl_push elemI rfl (.tmp 33) (.tmp 36) rfl rfl (hoa.alloc _) rfl (Box.two _ _ _) rfl (by omega) ?_; intro g' cap' w1 hown' hgrow hat)
            have hb1 := below_push hba hgrow hg (Nat.le_refl _)
            go_roundw
            case rel => exact ⟨k + 1, g', cap', o ++ [t], by omega, by go_num, by rw [HLT.out], by rw [← HLT.out, intsV_append]; exact hown', by simp; omega, hst, hb1⟩
            case measure => simp [intOf]; omega
          · have t2 : (f == v) = false := by simp [m2]
            have hst : Kept (o = hits (l.take (k + 1)) v x) := ⟨(HN.out (fun h => m2 h.2.2) (fun h => p2 h.1)).symm⟩
            clear m1 m2
            go_wp2
            go_roundw
            case rel => exact ⟨k + 1, g, cap2, o, by omega, by go_num, rfl, hoa, by omega, hst, hba⟩
            case measure => simp [intOf]; omega
        · have t1 : (a == x) = false := by simp [m1]
          have hst : Kept (o = hits (l.take (k + 1)) v x) := ⟨(HN.out (fun h => m1 h.2.1) (fun h => p2 h.1)).symm⟩
          clear m1
          go_wp2
          go_roundw
          case rel => exact ⟨k + 1, g, cap2, o, by omega, by go_num, rfl, hoa, by omega, hst, hba⟩
          case measure => simp [intOf]; omega
      · by_cases p2 : x < 0
        · by_cases p3 : x = -9223372036854775808
          · have hst : Kept (o = hits (l.take (k + 1)) v x) := ⟨(HN.out (fun h => p1 h.1) (fun h => HLS.out p3 h.2.1)).symm⟩
            subst p3
            go_wp2
            go_roundw
            case rel => exact ⟨k + 1, g, cap2, o, by omega, by go_num, rfl, hoa, by omega, hst, hba⟩
            case measure => simp [intOf]; omega
          · have t3 : decide (x = -9223372036854775808) = false := decide_eq_false p3
            by_cases m1 : a = nx
            · have t1 : (a == nx) = true := by simp [m1]
              by_cases m2 : t = v
              · have t2 : (t == v) = true := by simp [m2]
                have hst : Kept (o ++ [f] = hits (l.take (k + 1)) v x) := ⟨(HBW.out p2 m1 m2).symm⟩
                clear m1 m2
                go_wp2_with (at_builtin; refine wpl_push elemI rfl (.tmp 58) (.tmp 61) rfl rfl (hoa.alloc _) rfl (Box.two _ _ _) rfl (by omega) ?_; intro g' cap' w1 hown' hgrow hat)
                have hb1 := below_push hba hgrow hg (Nat.le_refl _)
                go_roundw
                case rel => exact ⟨k + 1, g', cap', o ++ [f], by omega, by go_num, by rw [HLF.out], by rw [← HLF.out, intsV_append]; exact hown', by simp; omega, hst, hb1⟩
                case measure => simp [intOf]; omega
              · have t2 : (t == v) = false := by simp [m2]
                have hst : Kept (o = hits (l.take (k + 1)) v x) := ⟨(HN.out (fun h => p1 h.1) (fun h => m2 h.2.2)).symm⟩
                clear m1 m2
                go_wp2
                go_roundw
                case rel => exact ⟨k + 1, g, cap2, o, by omega, by go_num, rfl, hoa, by omega, hst, hba⟩
                case measure => simp [intOf]; omega
            · have t1 : (a == nx) = false := by simp [m1]
              have hst : Kept (o = hits (l.take (k + 1)) v x) := ⟨(HN.out (fun h => p1 h.1) (fun h => m1 h.2.1)).symm⟩
              clear m1
              go_wp2
              go_roundw
              case rel => exact ⟨k + 1, g, cap2, o, by omega, by go_num, rfl, hoa, by omega, hst, hba⟩
              case measure => simp [intOf]; omega
        · have hst : Kept (o = hits (l.take (k + 1)) v x) := ⟨(HN.out (fun h => p1 h.1) (fun h => p2 h.1)).symm⟩
          go_wp2
          go_roundw
          case rel => exact ⟨k + 1, g, cap2, o, by omega, by go_num, rfl, hoa, by omega, hst, hba⟩
          case measure => simp [intOf]; omega
    · obtain rfl : k = l.length := by omega
      have hfin : Kept (o = hits l v x) := ⟨by have := hok.out; rwa [List.take_length] at this⟩
      have hI : ∀ y ∈ o, I64 y := fun y hy => by
        rw [hfin.out] at hy
        obtain ⟨e, he, h1⟩ := hits_mem hy
        have := HE.out e he
        rcases h1 with rfl | rfl
        · exact this.1
        · exact this.2.2
      have hoI : OwnI wr W.heap.size (.slice (some ⟨g, 0, none⟩) o.length cap2) o := ⟨g, cap2, rfl, hown, hI⟩
      have hol2 : o.length ≤ 1048576 := by omega
      clear hok hI
      go_wp2_with fail
      refine (sortI_any _ o W.heap.size wr hoI hol2).mono ?_
      rintro e w1 ⟨rfl, o1, hg1⟩
      have hb1 := hbx.grown hg1 hbx.size (by simpa [Value.ownBlock] using hg)
      go_wp2_with fail
      refine (compactI_any _ (sortL o) W.heap.size w1 o1 (by rw [sortL_length]; exact hol2)).mono ?_
      rintro e w2 ⟨v2, rfl, o2, hg2⟩
      have hb2 := hb1.grown hg2 hb1.size (by simpa [Value.ownBlock] using hg)
      rw [hfin.out, steps_sorted] at o2
      go_wp2
      go_ret
      exact ⟨_, rfl, o2.base hB.size, hB.trans (hb2.mono hB.size)⟩

end Go.Proofs.YtpebiacdkfpnpaaGreat
