/- Contracts of cut and l4Cut. Conditions: texts of at most 2^20 bytes. -/
import Derived.Test.YtpebiacdkfpnpaaGreatStrs
namespace Go.Proofs.YtpebiacdkfpnpaaGreat
open Go.RowKit

/-- The parts of a text between bytes of one kind: those that are done, and the one begun. -/
def cutStep (c : UInt8) (st : List (List UInt8) × List UInt8) (b : UInt8) : List (List UInt8) × List UInt8 := match decide (b = c) with
  | true => (st.1 ++ [st.2], [])
  | false => (st.1, st.2 ++ [b])
def cutSt (c : UInt8) (s : List UInt8) : List (List UInt8) × List UInt8 := s.foldl (cutStep c) ([], [])
def cutB (c : UInt8) (s : List UInt8) : List (List UInt8) := (cutSt c s).1 ++ [(cutSt c s).2]
theorem cutSt_snoc (c : UInt8) (s : List UInt8) (b : UInt8) : cutSt c (s ++ [b]) = cutStep c (cutSt c s) b := by simp [cutSt]
theorem cutStep_yes {c b : UInt8} {st : List (List UInt8) × List UInt8} (h : b = c) : cutStep c st b = (st.1 ++ [st.2], []) := by
  have : decide (b = c) = true := decide_eq_true h
  simp only [cutStep, this]
theorem cutStep_no {c b : UInt8} {st : List (List UInt8) × List UInt8} (h : b ≠ c) : cutStep c st b = (st.1, st.2 ++ [b]) := by
  have : decide (b = c) = false := decide_eq_false h
  simp only [cutStep, this]
theorem cutSt_len (c : UInt8) (s : List UInt8) : (cutSt c s).1.length ≤ s.length ∧ ((cutSt c s).1.map List.length).sum + (cutSt c s).2.length ≤ s.length := by
  suffices h : ∀ (s : List UInt8) (st : List (List UInt8) × List UInt8), (s.foldl (cutStep c) st).1.length ≤ st.1.length + s.length ∧ ((s.foldl (cutStep c) st).1.map List.length).sum + (s.foldl (cutStep c) st).2.length ≤ (st.1.map List.length).sum + st.2.length + s.length by
    have := h s ([], [])
    simpa [cutSt] using this
  intro s
  induction s with
  | nil => intro st; simp
  | cons b s ih =>
    intro st
    rw [List.foldl_cons]
    have := ih (cutStep c st b)
    by_cases hb : b = c
    · rw [cutStep_yes hb] at this ⊢
      simp only [List.length_append, List.length_cons, List.length_nil, List.map_append, List.sum_append, List.map_cons, List.map_nil, List.sum_cons, List.sum_nil] at this ⊢
      omega
    · rw [cutStep_no hb] at this ⊢
      simp only [List.length_append, List.length_cons, List.length_nil] at this ⊢
      omega
theorem cutB_len (c : UInt8) (s : List UInt8) : (cutB c s).length ≤ s.length + 1 := by
  have := (cutSt_len c s).1
  simp only [cutB, List.length_append, List.length_cons, List.length_nil]; omega
theorem extract_lit (s : ByteArray) (m k : Nat) : s.extract m k = ⟨((s.data.toList.drop m).take (k - m)).toArray⟩ := by
  apply ByteArray.ext
  rw [ByteArray.data_extract]
  apply Array.ext'
  rw [Array.toList_extract]
theorem snoc_part (s : ByteArray) (m k : Nat) (hm : m ≤ k) (hk : k < s.size) : (s.data.toList.drop m).take (k + 1 - m) = (s.data.toList.drop m).take (k - m) ++ [s[k]] := by
  have hl : k < s.data.toList.length := by simpa using hk
  rw [show k + 1 - m = (k - m) + 1 by omega, List.take_succ_eq_append_getElem (by rw [List.length_drop]; omega), List.getElem_drop]
  congr 2
  simp [show m + (k - m) = k by omega]
  rfl
set_option maxHeartbeats 800000 in
theorem cut_any (s : ByteArray) (c : UInt8) (x : Int) (hx : x = (c.toNat : Int)) (w : World) (hs : s.size ≤ 1048576) :
    Calls Tryz.prog 49 #[.string s, .int .u8 x] w fun e w' => ∃ v, e = .returned v ∧ OwnS w' w.heap.size v (cutB c s.data.toList) ∧ Below w.heap.size w w' := by
  have hmade : OwnS (w.alloc (.cells #[] 9 (0, 0))) w.heap.size (.slice (some ⟨w.heap.size, 0, none⟩) 0 0) [] := ⟨_, _, rfl, World.ownsRow_made _ _ _ (Nat.le_refl _) (by decide) rfl⟩
  have HX := Lib.hid hx
  clear hx
  go_enter Tryz.func49, Tryz.ntmps49
  go_wp2
  go_loopw [5, 6, 7] (fun o fr i wr => ∃ (k m : Nat) (ts : List (List UInt8)), k ≤ s.size ∧ m ≤ k ∧ i = .int .i64 k ∧ fr = .int .i64 m ∧ Kept (cutSt c (s.data.toList.take k) = (ts, (s.data.toList.drop m).take (k - m))) ∧ OwnS wr w.heap.size o ts ∧ Below w.heap.size w wr) (fun _ _ i _ => s.size - (intOf i).toNat)
  case atStart => exact ⟨0, 0, [], by omega, by omega, rfl, rfl, ⟨by simp [cutSt]⟩, hmade, (Below.refl _ _).alloc (Nat.le_refl _) _⟩
  case round =>
    obtain ⟨k, m, ts, hk, hm, rfl, rfl, hst, hown, hbel⟩ := hrel
    by_cases hlt : k < s.size
    · have hkl : (k : Int) < (s.size : Int) := by omega
      have htk := take_snoc s k hlt
      have hts : ts.length ≤ 1048576 := by
        have h1 := (cutSt_len c (s.data.toList.take k)).1
        rw [hst.out, List.length_take] at h1
        simp only at h1
        omega
      have hmk : (m : Int) ≤ (k : Int) := by omega
      have hms : m ≤ s.size := by omega
      obtain ⟨b, hb⟩ : ∃ b, b = s[k] := ⟨_, rfl⟩
      by_cases hc : b = c
      · have t1 : ((b.toNat : Int) == x) = true := by rw [HX.out, hc]; simp
        rw [hb] at t1
        have hnext : Kept (cutSt c (s.data.toList.take (k + 1)) = (ts ++ [(s.data.toList.drop m).take (k - m)], (s.data.toList.drop (k + 1)).take (k + 1 - (k + 1)))) := ⟨by
          rw [htk, cutSt_snoc, ← hb, cutStep_yes hc, hst.out]; simp⟩
        obtain ⟨g, cap, rfl, hown⟩ := hown
        clear htk hst hb hc
        go_wp2_with (at_builtin; refine wpl_push elemS rfl (.tmp 20) (.tmp 25) rfl rfl (hown.alloc _) rfl (heap_alloc_new _ _) rfl (by omega) ?_; intro g' cap' w3 hown' hgrow hat)
        have hg : w.heap.size ≤ g := (ownsRow_parts hown).1
        have hb3 := below_push hbel hgrow hg (Nat.le_refl _)
        have ho3 : OwnS w3 w.heap.size (.slice (some ⟨g', 0, none⟩) (ts.length + 1) cap') (ts ++ [(s.data.toList.drop m).take (k - m)]) := ⟨g', cap', by simp, by rw [strsV_snoc, ← extract_lit]; simpa using hown'⟩
        clear hown'
        go_roundw
        case rel => exact ⟨k + 1, k + 1, _, by omega, by omega, by go_num, by go_num, hnext, ho3, hb3⟩
        case measure => simp [intOf]; omega
      · have t1 : ((b.toNat : Int) == x) = false := by
          rw [HX.out, beq_eq_false_iff_ne]
          intro e
          exact hc (UInt8.toNat_inj.1 (Int.ofNat_inj.1 e))
        rw [hb] at t1
        have hnext : Kept (cutSt c (s.data.toList.take (k + 1)) = (ts, (s.data.toList.drop m).take (k + 1 - m))) := ⟨by
          rw [htk, cutSt_snoc, ← hb, cutStep_no hc, hst.out, snoc_part s m k hm hlt, hb]⟩
        clear htk hst hb hc
        go_wp2
        go_roundw
        case rel => exact ⟨k + 1, m, ts, by omega, by omega, by go_num, rfl, hnext, hown, hbel⟩
        case measure => simp [intOf]; omega
    · obtain rfl : k = s.size := by omega
      have hts : ts.length ≤ 1048576 := by
        have h1 := (cutSt_len c (s.data.toList.take s.size)).1
        rw [hst.out, List.length_take] at h1
        simp only at h1
        omega
      have hfin : Kept (cutB c s.data.toList = ts ++ [(s.data.toList.drop m).take (s.size - m)]) := ⟨by
        have h1 := hst.out
        rw [List.take_of_length_le (by simp)] at h1
        rw [cutB, h1]⟩
      have hms : (m : Int) ≤ (s.size : Int) := by omega
      obtain ⟨g, cap, rfl, hown⟩ := hown
      clear hst
      go_wp2_with (at_builtin; refine wpl_push elemS rfl (.tmp 29) (.tmp 33) rfl rfl (hown.alloc _) rfl (heap_alloc_new _ _) rfl (by omega) ?_; intro g' cap' w3 hown' hgrow hat)
      have hg : w.heap.size ≤ g := (ownsRow_parts hown).1
      have hb3 := below_push hbel hgrow hg (Nat.le_refl _)
      have ho3 : OwnS w3 w.heap.size (.slice (some ⟨g', 0, none⟩) (ts.length + 1) cap') (ts ++ [(s.data.toList.drop m).take (s.size - m)]) := ⟨g', cap', by simp, by rw [strsV_snoc, ← extract_lit]; simpa using hown'⟩
      go_ret
      rw [hfin.out]
      exact ⟨_, rfl, ho3, hb3⟩
theorem extract_one (s : ByteArray) (k : Nat) (hk : k < s.size) : s.extract k (k + 1) = ⟨[s[k]].toArray⟩ := by
  rw [extract_lit]
  have h := snoc_part s k k (Nat.le_refl _) hk
  rw [h, Nat.sub_self, List.take_zero, List.nil_append]
set_option maxHeartbeats 800000 in
theorem l4Cut_any (s : ByteArray) (c : UInt8) (x : Int) (hx : x = (c.toNat : Int)) (w : World) (hs : s.size ≤ 1048576) :
    Calls Tryz.prog 57 #[.string s, .int .u8 x] w fun e w' => ∃ v, e = .returned v ∧ OwnS w' w.heap.size v (cutB c s.data.toList) ∧ Below w.heap.size w w' := by
  have hmade : OwnS (w.alloc (.cells #[] 9 (0, 0))) w.heap.size (.slice (some ⟨w.heap.size, 0, none⟩) 0 0) [] := ⟨_, _, rfl, World.ownsRow_made _ _ _ (Nat.le_refl _) (by decide) rfl⟩
  have HX := Lib.hid hx
  clear hx
  go_enter Tryz.func57, Tryz.ntmps57
  go_wp2
  go_loopw [5, 6, 7] (fun o fr i wr => ∃ (k : Nat) (u : List UInt8) (ts : List (List UInt8)), k ≤ s.size ∧ i = .int .i64 k ∧ fr = .string ⟨u.toArray⟩ ∧ Kept (cutSt c (s.data.toList.take k) = (ts, u)) ∧ OwnS wr w.heap.size o ts ∧ Below w.heap.size w wr) (fun _ _ i _ => s.size - (intOf i).toNat)
  case atStart => exact ⟨0, [], [], by omega, rfl, rfl, ⟨by simp [cutSt]⟩, hmade, (Below.refl _ _).alloc (Nat.le_refl _) _⟩
  case round =>
    obtain ⟨k, u, ts, hk, rfl, rfl, hst, hown, hbel⟩ := hrel
    have hlens := cutSt_len c (s.data.toList.take k)
    rw [hst.out] at hlens
    simp only [List.length_take, Array.length_toList] at hlens
    have hts : ts.length ≤ 1048576 := by have := hlens.1; have : s.data.size = s.size := rfl; omega
    have hul : u.length ≤ 1048576 := by have := hlens.2; have : s.data.size = s.size := rfl; omega
    clear hlens
    by_cases hlt : k < s.size
    · have hkl : (k : Int) < (s.size : Int) := by omega
      have htk := take_snoc s k hlt
      obtain ⟨b, hb⟩ : ∃ b, b = s[k] := ⟨_, rfl⟩
      by_cases hc : b = c
      · have t1 : ((b.toNat : Int) == x) = true := by rw [HX.out, hc]; simp
        rw [hb] at t1
        have hnext : Kept (cutSt c (s.data.toList.take (k + 1)) = (ts ++ [u], [])) := ⟨by
          rw [htk, cutSt_snoc, ← hb, cutStep_yes hc, hst.out]⟩
        obtain ⟨g, cap, rfl, hown⟩ := hown
        clear htk hst hb hc
        go_wp2_with (at_builtin; refine wpl_push elemS rfl (.tmp 20) (.tmp 22) rfl rfl (hown.alloc _) rfl (heap_alloc_new _ _) rfl (by omega) ?_; intro g' cap' w3 hown' hgrow hat)
        have hg : w.heap.size ≤ g := (ownsRow_parts hown).1
        have hb3 := below_push hbel hgrow hg (Nat.le_refl _)
        have ho3 : OwnS w3 w.heap.size (.slice (some ⟨g', 0, none⟩) (ts.length + 1) cap') (ts ++ [u]) := ⟨g', cap', by simp, by rw [strsV_snoc]; simpa using hown'⟩
        clear hown'
        go_roundw
        case rel => exact ⟨k + 1, [], _, by omega, by go_num, rfl, hnext, ho3, hb3⟩
        case measure => simp [intOf]; omega
      · have t1 : ((b.toNat : Int) == x) = false := by
          rw [HX.out, beq_eq_false_iff_ne]
          intro e
          exact hc (UInt8.toNat_inj.1 (Int.ofNat_inj.1 e))
        rw [hb] at t1
        obtain ⟨u2, hu2⟩ : ∃ z, z = u ++ [b] := ⟨_, rfl⟩
        have hnext : Kept (cutSt c (s.data.toList.take (k + 1)) = (ts, u2)) := ⟨by
          rw [htk, cutSt_snoc, ← hb, cutStep_no hc, hst.out, hu2]⟩
        have hex := extract_one s k hlt
        rw [← hb] at hex
        have a1 := fun W => add_to (P := Tryz.prog) hu2 (by simp only [List.length_cons, List.length_nil]; omega) W
        have hk1 : (k : Int) + 1 ≤ (s.size : Int) := by omega
        have hk0 : (0 : Int) ≤ (k : Int) + 1 := by omega
        have hk2 : (k : Int) ≤ (k : Int) + 1 := by omega
        clear htk hst hb hc hu2
        go_wp2
        go_roundw
        case rel => exact ⟨k + 1, u2, ts, by omega, by go_num, rfl, hnext, hown, hbel⟩
        case measure => simp [intOf]; omega
    · obtain rfl : k = s.size := by omega
      have hfin : Kept (cutB c s.data.toList = ts ++ [u]) := ⟨by
        have h1 := hst.out
        rw [List.take_of_length_le (by simp)] at h1
        rw [cutB, h1]⟩
      obtain ⟨g, cap, rfl, hown⟩ := hown
      clear hst
      go_wp2_with (at_builtin; refine wpl_push elemS rfl (.tmp 31) (.tmp 33) rfl rfl (hown.alloc _) rfl (heap_alloc_new _ _) rfl (by omega) ?_; intro g' cap' w3 hown' hgrow hat)
      have hg : w.heap.size ≤ g := (ownsRow_parts hown).1
      have hb3 := below_push hbel hgrow hg (Nat.le_refl _)
      have ho3 : OwnS w3 w.heap.size (.slice (some ⟨g', 0, none⟩) (ts.length + 1) cap') (ts ++ [u]) := ⟨g', cap', by simp, by rw [strsV_snoc]; simpa using hown'⟩
      go_ret
      rw [hfin.out]
      exact ⟨_, rfl, ho3, hb3⟩
end Go.Proofs.YtpebiacdkfpnpaaGreat
