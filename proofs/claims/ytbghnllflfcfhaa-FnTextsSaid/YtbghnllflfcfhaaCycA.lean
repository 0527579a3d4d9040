/- Contracts of copyInts and RotateWord; the core of a word. Conditions: words of at most 2^26 letters. -/
import Derived.Test.YtbghnllflfcfhaaWordB
import Derived.Test.YtbghnllflfcfhaaArgs
namespace Go.Proofs.Ytbghnllflfcfhaa
open Go.RowKit

theorem copyInts_any (v : Value) (l : List Int) (w : World) (h : Ints w v l) (hn : l.length ≤ 134217728) :
    Calls Try.prog 89 #[v] w (RetI w l) := by
  obtain ⟨b1, off1, cap1, rfl, hb1, hcap1⟩ := h.form
  have hr1 := h.range
  go_enter Try.func89, Try.ntmps89
  go_wp2_with (at_builtin; refine wpl_app elemI rfl (.tmp 3) (.tmp 4) rfl rfl (World.ownsRow_made _ _ _ (Nat.le_refl _) (by decide) rfl) rfl (by simp [intsV]) (h.keep ((Below.refl _ _).alloc (Nat.le_refl _) _)).news (intsV_one _) (by omega) ?_; intro g1 c1 w1 hown1 hgrow1 hat1; simp only [Nat.zero_add, List.nil_append] at hown1; have hB1 := below_push (Below.refl _ _) hgrow1 (Nat.le_refl _) (Nat.le_refl _))
  go_ret
  exact RetI.mk rfl hown1 hr1 hB1
/-- A slice's part from a to b. -/
theorem Ints.cut {w : World} {b off cap n : Nat} {l : List Int} (h : Ints w (.slice (some ⟨b, off, none⟩) n cap) l) (i j : Nat) (hij : i ≤ j) (hj : j ≤ l.length) (cap' : Nat) (hc : j - i ≤ cap') :
    Ints w (.slice (some ⟨b, off + i, none⟩) (j - i) cap') ((l.take j).drop i) := by
  obtain ⟨b', off', cap1, hv, hcl, hb, hcell, hr⟩ := h
  simp only [Value.slice.injEq, Option.some.injEq, Addr.mk.injEq, and_true] at hv
  obtain ⟨⟨rfl, rfl⟩, rfl, rfl⟩ := hv
  have hlen : ((l.take j).drop i).length = j - i := by simp; omega
  refine ⟨b, off + i, cap', by rw [hlen], by omega, hb, fun k hk => ?_, fun x hx => hr x (List.mem_of_mem_take (List.mem_of_mem_drop hx))⟩
  have := hcell (i + k) (by omega)
  rw [Nat.add_assoc, this]
  simp
/-- A word turned by k places. -/
def rotL (l : List Int) (k : Nat) : List Int := l.drop k ++ l.take k
theorem rotL_length (l : List Int) (k : Nat) : (rotL l k).length = l.length := by simp [rotL]; omega
theorem rotL_get {l : List Int} {k i : Nat} (hk : k < l.length) (hi : i < l.length) : (rotL l k)[i]? = some (l.getD ((i + k) % l.length) 0) := by
  have hm : (i + k) % l.length < l.length := Nat.mod_lt _ (by omega)
  rw [List.getD_eq_getElem?_getD, List.getElem?_eq_getElem hm]
  unfold rotL
  by_cases h : i < l.length - k
  · rw [List.getElem?_append_left (by simpa using h), List.getElem?_drop]
    have e : (i + k) % l.length = k + i := by rw [Nat.mod_eq_of_lt (by omega)]; omega
    simp only [e, Option.getD_some]
    exact List.getElem?_eq_getElem _
  · rw [List.getElem?_append_right (by simp; omega), List.length_drop, List.getElem?_take_of_lt (by omega)]
    have e : (i + k) % l.length = i - (l.length - k) := by
      have : i + k = (i - (l.length - k)) + l.length := by omega
      rw [this, Nat.add_mod_right, Nat.mod_eq_of_lt (by omega)]
    simp only [e, Option.getD_some]
    exact List.getElem?_eq_getElem _
/-- The place that a turn by k begins at. -/
def rotK (k : Int) (n : Nat) : Nat := (k % (n : Int)).toNat
theorem rotK_lt (k : Int) {n : Nat} (h : 0 < n) : rotK k n < n := by
  have h1 := Int.emod_nonneg k (show (n : Int) ≠ 0 by omega)
  have h2 := Int.emod_lt_of_pos k (show (0 : Int) < n by omega)
  unfold rotK; omega
theorem rotK_eq (k : Int) {n : Nat} (h : 0 < n) : (k.tmod n + n).tmod n = (rotK k n : Int) := by
  have h1 := Int.emod_nonneg k (show (n : Int) ≠ 0 by omega)
  have h3 : (rotK k n : Int) = k % n := by unfold rotK; omega
  have hlt : -(n : Int) < k.tmod n := by
    have := Int.lt_tmod_of_pos k (show (0 : Int) < n by omega); omega
  rw [h3, Int.tmod_eq_emod_of_nonneg (by omega), Int.add_emod_right]
  have := Int.tmod_add_mul_tdiv k n
  have e : k.tmod n = k - n * k.tdiv n := by omega
  rw [e, Int.sub_mul_emod_self_left]
theorem rotK_parts (k : Int) {n : Nat} (h : 0 < n) : ∃ t : Int, k.tmod n = t ∧ -(n : Int) < t ∧ t < n ∧ (t + n).tmod n = (rotK k n : Int) := by
  refine ⟨_, rfl, ?_, ?_, rotK_eq k h⟩
  · have := Int.lt_tmod_of_pos k (show (0 : Int) < n by omega); omega
  · exact Int.tmod_lt_of_pos k (by omega)
set_option maxHeartbeats 1600000 in
theorem rotateWord_any (v : Value) (l : List Int) (k : Int) (w : World) (h : Ints w v l) (hn : l.length ≤ 67108864) :
    Calls Try.prog 66 #[v, .int .i64 k] w (RetI w (rotL l (rotK k l.length))) := by
  obtain ⟨b1, off1, cap1, rfl, hb1, hcap1⟩ := h.form
  by_cases h0 : l.length = 0
  · obtain rfl : l = [] := List.length_eq_zero_iff.1 h0
    go_enter Try.func66, Try.ntmps66
    go_wp2
    go_ret
    have ho0 : (w.alloc (Obj.cells #[] 3)).ownsRow w.heap.size 3 1 (.slice (some ⟨w.heap.size, 0, none⟩) 0 0) 0 [] := World.ownsRow_made _ _ _ (Nat.le_refl _) (by decide) rfl
    rw [show rotL [] (rotK k 0) = [] by simp [rotL]]
    exact RetI.mk (l := []) rfl ho0 (by simp) ((Below.refl _ _).alloc (Nat.le_refl _) _)
  have hd0 : ((l.length : Int) == 0) = false := beq_eq_false_iff_ne.2 (by omega)
  have hpos : 0 < l.length := by omega
  obtain ⟨t, ht, ht1, ht2, ht3⟩ := rotK_parts k hpos
  have hrl := rotK_lt k hpos
  obtain ⟨r, hr⟩ : ∃ r, r = rotK k l.length := ⟨_, rfl⟩
  rw [← hr] at ht3 hrl ⊢
  have hc1 := h.cut r l.length (by omega) (Nat.le_refl _) (cap1 - r) (by omega)
  have hc2 := h.cut 0 r (by omega) (by omega) cap1 (by omega)
  simp only [List.take_length, Nat.add_zero, Nat.sub_zero, List.drop_zero] at hc1 hc2
  have hrl2 : r ≤ l.length := by omega
  have hrc : ¬ cap1 = r := by omega
  have hrc2 : r ≤ cap1 := by omega
  clear h0 hr
  go_enter Try.func66, Try.ntmps66
  go_wp2_with fail
  go_region_law (first
    | (go_simp; go_at_call 89; refine (copyInts_any _ _ _ (hc1.keep (Below.refl _ _).drew) (by simp; omega)).mono ?_; rintro e w1 ⟨v3, rfl, ⟨g3, c3, rfl, hown3, hr3⟩, hb⟩; have hB : Below w.heap.size w w1 := (Below.refl _ _).drew.trans hb; simp only [List.length_drop] at hown3; clear hb)
    | (refine step_app elemI rfl (.tmp 21) (.tmp 24) rfl rfl hown3 rfl (m := r) (by simp [intsV]; omega) (hc2.keep hB).news (intsV_one _) (by omega) ?_; intro g' cap' w2 hown2 hgrow2 hat2))
  all_goals
    go_wp2
    go_ret
    have hlen : l.length - r + r = l.length := by omega
    have hB2 := below_grown hB hgrow2 hB.size (ownsRow_parts hown3).1
    have hrg := h.range
    rw [hlen] at hown2
    rw [← intsV_append] at hown2
    exact RetI.mk (rotL_length l r) hown2 (fun x hx => by
      rcases List.mem_append.1 hx with hx | hx
      · exact hrg x (List.mem_of_mem_drop hx)
      · exact hrg x (List.mem_of_mem_take hx)) hB2
theorem rot_index (k : Int) (i : Nat) {n : Nat} (h : 0 < n) : ∃ t u : Int, k.tmod n = t ∧ -(n : Int) < t ∧ t < n ∧ ((i : Int) + t).tmod n = u ∧ -(n : Int) < u ∧ u < n ∧ (u + n).tmod n = (((i + rotK k n) % n : Nat) : Int) := by
  obtain ⟨t, ht, ht1, ht2, _⟩ := rotK_parts k h
  obtain ⟨u, hu, hu1, hu2, hu3⟩ := rotK_parts ((i : Int) + t) h
  refine ⟨t, u, ht, ht1, ht2, hu, hu1, hu2, ?_⟩
  rw [hu3]
  have h1 := Int.emod_nonneg k (show (n : Int) ≠ 0 by omega)
  have h2 := Int.emod_nonneg ((i : Int) + t) (show (n : Int) ≠ 0 by omega)
  have e1 : (rotK ((i : Int) + t) n : Int) = ((i : Int) + t) % n := by unfold rotK; omega
  have e2 : (rotK k n : Int) = k % n := by unfold rotK; omega
  have e3 : t % (n : Int) = k % n := by
    have := Int.tmod_add_mul_tdiv k n
    rw [ht] at this
    have e : t = k - n * k.tdiv n := by omega
    rw [e, Int.sub_mul_emod_self_left]
  rw [e1, Int.natCast_emod, Int.natCast_add, e2, Int.add_emod, e3, ← Int.add_emod, Int.add_emod_emod]
theorem take_snoc_get {l : List Int} {i : Nat} {x : Int} (h : l[i]? = some x) : l.take (i + 1) = l.take i ++ [x] := by
  rw [List.take_add_one, h]; rfl
set_option maxHeartbeats 1600000 in
theorem rotateWordS_any (v : Value) (l : List Int) (k : Int) (w : World) (h : Ints w v l) (hk : I64 k) (hn : l.length ≤ 67108864) :
    Calls Try.prog 67 #[v, .int .i64 k] w (RetI w (rotL l (rotK k l.length))) := by
  obtain ⟨b, off, cap, rfl, hc, hb, hcell, hr⟩ := h
  obtain ⟨hk1, hk2⟩ := hk
  have H := Lib.hid hcell
  clear hcell
  go_enter Try.func67, Try.ntmps67
  go_wp2
  go_loopw [5, 6] (fun out i wr => ∃ (j g cap2 : Nat) (o : List Int), j ≤ l.length ∧ i = .int .i64 j ∧ o.length = j ∧ out = .slice (some ⟨g, 0, none⟩) o.length cap2 ∧ wr.ownsRow w.heap.size 3 1 (.slice (some ⟨g, 0, none⟩) o.length cap2) o.length (intsV o) ∧ Kept (o = (rotL l (rotK k l.length)).take j) ∧ Below w.heap.size w wr)
    (fun _ i _ => l.length - (intOf i).toNat)
  case atStart => exact ⟨0, _, 0, [], by omega, rfl, rfl, rfl, World.ownsRow_made _ _ _ (Nat.le_refl _) (by decide) rfl, ⟨rfl⟩, (Below.refl _ _).alloc (Nat.le_refl _) _⟩
  case round =>
    obtain ⟨j, g, cap2, o, hj, rfl, hol, rfl, hown, hok, hbel⟩ := hrel
    have hg : w.heap.size ≤ g := (ownsRow_parts hown).1
    have hol' : o.length ≤ l.length := by omega
    by_cases hlt : j < l.length
    · have hjl : (j : Int) < (l.length : Int) := by omega
      have hpos : 0 < l.length := by omega
      obtain ⟨t, u, ht, ht1, ht2, hu, hu1, hu2, hv⟩ := rot_index k j hpos
      obtain ⟨m, hm⟩ : ∃ m, m = (j + rotK k l.length) % l.length := ⟨_, rfl⟩
      have hml : m < l.length := by rw [hm]; exact Nat.mod_lt _ hpos
      have hx := rotL_get (rotK_lt k hpos) hlt
      rw [← hm] at hv hx
      have hcx : wr.cell? ⟨b, off + m, none⟩ = some (.int .i64 l[m]) := (hbel.cell (p := ⟨b, off + m, none⟩) hb).trans (H.out m hml)
      rw [List.getD_eq_getElem?_getD, List.getElem?_eq_getElem hml, Option.getD_some] at hx
      have hst : Kept (o ++ [l[m]] = (rotL l (rotK k l.length)).take (j + 1)) := ⟨by rw [take_snoc_get hx, hok.out]⟩
      have hole : Kept (o.length = j) := ⟨hol⟩
      clear hx hm hok hol
      go_wp2_with (at_builtin; refine wpl_push elemI rfl (.tmp 14) (.tmp 33) rfl rfl (hown.alloc _) rfl (heap_alloc_new _ _) rfl (by omega) ?_; intro g' cap' w1 hown' hgrow hat)
      have hb1 := below_push hbel hgrow hg (Nat.le_refl _)
      have hlen3 : o.length + 1 = (o ++ [l[m]]).length := by simp
      have ho3 : w1.ownsRow w.heap.size 3 1 (.slice (some ⟨g', 0, none⟩) (o.length + 1) cap') (o.length + 1) (intsV (o ++ [l[m]])) := by rw [intsV_append]; exact hown'
      clear hown'
      go_roundw
      case rel => exact ⟨j + 1, g', cap', o ++ [l[m]], by omega, by go_num, by have := hole.out; omega, by rw [hlen3], by rw [← hlen3]; exact ho3, hst, hb1⟩
      case measure => simp [intOf]; omega
    · obtain rfl : j = l.length := by omega
      have hfin : Kept (o = rotL l (rotK k l.length)) := ⟨by rw [hok.out, List.take_of_length_le (by rw [rotL_length]; exact Nat.le_refl _)]⟩
      clear hol hok
      go_wp2
      go_ret
      rw [← hfin.out]
      refine RetI.mk rfl hown (fun x hx => ?_) hbel
      rw [hfin.out] at hx
      rcases List.mem_append.1 hx with hx | hx
      · exact hr x (List.mem_of_mem_drop hx)
      · exact hr x (List.mem_of_mem_take hx)
end Go.Proofs.Ytbghnllflfcfhaa
