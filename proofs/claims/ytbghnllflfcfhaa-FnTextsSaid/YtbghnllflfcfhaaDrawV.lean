/- Contracts of DrawParseWord, DrawCompareWords, DrawEqualWords. Conditions: codes of at most 2^20 bytes. -/
import Derived.Test.YtbghnllflfcfhaaDrawU
import Derived.Test.YtbghnllflfcfhaaDrawY
import Derived.Test.YtbghnllflfcfhaaWordG
namespace Go.Proofs.Ytbghnllflfcfhaa
open Go.RowKit

theorem fmtW_length (l : List Int) : (fmtW l).length ≤ l.length + 1 := by
  unfold fmtW
  split <;> simp
/-- A number and a text. -/
def RetNT (w : World) (e : Ending) (w' : World) : Prop := ∃ r s, e = .returned (.tuple #[.int .i64 r, .string s]) ∧ s.size ≤ 100 ∧ Below w.heap.size w w'
set_option maxHeartbeats 1600000 in
theorem drawParseWord_any (A : Option Addr) (len cap : Nat) (w : World) (h : CodeArg w A len) (hl : len ≤ 1048576) : Calls Try.prog 49 #[.slice A len cap] w (RetNT w) := by
  have HN := Lib.hid (l1New_any A len cap w h hl)
  clear h
  go_enter Try.func49, Try.ntmps49
  go_wp2_with fail
  refine (HN.out).mono ?_
  rintro e w1 ⟨k, rfl, hk, hc, hB1⟩
  go_wp2_with fail
  refine (l2Any_any k A len w1 hc).mono ?_
  rintro e w2 ⟨r1, v1, l1, rfl, o1, ⟨_, f1⟩, hc2, hg2⟩
  have hB2 := hB1.trans (below_of_grown hg2 hB1.size hk)
  have n1 := f1.len
  clear hc
  go_wp2_with fail
  refine (formatWordS_any v1 l1 w2 o1.ints (by omega)).mono ?_
  obtain ⟨S, hS⟩ : ∃ S : ByteArray, S = ⟨(fmtW l1).toArray⟩ := ⟨_, rfl⟩
  have hsz : S.size ≤ 12 := by rw [hS]; have := fmtW_length l1; simp [ByteArray.size]; omega
  rw [← hS]
  clear hS
  rintro e w3 ⟨rfl, hb3⟩
  have hc3 := hc2.keep hb3
  have hB3 := hB2.trans (hb3.mono hB2.size)
  clear hc2 hb3
  go_wp2_with fail
  refine (l1Below_small k A len 5 w3 hc3 (by decide) (by decide)).mono ?_
  rintro e w4 ⟨t, rfl, ht, hc4, hg4⟩
  have hB4 := hB3.trans (below_of_grown hg4 hB3.size hk)
  have hkl := hc4.lt
  clear hc3 hg4
  by_cases t0 : t = 0
  · subst t0
    go_wp2_with fail
    refine (l1Spoil_any k A len 12 S w4 hc4 hsz (by decide)).mono ?_
    rintro e w5 ⟨s, rfl, hs, hc5, hg5⟩
    go_wp2
    go_ret2
    exact ⟨r1, s, rfl, by omega, hB4.trans (below_of_grown hg5 hB4.size hk)⟩
  by_cases t1 : t = 1
  · subst t1
    go_wp2_with fail
    refine (l1Pick_any k A len 7 4 _ _ (hc4.keep ((Below.refl _ _).alloc (Nat.le_refl _) _)) (by omega) (by simp) (fun j hj => by
      rw [Nat.zero_add, cell_of_row _ _ _ _ _ _ (heap_alloc_new _ _)]
      obtain rfl | rfl | rfl | rfl | rfl | rfl | rfl : j = 0 ∨ j = 1 ∨ j = 2 ∨ j = 3 ∨ j = 4 ∨ j = 5 ∨ j = 6 := by omega
      all_goals exact ⟨_, by decide, rfl⟩) (by decide) (by decide)).mono ?_
    rintro e w5 ⟨s, rfl, hs, hc5, hg5⟩
    have hg5' := (grown_below (row := some k) ((Below.refl _ _).alloc (Nat.le_refl _) _)).trans hg5
    go_wp2
    go_ret2
    exact ⟨r1, s, rfl, by omega, hB4.trans (below_of_grown hg5' hB4.size hk)⟩
  have t0I : ¬ (t : Int) = 0 := by omega
  have t1I : ¬ (t : Int) = 1 := by omega
  go_wp2
  go_ret2
  exact ⟨r1, S, rfl, by omega, hB4⟩
set_option maxHeartbeats 1600000 in
theorem drawCompareWords_any (A : Option Addr) (len cap : Nat) (w : World) (h : CodeArg w A len) (hl : len ≤ 1048576) : Calls Try.prog 47 #[.slice A len cap] w (RetTwo w) := by
  have HN := Lib.hid (l2Two_any A len cap w h hl)
  clear h
  go_enter Try.func47, Try.ntmps47
  go_wp2_with fail
  refine (HN.out).mono ?_
  rintro e w1 ⟨v1, l1, v2, l2, rfl, o1, o2, f1, f2, hB⟩
  have hm : (len : Int) % 4 = 0 ∨ ((len : Int) % 4 == 0) = false := by
    by_cases h : (len : Int) % 4 = 0
    · exact .inl h
    · exact .inr (by simpa using h)
  have I1 := o1.ints
  have n1 := f1.len
  have hr1 := I1.range
  obtain ⟨b1, off1, cap1, rfl, hb1, hcap1⟩ := I1.form
  rcases hm with hm | hm
  · go_wp2_with (at_builtin; refine wpl_app elemI rfl (.tmp 16) (.tmp 17) rfl rfl (World.ownsRow_made _ _ _ (Nat.le_refl _) (by decide) rfl) rfl (by simp [intsV]) (I1.keep ((Below.refl _ _).alloc (Nat.le_refl _) _)).news (intsV_one _) (by omega) ?_; intro g1 c1 w2 hown1 hgrow1 hat1; simp only [Nat.zero_add, List.nil_append] at hown1; have hB1 := below_push (Below.refl _ _) hgrow1 (Nat.le_refl _) (Nat.le_refl _))
    go_ret2
    exact ⟨_, l1, _, l1, rfl, o1.keep hB1, ⟨g1, c1, rfl, ownsRow_base hown1 hB.size, hr1⟩, f1, f1, hB.trans (hB1.mono hB.size)⟩
  · go_wp2
    go_ret2
    exact ⟨_, l1, v2, l2, rfl, o1, o2, f1, f2, hB⟩
set_option maxHeartbeats 1600000 in
theorem drawEqualWords_any (A : Option Addr) (len cap : Nat) (w : World) (h : CodeArg w A len) (hl : len ≤ 1048576) : Calls Try.prog 51 #[.slice A len cap] w (RetTwo w) := by
  have HN := Lib.hid (drawCompareWords_any A len cap w h hl)
  clear h
  go_enter Try.func51, Try.ntmps51
  go_wp2_with fail
  refine (HN.out).mono ?_
  rintro e w1 ⟨v1, l1, v2, l2, rfl, o1, o2, f1, f2, hB⟩
  go_wp2
  go_ret2
  exact ⟨v1, l1, v2, l2, rfl, o1, o2, f1, f2, hB⟩
end Go.Proofs.Ytbghnllflfcfhaa
