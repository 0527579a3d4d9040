/- Contracts of the references' draws of a word with its rank and of two words. Conditions: codes of at most 2^20 bytes. -/
import Derived.Test.YtbghnllflfcfhaaDrawW
namespace Go.Proofs.Ytbghnllflfcfhaa
open Go.RowKit

/-- A rank and a word with the property Q are handed back; nothing is turned but the cursor. -/
def RetDW (w : World) (k : Nat) (A : Option Addr) (len : Nat) (Q : Int → List Int → Prop) (e : Ending) (w' : World) : Prop :=
  ∃ r v l, e = .returned (.tuple #[.int .i64 r, v]) ∧ OwnI w' w.heap.size v l ∧ Q r l ∧ Cur w' k A len ∧ w.grownBy w' (some k)
/-- What l2Drawn hands back. -/
def DrawnQ (r : Int) (l : List Int) : Prop := ∃ R : Nat, r = (R : Int) ∧ 1 ≤ R ∧ R ≤ 3 ∧ WordOf R 8 l
/-- A short word of small letters. -/
structure Few (l : List Int) : Prop where
  len : l.length ≤ 11
  let_ : ∀ x ∈ l, -4 ≤ x ∧ x ≤ 4
/-- What l2Any hands back. -/
def AnyQ (r : Int) (l : List Int) : Prop := (-1 ≤ r ∧ r ≤ 4) ∧ Few l
theorem own_apart {w w' : World} {B k : Nat} {v : Value} {l : List Int} (h : OwnI w B v l) (hg : w.grownBy w' (some k)) (hk : k < B) : OwnI w' B v l := by
  obtain ⟨g, cap, rfl, ho, hi⟩ := h
  have hgB := (ownsRow_parts ho).1
  exact ⟨g, cap, rfl, ho.kept hg (.inr (by simp only [Value.ownBlock, ne_eq, Option.some.injEq]; omega)), hi⟩
theorem lit_ne {w : World} {k n : Nat} (hk : k < w.heap.size) : ∀ b off cap, (Value.slice (some ⟨w.heap.size, 0, none⟩) n n) = .slice (some ⟨b, off, none⟩) n cap → b ≠ k := by
  intro b off cap e
  simp only [Value.slice.injEq, Option.some.injEq, Addr.mk.injEq] at e
  omega
set_option maxHeartbeats 1600000 in
theorem l2Drawn_any (k : Nat) (A : Option Addr) (len : Nat) (w : World) (h : Cur w k A len) :
    Calls Try.prog 91 #[.pointer (some ⟨k, 0, none⟩)] w (RetDW w k A len DrawnQ) := by
  have hk := h.lt
  have hal : Below w.heap.size w (w.alloc (.cells #[.int .i64 1, .int .i64 2, .int .i64 2, .int .i64 2, .int .i64 2, .int .i64 3] 3 (0, 0))) := (Below.refl _ _).alloc (Nat.le_refl _) _
  have hI : Ints (w.alloc (.cells #[.int .i64 1, .int .i64 2, .int .i64 2, .int .i64 2, .int .i64 2, .int .i64 3] 3 (0, 0))) (.slice (some ⟨w.heap.size, 0, none⟩) 6 6) [1, 2, 2, 2, 2, 3] := ints_lit w [1, 2, 2, 2, 2, 3] (by simp [I64])
  have HP := Lib.hid (l1PickInt_any k A len _ [1, 2, 2, 2, 2, 3] _ (h.keep hal) hI (lit_ne hk) (by decide) (by decide))
  clear hI
  go_enter Try.func91, Try.ntmps91
  go_wp2_with fail
  refine (HP.out).mono ?_
  rintro e w1 ⟨x, rfl, hx, hc, hg⟩
  obtain ⟨R, rfl, h1, h3⟩ : ∃ R : Nat, x = (R : Int) ∧ 1 ≤ R ∧ R ≤ 3 := by
    simp at hx
    exact ⟨x.toNat, by omega, by omega, by omega⟩
  clear hx HP
  have hg1 := (grown_below hal).trans hg
  clear hal hg
  go_wp2_with fail
  refine (l2Of_any k A len R 8 w1 hc h1 h3 (by decide)).mono ?_
  rintro e w2 ⟨v, l, rfl, ho, hq, hc2, hg2⟩
  go_wp2
  go_ret2
  exact ⟨R, v, l, rfl, ho.base hg1.size, ⟨R, rfl, h1, h3, hq⟩, hc2, hg1.trans hg2⟩
theorem few_of {R : Nat} {l : List Int} (h : WordOf R 8 l) (h3 : R ≤ 3) : Few l := ⟨by have := h.len; omega, fun x hx => by have := h.let_ x hx; omega⟩
set_option maxHeartbeats 3200000 in
theorem l2Any_any (k : Nat) (A : Option Addr) (len : Nat) (w : World) (h : Cur w k A len) :
    Calls Try.prog 71 #[.pointer (some ⟨k, 0, none⟩)] w (RetDW w k A len AnyQ) := by
  have hk := h.lt
  have hA := h.code
  have HD := Lib.hid (l2Drawn_any k A len w h)
  have HB := Lib.hid (fun W (hc : Cur W k A len) => l1Below_small k A len 10 W hc (by decide) (by decide))
  have HP := Lib.hid (fun W v L (hc : Cur W k A len) => l1PickInt_any k A len v L W hc)
  clear h
  go_enter Try.func71, Try.ntmps71
  go_wp2_with fail
  refine (HD.out).mono ?_
  rintro e w1 ⟨r, v, l, rfl, ho, ⟨R, rfl, h1, h3, hq⟩, hc, hg⟩
  have hf := few_of hq h3
  go_wp2_with fail
  refine (HB.out w1 hc).mono ?_
  rintro e w2 ⟨t, rfl, ht, hc2, hg2⟩
  have ho2 := own_apart ho hg2 hk
  have hg2' := hg.trans hg2
  have hkl := hc2.lt
  clear hc hg2 ho hg
  by_cases t0 : t = 0
  · subst t0
    have hal : Below w2.heap.size w2 (w2.alloc (.cells #[.int .i64 (-1), .int .i64 0, .int .i64 4] 3 (0, 0))) := (Below.refl _ _).alloc (Nat.le_refl _) _
    have hI : Ints (w2.alloc (.cells #[.int .i64 (-1), .int .i64 0, .int .i64 4] 3 (0, 0))) (.slice (some ⟨w2.heap.size, 0, none⟩) 3 3) [-1, 0, 4] := ints_lit w2 [-1, 0, 4] (by simp [I64])
    have HP' := Lib.hid (HP.out _ _ [-1, 0, 4] (hc2.keep hal) hI (lit_ne hkl) (by decide) (by decide))
    clear hI
    go_wp2_with fail
    refine (HP'.out).mono ?_
    rintro e w3 ⟨x, rfl, hx, hc3, hg3⟩
    have hx' : -1 ≤ x ∧ x ≤ 4 := by simp at hx; omega
    have HX := Lib.hid hx'
    clear hx hx'
    have hg3' := (grown_below (row := some k) hal).trans hg3
    go_wp2
    go_ret2
    exact ⟨x, v, l, rfl, own_apart ho2 hg3' hk, ⟨HX.out, hf⟩, hc3, hg2'.trans hg3'⟩
  by_cases t1 : t = 1
  · subst t1
    have hal : Below w2.heap.size w2 (w2.alloc (.cells #[.int .i64 0, .int .i64 4, .int .i64 (-4), .int .i64 1, .int .i64 (-1)] 3 (0, 0))) := (Below.refl _ _).alloc (Nat.le_refl _) _
    have hI : Ints (w2.alloc (.cells #[.int .i64 0, .int .i64 4, .int .i64 (-4), .int .i64 1, .int .i64 (-1)] 3 (0, 0))) (.slice (some ⟨w2.heap.size, 0, none⟩) 5 5) [0, 4, -4, 1, -1] := ints_lit w2 [0, 4, -4, 1, -1] (by simp [I64])
    have HP' := Lib.hid (HP.out _ _ [0, 4, -4, 1, -1] (hc2.keep hal) hI (lit_ne hkl) (by decide) (by decide))
    clear hI
    obtain ⟨g, cap, rfl, hown, hi⟩ := ho2
    have hi := Lib.hid hi
    have hgl : w.heap.size ≤ g := (ownsRow_parts hown).1
    have hlen := hq.len
    go_wp2_with fail
    refine (HP'.out).mono ?_
    rintro e w3 ⟨x, rfl, hx, hc3, hg3⟩
    have hx' : -4 ≤ x ∧ x ≤ 4 := by simp at hx; omega
    have HX := Lib.hid hx'
    clear hx hx'
    have hg3' := (grown_below (row := some k) hal).trans hg3
    have hown3 := hown.kept hg3' (.inr (by simp only [Value.ownBlock, ne_eq, Option.some.injEq]; omega))
    go_wp2_with (at_builtin; refine wpl_push elemI rfl (.tmp 20) (.tmp 24) rfl rfl (hown3.alloc _) rfl (heap_alloc_new _ _) rfl (by omega) ?_; intro g' cap' w4 hown' hgrow hat)
    have hg4 := grown_push ((hg2'.trans hg3').trans (World.grownBy_alloc _ _ _)) hgrow hgl
    have hc4 := (hc3.keep ((Below.refl _ _).alloc (Nat.le_refl _) _)).push hgrow hk hA hgl
    go_ret2
    refine ⟨R, _, l ++ [x], rfl, ⟨g', cap', by simp, by rw [intsV_append, List.length_append]; exact hown', fun y hy => ?_⟩, ⟨by omega, by simp; omega, fun y hy => ?_⟩, hc4, hg4⟩
    · rcases List.mem_append.1 hy with hy | hy
      · exact hi.out y hy
      · have := HX.out; simp at hy; unfold I64; omega
    · rcases List.mem_append.1 hy with hy | hy
      · exact hf.let_ y hy
      · have := HX.out; simp at hy; omega
  have t0I : ¬ (t : Int) = 0 := by omega
  have t1I : ¬ (t : Int) = 1 := by omega
  go_wp2
  go_ret2
  exact ⟨R, v, l, rfl, ho2, ⟨by omega, hf⟩, hc2, hg2'⟩
/-- Two short words in new memory. -/
def RetTwo (w : World) (e : Ending) (w' : World) : Prop := ∃ v1 l1 v2 l2, e = .returned (.tuple #[v1, v2]) ∧ OwnI w' w.heap.size v1 l1 ∧ OwnI w' w.heap.size v2 l2 ∧ Few l1 ∧ Few l2 ∧ Below w.heap.size w w'
set_option maxHeartbeats 1600000 in
theorem l2Two_any (A : Option Addr) (len cap : Nat) (w : World) (h : CodeArg w A len) (hl : len ≤ 1048576) : Calls Try.prog 68 #[.slice A len cap] w (RetTwo w) := by
  have HN := Lib.hid (l1New_any A len cap w h hl)
  clear h
  go_enter Try.func68, Try.ntmps68
  go_wp2_with fail
  refine (HN.out).mono ?_
  rintro e w1 ⟨k, rfl, hk, hc, hB1⟩
  go_wp2_with fail
  refine (l2Any_any k A len w1 hc).mono ?_
  rintro e w2 ⟨r1, v1, l1, rfl, o1, ⟨_, f1⟩, hc2, hg2⟩
  have hkl := hc.lt
  clear hc
  go_wp2_with fail
  refine (l2Any_any k A len w2 hc2).mono ?_
  rintro e w3 ⟨r2, v2, l2, rfl, o2, ⟨_, f2⟩, hc3, hg3⟩
  have o1' := own_apart o1 hg3 hkl
  have hB2 := hB1.trans (below_of_grown hg2 hB1.size hk)
  have hB3 := hB2.trans (below_of_grown hg3 hB2.size hk)
  go_wp2
  go_ret2
  exact ⟨v1, l1, v2, l2, rfl, o1'.base hB1.size, o2.base hB2.size, f1, f2, hB3⟩
end Go.Proofs.Ytbghnllflfcfhaa
