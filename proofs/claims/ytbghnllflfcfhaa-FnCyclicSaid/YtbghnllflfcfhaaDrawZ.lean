/- Contracts of the references' draws for the laws on cyclic words and roots. Conditions: codes of at most 2^20 bytes. -/
import Derived.Test.YtbghnllflfcfhaaLawA
import Derived.Test.YtbghnllflfcfhaaWordD
import Derived.Test.YtbghnllflfcfhaaCycE
namespace Go.Proofs.Ytbghnllflfcfhaa
open Go.RowKit

/-- A word of at most n letters, none of them 0. -/
structure GW (n : Nat) (l : List Int) : Prop where
  len : l.length ≤ n
  good : Good l
theorem WordOf.gw {R m : Nat} {l : List Int} (h : WordOf R m l) (h3 : R ≤ 3) : GW m l := ⟨h.len, fun x hx => by have := h.let_ x hx; omega⟩
theorem GW.more {m n : Nat} {l : List Int} (h : GW m l) (k : m ≤ n) : GW n l := ⟨by have := h.len; omega, h.good⟩
theorem GW.pow {m : Nat} {l : List Int} (h : GW m l) {k : Nat} (hk : k ≤ 24) : GW (24 * m) (powW l (k : Int)) := by
  refine ⟨by have := powW_length l k; have := h.len; omega, ?_⟩
  rw [powW_nat hk]
  exact (Good.pow h.good k).red
theorem GW.conj {m n : Nat} {a b : List Int} (h : GW m a) (k : GW n b) : GW (m + 2 * n) (red (invW b ++ a ++ b)) := by
  refine ⟨?_, ((k.good.invW.app h.good).app k.good).red⟩
  have h1 := red_length (invW b ++ a ++ b)
  have h2 := h.len
  have h3 := k.len
  simp only [List.length_append, invW_length] at h1
  omega
theorem GW.root {m : Nat} {l : List Int} (h : GW m l) : GW (3 * m) (rootW l) := by
  refine ⟨by have := rootW_length l; have := h.len; omega, ?_⟩
  have hc := core_parts (red l)
  have hg : Good (coreP (red l) ++ coreX (red l) ++ invW (coreP (red l))) := by rw [← hc]; exact h.good.red
  unfold rootW
  split
  · exact ((hg.left.left.app (fun x hx => hg.left.right x (List.mem_of_mem_take hx))).app hg.right).red
  · exact fun x hx => by simp at hx
set_option maxHeartbeats 3200000 in
theorem l3Word_any (k : Nat) (A : Option Addr) (len : Nat) (w : World) (h : Cur w k A len) :
    Calls Try.prog 78 #[.pointer (some ⟨k, 0, none⟩)] w (RetW w k A len (GW 100)) := by
  have hk := h.lt
  have hA := h.code
  have HD := Lib.hid (l2Drawn_any k A len w h)
  have HB := Lib.hid (fun n h0 h1 W (hc : Cur W k A len) => l1Below_small k A len n W hc h0 h1)
  have HO := Lib.hid (fun W (hc : Cur W k A len) => l1Once_small k A len 12 W hc (by decide) (by decide))
  have HW := Lib.hid (fun m hm W (hc : Cur W k A len) => l2Of_any k A len 2 m W hc (by decide) (by decide) hm)
  have HP := Lib.hid (fun W v L (hc : Cur W k A len) => l1PickInt_any k A len v L W hc)
  clear h
  go_enter Try.func78, Try.ntmps78
  go_wp2_with fail
  refine (HD.out).mono ?_
  rintro e w1 ⟨r, v, l, rfl, ho, ⟨R, rfl, h1, h3, hq⟩, hc, hg⟩
  have hf := hq.gw h3
  go_wp2_with fail
  refine (HB.out 4 (by decide) (by decide) w1 hc).mono ?_
  rintro e w2 ⟨t, rfl, ht, hc2, hg2⟩
  have ho2 := own_apart ho hg2 hk
  have hg2' := hg.trans hg2
  have hkl := hc2.lt
  clear hc hg2 ho hg
  by_cases t0 : t = 0
  · subst t0
    go_wp2_with fail
    refine (HW.out 3 (by decide) w2 hc2).mono ?_
    rintro e w3 ⟨v3, l3, rfl, o3, q3, hc3, hg3⟩
    have hg3' := hg2'.trans hg3
    clear hg3 hc2
    go_wp2_with fail
    refine (HB.out 3 (by decide) (by decide) w3 hc3).mono ?_
    rintro e w4 ⟨n, rfl, hn, hc4, hg4⟩
    have o4 := own_apart o3 hg4 hkl
    have hg4' := hg3'.trans hg4
    have hN : (1 : Int) + (n : Int) = ((n + 1 : Nat) : Int) := by omega
    have HN := Lib.hid hN
    clear hN hg4 o3 hc3
    have l3n := q3.len
    go_wp2_with fail
    have hp := powerWordS_any v3 l3 (1 + (n : Int)) w4 o4.ints (by unfold I64; omega) (by omega)
    rw [HN.out] at hp ⊢
    refine (hp).mono ?_
    rintro e w5 ⟨v5, rfl, o5, hb5⟩
    clear hp
    go_wp2
    go_ret
    exact ⟨v5, _, rfl, o5.base hg4'.size, ((q3.gw (by decide)).pow (by omega)).more (by decide), hc4.keep hb5, hg4'.trans (grown_below hb5)⟩
  by_cases t1 : t = 1
  · subst t1
    go_wp2_with fail
    refine (HW.out 2 (by decide) w2 hc2).mono ?_
    rintro e w3 ⟨v3, l3, rfl, o3, q3, hc3, hg3⟩
    have hg3' := hg2'.trans hg3
    clear hg3 hc2
    go_wp2_with fail
    refine (HB.out 3 (by decide) (by decide) w3 hc3).mono ?_
    rintro e w4 ⟨n, rfl, hn, hc4, hg4⟩
    have o4 := own_apart o3 hg4 hkl
    have hg4' := hg3'.trans hg4
    have hN : (1 : Int) + (n : Int) = ((n + 1 : Nat) : Int) := by omega
    have HN := Lib.hid hN
    clear hN hg4 o3 hc3
    have l3n := q3.len
    go_wp2_with fail
    have hp := powerWordS_any v3 l3 (1 + (n : Int)) w4 o4.ints (by unfold I64; omega) (by omega)
    rw [HN.out] at hp ⊢
    refine (hp).mono ?_
    rintro e w5 ⟨v5, rfl, o5, hb5⟩
    clear hp
    have hc5 := hc4.keep hb5
    have hg5 := hg4'.trans (grown_below (row := some k) hb5)
    have g5 := (q3.gw (by decide)).pow (k := n + 1) (by omega)
    have h5k := hc4.lt
    clear hc4 hb5
    go_wp2_with fail
    refine (HW.out 3 (by decide) w5 hc5).mono ?_
    rintro e w6 ⟨v6, l6, rfl, o6, q6, hc6, hg6⟩
    have o5' := own_apart o5 hg6 h5k
    have hg6' := hg5.trans hg6
    have n5 := g5.len
    have n6 := q6.len
    clear hg6 hc5
    go_wp2_with fail
    refine (conjugateWordS_any v5 v6 _ l6 w6 o5'.ints o6.ints (by omega) (by omega)).mono ?_
    rintro e w7 ⟨v7, rfl, o7, hb7⟩
    go_wp2
    go_ret
    exact ⟨v7, _, rfl, o7.base hg6'.size, (g5.conj (q6.gw (by decide))).more (by decide), hc6.keep hb7, hg6'.trans (grown_below hb7)⟩
  have t0I : ¬ (t : Int) = 0 := by omega
  have t1I : ¬ (t : Int) = 1 := by omega
  go_wp2_with fail
  refine (HO.out w2 hc2).mono ?_
  rintro e w3 ⟨y, rfl, hc3, hg3⟩
  have ho3 := own_apart ho2 hg3 hk
  have hg3' := hg2'.trans hg3
  have hkl3 := hc3.lt
  clear hc2 hg3 ho2 hg2'
  cases y with
  | false =>
    go_wp2
    go_ret
    exact ⟨v, l, rfl, ho3, hf.more (by decide), hc3, hg3'⟩
  | true =>
    have hal : Below w3.heap.size w3 (w3.alloc (.cells #[.int .i64 5, .int .i64 (-5)] 3 (0, 0))) := (Below.refl _ _).alloc (Nat.le_refl _) _
    have hI : Ints (w3.alloc (.cells #[.int .i64 5, .int .i64 (-5)] 3 (0, 0))) (.slice (some ⟨w3.heap.size, 0, none⟩) 2 2) [5, -5] := ints_lit w3 [5, -5] (by simp [I64])
    have HP' := Lib.hid (HP.out _ _ [5, -5] (hc3.keep hal) hI (lit_ne hkl3) (by decide) (by decide))
    clear hI
    obtain ⟨g, cap, rfl, hown, hi⟩ := ho3
    have hi := Lib.hid hi
    have hgl : w.heap.size ≤ g := (ownsRow_parts hown).1
    have hlen := hf.len
    go_wp2_with fail
    refine (HP'.out).mono ?_
    rintro e w4 ⟨x, rfl, hx, hc4, hg4⟩
    have hx' : x = 5 ∨ x = -5 := by simpa using hx
    have HX := Lib.hid hx'
    clear hx hx'
    have hg4' := (grown_below (row := some k) hal).trans hg4
    have hown4 := hown.kept hg4' (.inr (by simp only [Value.ownBlock, ne_eq, Option.some.injEq]; omega))
    go_wp2_with (at_builtin; refine wpl_push elemI rfl (.tmp 33) (.tmp 37) rfl rfl (hown4.alloc _) rfl (heap_alloc_new _ _) rfl (by omega) ?_; intro g' cap' w5 hown' hgrow hat)
    have hg5 := grown_push ((hg3'.trans hg4').trans (World.grownBy_alloc _ _ _)) hgrow hgl
    have hc5 := (hc4.keep ((Below.refl _ _).alloc (Nat.le_refl _) _)).push hgrow hk hA hgl
    go_ret
    refine ⟨_, l ++ [x], rfl, ⟨g', cap', by simp, by rw [intsV_append, List.length_append]; exact hown', fun y hy => ?_⟩, ⟨by simp; omega, fun y hy => ?_⟩, hc5, hg5⟩
    · rcases List.mem_append.1 hy with hy | hy
      · exact hi.out y hy
      · have := HX.out; simp at hy; unfold I64; omega
    · rcases List.mem_append.1 hy with hy | hy
      · exact hf.good y hy
      · have := HX.out; simp at hy; omega
/-- One word in new memory. -/
def RetG (w : World) (n : Nat) (e : Ending) (w' : World) : Prop := ∃ v l, e = .returned v ∧ OwnI w' w.heap.size v l ∧ GW n l ∧ Below w.heap.size w w'
/-- Two words in new memory. -/
def RetGG (w : World) (n : Nat) (e : Ending) (w' : World) : Prop := ∃ v1 l1 v2 l2, e = .returned (.tuple #[v1, v2]) ∧ OwnI w' w.heap.size v1 l1 ∧ OwnI w' w.heap.size v2 l2 ∧ GW n l1 ∧ GW n l2 ∧ Below w.heap.size w w'
/-- A word in new memory and a number. -/
def RetGN (w : World) (n : Nat) (e : Ending) (w' : World) : Prop := ∃ v l r, e = .returned (.tuple #[v, .int .i64 r]) ∧ OwnI w' w.heap.size v l ∧ GW n l ∧ (-4 ≤ r ∧ r ≤ 7) ∧ Below w.heap.size w w'
set_option maxHeartbeats 1600000 in
theorem drawRootOf_any (A : Option Addr) (len cap : Nat) (w : World) (h : CodeArg w A len) (hl : len ≤ 1048576) : Calls Try.prog 36 #[.slice A len cap] w (RetG w 100) := by
  have HN := Lib.hid (l1New_any A len cap w h hl)
  clear h
  go_enter Try.func36, Try.ntmps36
  go_wp2_with fail
  refine (HN.out).mono ?_
  rintro e w1 ⟨k, rfl, hk, hc, hB1⟩
  go_wp2_with fail
  refine (l3Word_any k A len w1 hc).mono ?_
  rintro e w2 ⟨v1, l1, rfl, o1, f1, hc2, hg2⟩
  go_wp2
  go_ret
  exact ⟨v1, l1, rfl, o1.base hB1.size, f1, hB1.trans (below_of_grown hg2 hB1.size hk)⟩
set_option maxHeartbeats 1600000 in
theorem drawCyclicCore_any (A : Option Addr) (len cap : Nat) (w : World) (h : CodeArg w A len) (hl : len ≤ 1048576) : Calls Try.prog 55 #[.slice A len cap] w (RetG w 100) := by
  have HN := Lib.hid (l1New_any A len cap w h hl)
  clear h
  go_enter Try.func55, Try.ntmps55
  go_wp2_with fail
  refine (HN.out).mono ?_
  rintro e w1 ⟨k, rfl, hk, hc, hB1⟩
  go_wp2_with fail
  refine (l3Word_any k A len w1 hc).mono ?_
  rintro e w2 ⟨v1, l1, rfl, o1, f1, hc2, hg2⟩
  go_wp2
  go_ret
  exact ⟨v1, l1, rfl, o1.base hB1.size, f1, hB1.trans (below_of_grown hg2 hB1.size hk)⟩
set_option maxHeartbeats 1600000 in
theorem drawLeastRotation_any (A : Option Addr) (len cap : Nat) (w : World) (h : CodeArg w A len) (hl : len ≤ 1048576) : Calls Try.prog 63 #[.slice A len cap] w (RetG w 100) := by
  have HN := Lib.hid (l1New_any A len cap w h hl)
  clear h
  go_enter Try.func63, Try.ntmps63
  go_wp2_with fail
  refine (HN.out).mono ?_
  rintro e w1 ⟨k, rfl, hk, hc, hB1⟩
  go_wp2_with fail
  refine (l3Word_any k A len w1 hc).mono ?_
  rintro e w2 ⟨v1, l1, rfl, o1, f1, hc2, hg2⟩
  go_wp2
  go_ret
  exact ⟨v1, l1, rfl, o1.base hB1.size, f1, hB1.trans (below_of_grown hg2 hB1.size hk)⟩
set_option maxHeartbeats 1600000 in
theorem drawRotateWord_any (A : Option Addr) (len cap : Nat) (w : World) (h : CodeArg w A len) (hl : len ≤ 1048576) : Calls Try.prog 62 #[.slice A len cap] w (RetGN w 100) := by
  have HN := Lib.hid (l1New_any A len cap w h hl)
  clear h
  go_enter Try.func62, Try.ntmps62
  go_wp2_with fail
  refine (HN.out).mono ?_
  rintro e w1 ⟨k, rfl, hk, hc, hB1⟩
  go_wp2_with fail
  refine (l3Word_any k A len w1 hc).mono ?_
  rintro e w2 ⟨v1, l1, rfl, o1, f1, hc2, hg2⟩
  have hkb := hc.lt
  have hB2 := hB1.trans (below_of_grown hg2 hB1.size hk)
  clear hc
  go_wp2_with fail
  refine (l1Below_small k A len 12 w2 hc2 (by decide) (by decide)).mono ?_
  rintro e w3 ⟨x, rfl, hx, hc3, hg3⟩
  have hx' : -4 ≤ (x : Int) - 4 ∧ (x : Int) - 4 ≤ 7 := by omega
  have HX := Lib.hid hx'
  clear hx'
  go_wp2
  go_ret2
  exact ⟨v1, l1, _, rfl, (own_apart o1 hg3 hkb).base hB1.size, f1, HX.out, hB2.trans (below_of_grown hg3 hB2.size hk)⟩
set_option maxHeartbeats 1600000 in
theorem drawAreConjugate_any (A : Option Addr) (len cap : Nat) (w : World) (h : CodeArg w A len) (hl : len ≤ 1048576) : Calls Try.prog 59 #[.slice A len cap] w (RetGG w 200) := by
  have HN := Lib.hid (l1New_any A len cap w h hl)
  clear h
  go_enter Try.func59, Try.ntmps59
  go_wp2_with fail
  refine (HN.out).mono ?_
  rintro e w1 ⟨k, rfl, hk, hc, hB1⟩
  go_wp2_with fail
  refine (l3Word_any k A len w1 hc).mono ?_
  rintro e w2 ⟨v1, l1, rfl, o1, f1, hc2, hg2⟩
  have hkb := hc.lt
  have hB2 := hB1.trans (below_of_grown hg2 hB1.size hk)
  clear hc
  go_wp2_with fail
  refine (l1Once_small k A len 2 w2 hc2 (by decide) (by decide)).mono ?_
  rintro e w3 ⟨y, rfl, hc3, hg3⟩
  have o3 := own_apart o1 hg3 hkb
  have hB3 := hB2.trans (below_of_grown hg3 hB2.size hk)
  clear o1 hc2
  cases y with
  | true =>
    go_wp2_with fail
    refine (l2Of_any k A len 2 4 w3 hc3 (by decide) (by decide) (by decide)).mono ?_
    rintro e w4 ⟨v4, l4, rfl, o4, q4, hc4, hg4⟩
    have o5 := own_apart o3 hg4 hkb
    have hB4 := hB3.trans (below_of_grown hg4 hB3.size hk)
    have n1 := f1.len
    have n4 := q4.len
    go_wp2_with fail
    refine (conjugateWordS_any v1 v4 l1 l4 w4 o5.ints o4.ints (by omega) (by omega)).mono ?_
    rintro e w5 ⟨v5, rfl, o6, hb5⟩
    go_wp2
    go_ret2
    exact ⟨v1, l1, v5, _, rfl, (o5.keep hb5).base hB1.size, o6.base hB4.size, f1.more (by decide), (f1.conj (q4.gw (by decide))).more (by decide), hB4.trans (hb5.mono hB4.size)⟩
  | false =>
    go_wp2_with fail
    refine (l3Word_any k A len w3 hc3).mono ?_
    rintro e w4 ⟨v4, l4, rfl, o4, q4, hc4, hg4⟩
    have o5 := own_apart o3 hg4 hkb
    have hB4 := hB3.trans (below_of_grown hg4 hB3.size hk)
    go_wp2
    go_ret2
    exact ⟨v1, l1, v4, l4, rfl, o5.base hB1.size, o4.base hB3.size, f1.more (by decide), q4.more (by decide), hB4⟩
set_option maxHeartbeats 1600000 in
theorem drawDoCommute_any (A : Option Addr) (len cap : Nat) (w : World) (h : CodeArg w A len) (hl : len ≤ 1048576) : Calls Try.prog 40 #[.slice A len cap] w (RetGG w 7200) := by
  have HN := Lib.hid (l1New_any A len cap w h hl)
  clear h
  go_enter Try.func40, Try.ntmps40
  go_wp2_with fail
  refine (HN.out).mono ?_
  rintro e w1 ⟨k, rfl, hk, hc, hB1⟩
  go_wp2_with fail
  refine (l3Word_any k A len w1 hc).mono ?_
  rintro e w2 ⟨v1, l1, rfl, o1, f1, hc2, hg2⟩
  have hkb := hc.lt
  have hB2 := hB1.trans (below_of_grown hg2 hB1.size hk)
  clear hc
  go_wp2_with fail
  refine (l1Once_small k A len 2 w2 hc2 (by decide) (by decide)).mono ?_
  rintro e w3 ⟨y, rfl, hc3, hg3⟩
  have o3 := own_apart o1 hg3 hkb
  have hB3 := hB2.trans (below_of_grown hg3 hB2.size hk)
  clear o1 hc2
  cases y with
  | true =>
    have n1 := f1.len
    go_wp2_with fail
    refine (rootOfS_any v1 l1 w3 o3.ints (by omega)).mono ?_
    rintro e w4 ⟨v4, rfl, o4, hb4⟩
    have hc4 := hc3.keep hb4
    have o5 := o3.keep hb4
    have hB4 := hB3.trans (hb4.mono hB3.size)
    have h4k := hc3.lt
    have fr := f1.root
    clear hc3 o3 hb4
    go_wp2_with fail
    refine (l1Below_small k A len 4 w4 hc4 (by decide) (by decide)).mono ?_
    rintro e w5 ⟨n, rfl, hn, hc5, hg5⟩
    have o6 := own_apart o5 hg5 hkb
    have o7 := own_apart o4 hg5 h4k
    have hB5 := hB4.trans (below_of_grown hg5 hB4.size hk)
    have nr := fr.len
    clear hg5 hc4 o5 o4
    go_wp2_with fail
    refine (powerWordS_any _ _ (n : Int) w5 o7.ints (by unfold I64; omega) (by omega)).mono ?_
    rintro e w6 ⟨v6, rfl, o8, hb6⟩
    go_wp2
    go_ret2
    exact ⟨v1, l1, v6, _, rfl, (o6.keep hb6).base hB1.size, o8.base hB5.size, f1.more (by decide), (fr.pow (by omega)).more (by decide), hB5.trans (hb6.mono hB5.size)⟩
  | false =>
    go_wp2_with fail
    refine (l3Word_any k A len w3 hc3).mono ?_
    rintro e w4 ⟨v4, l4, rfl, o4, q4, hc4, hg4⟩
    have o5 := own_apart o3 hg4 hkb
    have hB4 := hB3.trans (below_of_grown hg4 hB3.size hk)
    go_wp2
    go_ret2
    exact ⟨v1, l1, v4, l4, rfl, o5.base hB1.size, o4.base hB3.size, f1.more (by decide), q4.more (by decide), hB4⟩
end Go.Proofs.Ytbghnllflfcfhaa
