/- Contracts of CyclicLength, RootOf, IsProperPower, AreConjugate. Conditions: words of at most 2^22 letters. -/
import Derived.Test.YtbghnllflfcfhaaCycD
import Derived.Test.YtbghnllflfcfhaaWordC
import Derived.Test.YtbghnllflfcfhaaWordH
namespace Go.Proofs.Ytbghnllflfcfhaa
open Go.RowKit

theorem cyclicLength_any (v : Value) (l : List Int) (w : World) (h : Ints w v l) (hn : l.length ≤ 33554432) :
    Calls Try.prog 58 #[v] w (RetV w (.int .i64 ((coreX (red l)).length : Nat))) := by
  have hc := cyclicCore_any v l w h (by omega)
  go_enter Try.func58, Try.ntmps58
  go_wp2_with fail
  refine hc.mono ?_
  rintro e w1 ⟨v1, v2, rfl, o1, _, _, hB⟩
  obtain ⟨g, cap, rfl, hown, hI⟩ := o1
  go_wp2
  go_ret
  exact ⟨rfl, hB⟩

/-- Whether the word is the same after d turns, and d divides its length. -/
def turns (c : List Int) (d : Nat) : Bool := decide (c.length % d = 0) && eqL (rotL c (rotK (d : Int) c.length)) c
def rootGo (c : List Int) : Nat → Nat → Nat
  | 0, _ => 0
  | f + 1, d => match turns c d with
    | true => d
    | false => rootGo c f (d + 1)
/-- The length of the root of a cyclic core; 0 if it is empty. -/
def rootD (c : List Int) : Nat := rootGo c c.length 1
def rootW (l : List Int) : List Int := match decide (0 < rootD (coreX (red l))) with
  | true => red (coreP (red l) ++ (coreX (red l)).take (rootD (coreX (red l))) ++ invW (coreP (red l)))
  | false => []
def rootN (l : List Int) : Nat := (coreX (red l)).length / rootD (coreX (red l))
theorem rootGo_yes {c : List Int} {f d : Nat} (h : turns c d = true) : rootGo c (f + 1) d = d := by simp [rootGo, h]
theorem rootGo_no {c : List Int} {f d : Nat} (h : turns c d = false) : rootGo c (f + 1) d = rootGo c f (d + 1) := by simp [rootGo, h]
theorem turns_odd {c : List Int} {d : Nat} (h : c.length % d ≠ 0) : turns c d = false := by simp [turns, h]
theorem turns_even {c : List Int} {d : Nat} (h : c.length % d = 0) : turns c d = eqL (rotL c (rotK (d : Int) c.length)) c := by simp [turns, h]

theorem quo_wrap {n d : Nat} (h : n ≤ 4194304) : ((n / d : Nat) : Int) = IntKind.i64.wrap ((n : Int) / (d : Int)) := by
  have h1 := Nat.div_le_self n d
  have h2 : (n : Int) / (d : Int) = ((n / d : Nat) : Int) := rfl
  rw [h2, IntKind.wrap_i64]
  obtain ⟨q, hq⟩ : ∃ q, q = n / d := ⟨_, rfl⟩
  rw [← hq] at h1 ⊢
  omega
theorem red3 (a b c : List Int) : red (red (a ++ b) ++ c) = red (a ++ b ++ c) := red_red_append _ _
/-- What RootOf hands back. -/
theorem rootW_yes {l : List Int} {d : Nat} (h : rootD (coreX (red l)) = d) (h0 : 0 < d) : rootW l = red (coreP (red l) ++ (coreX (red l)).take d ++ invW (coreP (red l))) := by
  subst h
  have hd : decide (0 < rootD (coreX (red l))) = true := decide_eq_true h0
  simp only [rootW, hd]
theorem rootW_no {l : List Int} (h : rootD (coreX (red l)) = 0) : rootW l = [] := by
  have hd : decide (0 < rootD (coreX (red l))) = false := decide_eq_false (by omega)
  simp only [rootW, hd]
set_option maxHeartbeats 1600000 in
theorem rootOf_any (v : Value) (l : List Int) (w : World) (h : Ints w v l) (hn : l.length ≤ 4194304) :
    Calls Try.prog 37 #[v] w (RetI2 w (rootW l) (.int .i64 (rootN l))) := by
  have hc := cyclicCore_any v l w h (by omega)
  have hlen := red_length l
  obtain ⟨c, hcx⟩ : ∃ c, c = coreX (red l) := ⟨_, rfl⟩
  obtain ⟨p, hpx⟩ : ∃ p, p = coreP (red l) := ⟨_, rfl⟩
  have hcl : c.length ≤ 4194304 := by rw [hcx, coreX_length]; omega
  have hpl : p.length ≤ 4194304 := by have := coreN_le (red l); rw [hpx, coreP_length]; omega
  have hres : Kept (∀ d, rootD c = d → 0 < d → rootW l = red (p ++ c.take d ++ invW p) ∧ rootN l = c.length / d) := ⟨fun d h1 h2 => by
    subst hcx hpx; exact ⟨rootW_yes h1 h2, by rw [rootN, h1]⟩⟩
  have hres0 : Kept (rootD c = 0 → rootW l = [] ∧ rootN l = 0) := ⟨fun h1 => by subst hcx; exact ⟨rootW_no h1, by rw [rootN, h1, Nat.div_zero]⟩⟩
  rw [← hcx, ← hpx] at hc
  have HC := Lib.hid hc
  clear hc hcx hpx hlen
  go_enter Try.func37, Try.ntmps37
  go_wp2_with fail
  refine (HC.out).mono ?_
  rintro e w1 ⟨v1, v2, rfl, o1, o2, _, hB⟩
  have hI1 := o1.ints
  have hI2 := o2.ints
  obtain ⟨b1, off1, cap1, rfl, hb1, hcap1⟩ := hI1.form
  obtain ⟨b2, off2, cap2, rfl, hb2, hcap2⟩ := hI2.form
  clear o1 o2
  go_wp2
  go_loopw [7] (fun fr wr => ∃ (d : Nat), fr = .int .i64 d ∧ 1 ≤ d ∧ d ≤ c.length + 1 ∧ Kept (rootD c = rootGo c (c.length + 1 - d) d) ∧ Below w1.heap.size w1 wr)
    (fun fr _ => c.length + 1 - (intOf fr).toNat)
  case atStart => exact ⟨1, rfl, by omega, by omega, ⟨rfl⟩, Below.refl _ _⟩
  case round =>
    obtain ⟨d, rfl, hd1, hdn, hgo, hbel⟩ := hrel
    by_cases hlt : d ≤ c.length
    · have hlI : (d : Int) ≤ (c.length : Int) := by omega
      have hd0 : ¬ (d : Int) = 0 := by omega
      have i1 := hI1.keep hbel
      have i2 := hI2.keep hbel
      by_cases hm : c.length % d = 0
      · have ht : (c.length : Int).tmod (d : Int) = 0 := by rw [Int.tmod_eq_emod_of_nonneg (by omega), ← Int.natCast_emod, hm]; rfl
        have hrot := rotateWord_any _ _ (d : Int) wr i1 (by omega)
        have HR := Lib.hid hrot
        clear hrot
        go_wp2_with fail
        refine (HR.out).mono ?_
        rintro e w2 ⟨v3, rfl, o3, hb⟩
        replace i1 := i1.keep hb
        replace i2 := i2.keep hb
        have hbel2 := hbel.trans (hb.mono hbel.size)
        clear hb
        have hew := equalWords_any _ _ _ _ _ o3.ints i1 (by rw [rotL_length]; omega)
        obtain ⟨y, hy⟩ : ∃ y, y = eqL (rotL c (rotK (d : Int) c.length)) c := ⟨_, rfl⟩
        rw [← hy] at hew
        have HE := Lib.hid hew
        clear hew
        go_wp2_with fail
        refine (HE.out).mono ?_
        rintro e w3 ⟨rfl, hb⟩
        replace i1 := i1.keep hb
        replace i2 := i2.keep hb
        replace hbel2 := hbel2.trans (hb.mono hbel2.size)
        clear hb o3
        cases y with
        | true =>
          have hz : Kept (rootW l = red (p ++ c.take d ++ invW p) ∧ rootN l = c.length / d) := ⟨hres.out d (by rw [hgo.out, show c.length + 1 - d = (c.length - d) + 1 by omega, rootGo_yes (by rw [turns_even hm, hy])]) (by omega)⟩
          clear hgo hy
          have hqv : Kept (((c.length / d : Nat) : Int) = IntKind.i64.wrap ((c.length : Int) / (d : Int))) := ⟨quo_wrap (by omega)⟩
          have hd00 : ¬ d = 0 := by omega
          have hcut := i1.cut 0 d (by omega) (by omega) cap1 (by omega)
          simp only [Nat.add_zero, Nat.sub_zero, List.drop_zero] at hcut
          have hdc2 : d ≤ cap1 := by omega
          have hR := (Below.refl w3.heap.size w3).drew
          go_wp2
          go_region_law (first
            | (go_simp; go_at_call 21; refine (invertWord_any _ _ _ (i2.keep hR) (by omega)).mono ?_; rintro e w4 ⟨v5, rfl, o5, hb⟩; have hR2 := hR.trans (hb.mono hR.size); clear hb; obtain ⟨g5, c5, rfl, _⟩ := id o5; have hR3 := rows2_three 22 (i2.keep hR2) (hcut.keep hR2) o5.ints; have hpr := product_any _ _ _ hR3 (by simp) (by simp [invW_length]; omega))
            | (go_simp; go_at_call 69; refine hpr.mono ?_; rintro e w6 ⟨v6, rfl, hr⟩))
          all_goals
            go_wp2
            go_ret2
            rw [hz.out.1, hz.out.2, hqv.out]
            have hBt := hB.trans ((hbel2.trans (hR2.mono hbel2.size)).mono hB.size)
            have hr' : RetI _ _ (.returned v6) w6 := ⟨v6, rfl, hr⟩
            obtain ⟨v7, hv, ho, hbt⟩ := RetI.from (hBt.alloc hBt.size _) hr'
            cases hv
            have ho2 : OwnI w6 w.heap.size v6 (red (p ++ c.take d ++ invW p)) := by
              rw [List.append_assoc]
              simpa using ho
            exact ⟨v6, rfl, ho2, hbt⟩
        | false =>
          have hk2 : Kept (rootD c = rootGo c (c.length + 1 - (d + 1)) (d + 1)) := ⟨by rw [hgo.out, show c.length + 1 - d = (c.length + 1 - (d + 1)) + 1 by omega, rootGo_no (by rw [turns_even hm, hy])]⟩
          clear hgo hy
          go_wp2
          go_roundw
          case rel => exact ⟨d + 1, by go_num, by omega, by omega, hk2, hbel2⟩
          case measure => simp [intOf]; omega
      · obtain ⟨t, ht0⟩ : ∃ t : Int, t = ((c.length % d : Nat) : Int) := ⟨_, rfl⟩
        have ht : (c.length : Int).tmod (d : Int) = t := by rw [Int.tmod_eq_emod_of_nonneg (by omega), ← Int.natCast_emod, ht0]
        have htz : (t == 0) = false := by simp only [beq_eq_false_iff_ne]; omega
        have hk2 : Kept (rootD c = rootGo c (c.length + 1 - (d + 1)) (d + 1)) := ⟨by rw [hgo.out, show c.length + 1 - d = (c.length + 1 - (d + 1)) + 1 by omega, rootGo_no (turns_odd hm)]⟩
        clear hm ht0 hgo i1 i2
        go_wp2
        go_roundw
        case rel => exact ⟨d + 1, by go_num, by omega, by omega, hk2, hbel⟩
        case measure => simp [intOf]; omega
    · have hlI : (c.length : Int) < (d : Int) := by omega
      have hz : Kept (rootW l = [] ∧ rootN l = 0) := ⟨hres0.out (by rw [hgo.out, show c.length + 1 - d = 0 by omega]; rfl)⟩
      clear hgo
      go_wp2
      go_ret2
      rw [hz.out.1, hz.out.2]
      have hBB := hB.trans (hbel.mono hB.size)
      exact RetI2.mk rfl (World.ownsRow_made _ _ _ hBB.size (by decide) rfl) (by simp) (hBB.alloc hBB.size _)
set_option maxHeartbeats 1600000 in
theorem rootOfS_any (v : Value) (l : List Int) (w : World) (h : Ints w v l) (hn : l.length ≤ 4194304) :
    Calls Try.prog 38 #[v] w (RetI2 w (rootW l) (.int .i64 (rootN l))) := by
  have hc := cyclicCoreS_any v l w h (by omega)
  have hlen := red_length l
  obtain ⟨c, hcx⟩ : ∃ c, c = coreX (red l) := ⟨_, rfl⟩
  obtain ⟨p, hpx⟩ : ∃ p, p = coreP (red l) := ⟨_, rfl⟩
  have hcl : c.length ≤ 4194304 := by rw [hcx, coreX_length]; omega
  have hpl : p.length ≤ 4194304 := by have := coreN_le (red l); rw [hpx, coreP_length]; omega
  have hres : Kept (∀ d, rootD c = d → 0 < d → rootW l = red (p ++ c.take d ++ invW p) ∧ rootN l = c.length / d) := ⟨fun d h1 h2 => by
    subst hcx hpx; exact ⟨rootW_yes h1 h2, by rw [rootN, h1]⟩⟩
  have hres0 : Kept (rootD c = 0 → rootW l = [] ∧ rootN l = 0) := ⟨fun h1 => by subst hcx; exact ⟨rootW_no h1, by rw [rootN, h1, Nat.div_zero]⟩⟩
  rw [← hcx, ← hpx] at hc
  have HC := Lib.hid hc
  clear hc hcx hpx hlen
  go_enter Try.func38, Try.ntmps38
  go_wp2_with fail
  refine (HC.out).mono ?_
  rintro e w1 ⟨v1, v2, rfl, o1, o2, _, hB⟩
  have hI1 := o1.ints
  have hI2 := o2.ints
  obtain ⟨b1, off1, cap1, rfl, hb1, hcap1⟩ := hI1.form
  obtain ⟨b2, off2, cap2, rfl, hb2, hcap2⟩ := hI2.form
  clear o1 o2
  go_wp2
  go_loopw [6] (fun fr wr => ∃ (d : Nat), fr = .int .i64 d ∧ 1 ≤ d ∧ d ≤ c.length + 1 ∧ Kept (rootD c = rootGo c (c.length + 1 - d) d) ∧ Below w1.heap.size w1 wr)
    (fun fr _ => c.length + 1 - (intOf fr).toNat)
  case atStart => exact ⟨1, rfl, by omega, by omega, ⟨rfl⟩, Below.refl _ _⟩
  case round =>
    obtain ⟨d, rfl, hd1, hdn, hgo, hbel⟩ := hrel
    by_cases hlt : d ≤ c.length
    · have hlI : (d : Int) ≤ (c.length : Int) := by omega
      have hd0 : ¬ (d : Int) = 0 := by omega
      have i1 := hI1.keep hbel
      have i2 := hI2.keep hbel
      by_cases hm : c.length % d = 0
      · have ht : (c.length : Int).tmod (d : Int) = 0 := by rw [Int.tmod_eq_emod_of_nonneg (by omega), ← Int.natCast_emod, hm]; rfl
        have hrot := rotateWordS_any _ _ (d : Int) wr i1 (by constructor <;> omega) (by omega)
        have HR := Lib.hid hrot
        clear hrot
        go_wp2_with fail
        refine (HR.out).mono ?_
        rintro e w2 ⟨v3, rfl, o3, hb⟩
        replace i1 := i1.keep hb
        replace i2 := i2.keep hb
        have hbel2 := hbel.trans (hb.mono hbel.size)
        clear hb
        have hew := equalWordsS_any _ _ _ _ _ o3.ints i1 (by rw [rotL_length]; omega)
        obtain ⟨y, hy⟩ : ∃ y, y = eqL (rotL c (rotK (d : Int) c.length)) c := ⟨_, rfl⟩
        rw [← hy] at hew
        have HE := Lib.hid hew
        clear hew
        go_wp2_with fail
        refine (HE.out).mono ?_
        rintro e w3 ⟨rfl, hb⟩
        replace i1 := i1.keep hb
        replace i2 := i2.keep hb
        replace hbel2 := hbel2.trans (hb.mono hbel2.size)
        clear hb o3
        cases y with
        | true =>
          have hz : Kept (rootW l = red (p ++ c.take d ++ invW p) ∧ rootN l = c.length / d) := ⟨hres.out d (by rw [hgo.out, show c.length + 1 - d = (c.length - d) + 1 by omega, rootGo_yes (by rw [turns_even hm, hy])]) (by omega)⟩
          clear hgo hy
          have hqv : Kept (((c.length / d : Nat) : Int) = IntKind.i64.wrap ((c.length : Int) / (d : Int))) := ⟨quo_wrap (by omega)⟩
          have hd00 : ¬ d = 0 := by omega
          have hcut := i1.cut 0 d (by omega) (by omega) cap1 (by omega)
          simp only [Nat.add_zero, Nat.sub_zero, List.drop_zero] at hcut
          have hdc2 : d ≤ cap1 := by omega
          have hcur := (Below.refl w3.heap.size w3).drew
          have hl6 := red_length (p ++ c.take d)
          simp only [List.length_append, List.length_take] at hl6
          have HL := Lib.hid hl6
          clear hl6
          go_wp2
          go_region_law (first
            | (go_simp; go_at_call 43; refine (invertWordS_any _ _ _ (i2.keep hcur) (by omega)).mono ?_; rintro e w4 ⟨v5, rfl, o5, hb⟩; replace hcur := hcur.trans (hb.mono hcur.size); (try replace o6 := o6.keep hb); clear hb)
            | (go_simp; go_at_call 20; refine (multiplyWordsS_any _ _ _ _ _ o6.ints o5.ints (by have := HL.out; omega) (by rw [invW_length]; omega)).mono ?_; rintro e w6 ⟨v7, rfl, o7, hb⟩)
            | (go_simp; go_at_call 20; refine (multiplyWordsS_any _ _ _ _ _ (i2.keep hcur) (hcut.keep hcur) (by omega) (by rw [List.length_take]; omega)).mono ?_; rintro e w5 ⟨v6, rfl, o6, hb⟩; replace hcur := hcur.trans (hb.mono hcur.size); (try replace o5 := o5.keep hb); clear hb))
          all_goals
            go_wp2
            go_ret2
            rw [hz.out.1, hz.out.2, hqv.out, ← red3]
            have hBt := hB.trans ((hbel2.trans (hcur.mono hbel2.size)).mono hB.size)
            exact ⟨v7, rfl, o7.base hBt.size, hBt.trans (hb.mono hBt.size)⟩
        | false =>
          have hk2 : Kept (rootD c = rootGo c (c.length + 1 - (d + 1)) (d + 1)) := ⟨by rw [hgo.out, show c.length + 1 - d = (c.length + 1 - (d + 1)) + 1 by omega, rootGo_no (by rw [turns_even hm, hy])]⟩
          clear hgo hy
          go_wp2
          go_roundw
          case rel => exact ⟨d + 1, by go_num, by omega, by omega, hk2, hbel2⟩
          case measure => simp [intOf]; omega
      · obtain ⟨t, ht0⟩ : ∃ t : Int, t = ((c.length % d : Nat) : Int) := ⟨_, rfl⟩
        have ht : (c.length : Int).tmod (d : Int) = t := by rw [Int.tmod_eq_emod_of_nonneg (by omega), ← Int.natCast_emod, ht0]
        have htz : (t == 0) = false := by simp only [beq_eq_false_iff_ne]; omega
        have hk2 : Kept (rootD c = rootGo c (c.length + 1 - (d + 1)) (d + 1)) := ⟨by rw [hgo.out, show c.length + 1 - d = (c.length + 1 - (d + 1)) + 1 by omega, rootGo_no (turns_odd hm)]⟩
        clear hm ht0 hgo i1 i2
        go_wp2
        go_roundw
        case rel => exact ⟨d + 1, by go_num, by omega, by omega, hk2, hbel⟩
        case measure => simp [intOf]; omega
    · have hlI : (c.length : Int) < (d : Int) := by omega
      have hz : Kept (rootW l = [] ∧ rootN l = 0) := ⟨hres0.out (by rw [hgo.out, show c.length + 1 - d = 0 by omega]; rfl)⟩
      clear hgo
      go_wp2
      go_ret2
      rw [hz.out.1, hz.out.2]
      have hBB := hB.trans (hbel.mono hB.size)
      exact RetI2.mk rfl (World.ownsRow_made _ _ _ hBB.size (by decide) rfl) (by simp) (hBB.alloc hBB.size _)
theorem rootGo_le (c : List Int) : ∀ f d, rootGo c f d ≤ d + f := by
  intro f
  induction f with
  | zero => intro d; simp [rootGo]
  | succ f ih =>
    intro d
    cases h : turns c d with
    | true => rw [rootGo_yes h]; omega
    | false => rw [rootGo_no h]; have := ih (d + 1); omega
theorem rootW_length (l : List Int) : (rootW l).length ≤ 3 * l.length := by
  have h1 := red_length l
  have h2 := coreN_le (red l)
  unfold rootW
  split
  · have h3 := red_length (coreP (red l) ++ (coreX (red l)).take (rootD (coreX (red l))) ++ invW (coreP (red l)))
    simp only [List.length_append, invW_length, coreP_length, List.length_take, coreX_length] at h3
    omega
  · simp
theorem isProperPower_any (v : Value) (l : List Int) (w : World) (h : Ints w v l) (hn : l.length ≤ 4194304) :
    Calls Try.prog 39 #[v] w (RetV w (.bool (decide ((1 : Int) < (rootN l : Nat))))) := by
  have hc := rootOf_any v l w h hn
  obtain ⟨n, hx⟩ : ∃ n, n = rootN l := ⟨_, rfl⟩
  rw [← hx] at hc ⊢
  have HC := Lib.hid hc
  clear hc hx
  go_enter Try.func39, Try.ntmps39
  go_wp2_with fail
  refine (HC.out).mono ?_
  rintro e w1 ⟨v1, rfl, o1, hB⟩
  go_wp2
  go_ret
  exact ⟨rfl, hB⟩
/-- The first turn of x from k on that is y. -/
def conjGo (x y : List Int) : Nat → Nat → Nat
  | 0, k => k
  | f + 1, k => match eqL (rotL x (rotK (k : Int) x.length)) y with
    | true => k
    | false => conjGo x y f (k + 1)
def conjK (x y : List Int) : Nat := conjGo x y x.length 0
theorem conjGo_yes {x y : List Int} {f k : Nat} (h : eqL (rotL x (rotK (k : Int) x.length)) y = true) : conjGo x y (f + 1) k = k := by simp [conjGo, h]
theorem conjGo_no {x y : List Int} {f k : Nat} (h : eqL (rotL x (rotK (k : Int) x.length)) y = false) : conjGo x y (f + 1) k = conjGo x y f (k + 1) := by simp [conjGo, h]
def conjAt (a b : List Int) : Nat := conjK (coreX (red a)) (coreX (red b))
def conjOk (a b : List Int) : Bool := decide ((coreX (red a)).length = (coreX (red b)).length) && (decide ((coreX (red a)).length = 0) || decide (conjAt a b < (coreX (red a)).length))
def conjW (a b : List Int) : List Int := match conjOk a b && decide ((coreX (red a)).length ≠ 0) with
  | true => red (coreP (red a) ++ (coreX (red a)).take (conjAt a b) ++ invW (coreP (red b)))
  | false => []
theorem conjW_length (a b : List Int) : (conjW a b).length ≤ 3 * a.length + 3 * b.length := by
  have h1 := red_length a
  have h2 := coreN_le (red a)
  have h3 := red_length b
  have h4 := coreN_le (red b)
  unfold conjW
  split
  · have h5 := red_length (coreP (red a) ++ (coreX (red a)).take (conjAt a b) ++ invW (coreP (red b)))
    simp only [List.length_append, invW_length, coreP_length, List.length_take, coreX_length] at h5
    omega
  · simp
theorem conj_len {a b : List Int} (h : (coreX (red a)).length ≠ (coreX (red b)).length) : conjW a b = [] ∧ conjOk a b = false := by
  have e : conjOk a b = false := by simp [conjOk, h]
  exact ⟨by simp [conjW, e], e⟩
theorem conj_nil {a b : List Int} (h : (coreX (red a)).length = (coreX (red b)).length) (h0 : (coreX (red a)).length = 0) : conjW a b = [] ∧ conjOk a b = true := by
  have e : conjOk a b = true := by simp only [conjOk, h0, ← h]; simp
  exact ⟨by simp only [conjW, h0]; simp, e⟩
theorem conj_no {a b : List Int} (h0 : (coreX (red a)).length ≠ 0) (hk : conjAt a b = (coreX (red a)).length) : conjW a b = [] ∧ conjOk a b = false := by
  have e : conjOk a b = false := by simp only [conjOk, hk]; simp [h0]
  exact ⟨by simp [conjW, e], e⟩
theorem conj_yes {a b : List Int} {k : Nat} (h : (coreX (red a)).length = (coreX (red b)).length) (hk : conjAt a b = k) (hlt : k < (coreX (red a)).length) :
    conjW a b = red (coreP (red a) ++ (coreX (red a)).take k ++ invW (coreP (red b))) ∧ conjOk a b = true := by
  have e : conjOk a b = true := by simp only [conjOk, hk, ← h]; simp [hlt]
  have e2 : decide ((coreX (red a)).length ≠ 0) = true := decide_eq_true (by omega)
  exact ⟨by simp only [conjW, e, e2, hk, Bool.and_self], e⟩
end Go.Proofs.Ytbghnllflfcfhaa
