/- Contracts of ParseWord. Conditions: texts of at most 2^20 bytes. -/
import Derived.Test.YtbghnllflfcfhaaWordF
import Derived.Test.YtbghnllflfcfhaaWordG
namespace Go.Proofs.Ytbghnllflfcfhaa
open Go.RowKit

/-- The letter of a byte, 0 for another one. -/
def letOf (c : Nat) : Int := if 97 ≤ c ∧ c ≤ 99 then c - 96 else if 65 ≤ c ∧ c ≤ 67 then 64 - c else 0
theorem letOf_i64 (c : Nat) : I64 (letOf c) := by unfold letOf I64; split <;> (try split) <;> omega
theorem letOf_chr {b : UInt8} (h : letOf b.toNat ≠ 0) : chr (letOf b.toNat) = b := by
  unfold letOf at h ⊢
  have hb := b.toNat_lt
  split at h
  · rename_i h1
    rw [if_pos h1]
    have : decide ((b.toNat : Int) - 96 < 0) = false := by simp; omega
    simp only [chr, this]
    have e : (96 + ((b.toNat : Int) - 96)).toNat = b.toNat := by omega
    rw [e, UInt8.ofNat_toNat]
  · rename_i h1
    rw [if_neg h1]
    split at h
    · rename_i h2
      rw [if_pos h2]
      have : decide ((64 : Int) - (b.toNat : Int) < 0) = true := by simp; omega
      simp only [chr, this]
      have e : (64 - ((64 : Int) - (b.toNat : Int))).toNat = b.toNat := by omega
      rw [e, UInt8.ofNat_toNat]
    · exact absurd rfl h
theorem letterOf_any (c : Nat) (hc : c < 256) (w : World) : Calls Try.prog 81 #[.int .u8 c] w fun e w' => e = .returned (.int .i64 (letOf c)) ∧ w = w' := by
  by_cases h1 : 97 ≤ c ∧ c ≤ 99
  · have : c = 97 ∨ c = 98 ∨ c = 99 := by omega
    rcases this with rfl | rfl | rfl
    all_goals
      clear h1
      go_enter Try.func81, Try.ntmps81
      go_wp2
      go_ret
      exact ⟨rfl, rfl⟩
  by_cases h2 : 65 ≤ c ∧ c ≤ 67
  · have : c = 65 ∨ c = 66 ∨ c = 67 := by omega
    rcases this with rfl | rfl | rfl
    all_goals
      clear h1 h2
      go_enter Try.func81, Try.ntmps81
      go_wp2
      go_ret
      exact ⟨rfl, rfl⟩
  have e : letOf c = 0 := by simp [letOf, h1, h2]
  rw [e]
  clear e
  have : c < 65 ∨ (67 < c ∧ c < 97) ∨ 99 < c := by omega
  rcases this with h | ⟨h, h'⟩ | h
  · have d1 : decide ((97 : Int) ≤ c) = false := decide_eq_false (by omega)
    have d2 : decide ((65 : Int) ≤ c) = false := decide_eq_false (by omega)
    clear h1 h2 h
    go_enter Try.func81, Try.ntmps81
    go_wp2
    go_ret
    exact ⟨rfl, rfl⟩
  · have d1 : decide ((97 : Int) ≤ c) = false := decide_eq_false (by omega)
    have d2 : decide ((65 : Int) ≤ c) = true := decide_eq_true (by omega)
    have d3 : decide ((c : Int) ≤ 67) = false := decide_eq_false (by omega)
    clear h1 h2 h h'
    go_enter Try.func81, Try.ntmps81
    go_wp2
    go_ret
    exact ⟨rfl, rfl⟩
  · have d1 : decide ((97 : Int) ≤ c) = true := decide_eq_true (by omega)
    have d2 : decide ((65 : Int) ≤ c) = true := decide_eq_true (by omega)
    have d3 : decide ((c : Int) ≤ 67) = false := decide_eq_false (by omega)
    have d4 : decide ((c : Int) ≤ 99) = false := decide_eq_false (by omega)
    clear h1 h2 h
    go_enter Try.func81, Try.ntmps81
    go_wp2
    go_ret
    exact ⟨rfl, rfl⟩

/-- The letters of a text; none for the text 1. -/
def parseL (s : List UInt8) : List Int := match decide (s = [49]) with
  | true => []
  | false => s.map fun b => letOf b.toNat
def parseOk (rank : Int) (s : List UInt8) : Bool := !s.isEmpty && isWord rank (parseL s)
def parseW (rank : Int) (s : List UInt8) : List Int := match parseOk rank s with
  | true => parseL s
  | false => []
theorem parseL_i64 (s : List UInt8) : ∀ x ∈ parseL s, I64 x := by
  intro x hx
  unfold parseL at hx
  split at hx
  · cases hx
  · simp only [List.mem_map] at hx
    obtain ⟨b, _, rfl⟩ := hx
    exact letOf_i64 _
theorem RetI2.mk {w w' : World} {g n cap : Nat} {l : List Int} {x : Value} (hn : l.length = n) (ho : w'.ownsRow w.heap.size 3 1 (.slice (some ⟨g, 0, none⟩) n cap) n (intsV l)) (hr : ∀ x ∈ l, I64 x) (hb : Below w.heap.size w w') :
    RetI2 w l x (.returned (.tuple #[.slice (some ⟨g, 0, none⟩) n cap, x])) w' := by
  subst hn
  exact ⟨_, rfl, ⟨g, cap, rfl, ho, hr⟩, hb⟩
theorem okFrom_mem {rank : Int} : ∀ {l : List Int} {p : Int}, okFrom rank p l = true → ∀ x ∈ l, x ≠ 0 ∧ -rank ≤ x ∧ x ≤ rank := by
  intro l
  induction l with
  | nil => intro p _ x hx; cases hx
  | cons a l ih =>
    intro p h x hx
    simp only [okFrom, Bool.and_eq_true, decide_eq_true_eq] at h
    rcases List.mem_cons.1 hx with rfl | hx
    · exact h.1
    · exact ih h.2.2 x hx
/-- A word's text reads back. -/
theorem fmt_parse {rank : Int} {s : List UInt8} (h0 : s ≠ []) (h : isWord rank (parseL s) = true) : fmtW (parseL s) = s := by
  simp only [isWord, Bool.and_eq_true, decide_eq_true_eq] at h
  obtain ⟨⟨hr1, hr2⟩, _, hok⟩ := h
  have hm := okFrom_mem hok
  by_cases h1 : s = [49]
  · subst h1; rfl
  have e : parseL s = s.map fun b => letOf b.toNat := by simp [parseL, h1]
  rw [e] at hm ⊢
  rw [fmtW_good (by cases s with | nil => exact absurd rfl h0 | cons a s => simp) (fun x hx => by
    have := hm x hx
    simp only [letOk, decide_eq_true_eq]
    omega)]
  rw [List.map_map]
  refine (List.map_congr_left fun b hb => ?_).trans (List.map_id _)
  have := hm (letOf b.toNat) (List.mem_map.2 ⟨b, hb, rfl⟩)
  exact letOf_chr this.1
theorem parse_yes {rank : Int} {s : List UInt8} (h0 : s ≠ []) (h : isWord rank (parseL s) = true) : parseOk rank s = true ∧ parseW rank s = parseL s := by
  have e : s.isEmpty = false := by cases s with | nil => exact absurd rfl h0 | cons a s => rfl
  have e2 : parseOk rank s = true := by simp [parseOk, e, h]
  exact ⟨e2, by simp [parseW, e2]⟩
theorem parse_no {rank : Int} {s : List UInt8} (h : isWord rank (parseL s) = false) : parseOk rank s = false ∧ parseW rank s = [] := by
  have e2 : parseOk rank s = false := by simp [parseOk, h]
  exact ⟨e2, by simp [parseW, e2]⟩
theorem parse_nil (rank : Int) : parseOk rank [] = false ∧ parseW rank [] = [] := ⟨rfl, rfl⟩
theorem parseL_one : parseL [49] = [] := rfl
theorem parseL_map {s : List UInt8} (h : s ≠ [49]) : parseL s = s.map fun b => letOf b.toNat := by simp [parseL, h]

set_option maxHeartbeats 1600000 in
theorem parseWord_any (rank : Int) (s : ByteArray) (hs : s.size ≤ 1048576) (w : World) :
    Calls Try.prog 45 #[.int .i64 rank, .string s] w (RetI2 w (parseW rank s.data.toList) (.bool (parseOk rank s.data.toList))) := by
  have ho0 : (w.alloc (Obj.cells #[] 3)).ownsRow w.heap.size 3 1 (.slice (some ⟨w.heap.size, 0, none⟩) 0 0) 0 [] := World.ownsRow_made _ _ _ (Nat.le_refl _) (by decide) rfl
  have hB0 := (Below.refl w.heap.size w).alloc (Nat.le_refl _) (Obj.cells #[] 3)
  by_cases h1 : s = ⟨#[49]⟩
  · subst h1
    have hI : Ints (w.alloc (Obj.cells #[] 3)) (.slice (some ⟨w.heap.size, 0, none⟩) 0 0) [] := OwnI.ints (B := w.heap.size) ⟨_, _, rfl, ho0, by simp⟩
    have hcw := isWord_any rank _ _ _ hI (by simp)
    have hcf := fun w1 (hB : Below (w.alloc (Obj.cells #[] 3)).heap.size (w.alloc (Obj.cells #[] 3)) w1) => formatWord_any _ _ _ (hI.keep hB) (by simp)
    have HF := Lib.hid hcf
    cases hw : isWord rank [] with
    | true =>
      obtain ⟨e1, e2⟩ := parse_yes (rank := rank) (s := [49]) (by simp) hw
      simp only [e1, e2, parseL_one]
      clear e1 e2
      have hfe : (fmtW [] == [49]) = true := rfl
      rw [hw] at hcw
      have HW := Lib.hid hcw
      clear hcw hcf hw
      go_enter Try.func45, Try.ntmps45
      go_wp2_with fail
      refine (HW.out).mono ?_
      rintro e w1 ⟨rfl, hb1⟩
      go_wp2_with fail
      refine (HF.out _ hb1).mono ?_
      rintro e w2 ⟨rfl, hb2⟩
      replace hb2 := hb1.trans (hb2.mono hb1.size)
      have hown2 := ownsRow_keep ho0 hb2
      go_wp2
      go_ret2
      exact RetI2.mk rfl hown2 (by simp) (hB0.trans (hb2.mono hB0.size))
    | false =>
      obtain ⟨e1, e2⟩ := parse_no (rank := rank) (s := [49]) hw
      simp only [e1, e2]
      rw [hw] at hcw
      have HW := Lib.hid hcw
      clear hcw hcf hw e1 e2
      go_enter Try.func45, Try.ntmps45
      go_wp2_with fail
      refine (HW.out).mono ?_
      rintro e w1 ⟨rfl, hb1⟩
      replace hb1 := hB0.trans (hb1.mono hB0.size)
      go_wp2
      go_ret2
      exact RetI2.mk rfl (World.ownsRow_made _ _ _ hb1.size (by decide) rfl) (by simp) (hb1.alloc hb1.size _)
  have h1' : s.data.toList ≠ [49] := fun e => h1 (by
    apply ByteArray.ext
    apply Array.ext'
    rw [e])
  have hpl := Lib.hid (parseL_map h1')
  have hne : (s.toList == [49]) = false := by rw [ByteArray.toList_eq]; exact beq_eq_false_iff_ne.2 h1'
  clear h1 h1'
  go_enter Try.func45, Try.ntmps45
  go_wp2
  go_loopw [6, 7] (fun out i wr => ∃ (k g cap : Nat) (o : List Int), k ≤ s.size ∧ i = .int .i64 k ∧ o.length = k ∧ out = .slice (some ⟨g, 0, none⟩) o.length cap ∧ wr.ownsRow w.heap.size 3 1 (.slice (some ⟨g, 0, none⟩) o.length cap) o.length (intsV o) ∧ Kept (o = (s.data.toList.take k).map fun b => letOf b.toNat) ∧ Below w.heap.size w wr)
    (fun _ i _ => s.size - (intOf i).toNat)
  case atStart => exact ⟨0, _, 0, [], by omega, rfl, rfl, rfl, ho0, ⟨rfl⟩, hB0⟩
  case round =>
    obtain ⟨k, g, cap, o, hk, rfl, hol, rfl, hown, hok, hbel⟩ := hrel
    have hg : w.heap.size ≤ g := (ownsRow_parts hown).1
    have hol' : o.length ≤ s.size := by omega
    by_cases hlt : k < s.size
    · have hb := s[k].toNat_lt
      have hcl := letterOf_any s[k].toNat (by omega)
      have HL := Lib.hid hcl
      have hst : Kept (o ++ [letOf s[k].toNat] = (s.data.toList.take (k + 1)).map fun b => letOf b.toNat) := ⟨by rw [take_snoc s k hlt, List.map_append, ← hok.out]; rfl⟩
      have hole : Kept (o.length = k) := ⟨hol⟩
      clear hcl hok hol
      go_wp2_with (first | (go_at_call 81; refine (HL.out _).mono ?_; rintro e w' ⟨rfl, rfl⟩) | (at_builtin; refine wpl_push elemI rfl (.tmp 17) (.tmp 22) rfl rfl (hown.alloc _) rfl (heap_alloc_new _ _) rfl (by omega) ?_; intro g' cap' w1 hown' hgrow hat))
      have hb1 := below_push hbel hgrow hg (Nat.le_refl _)
      have hlen3 : o.length + 1 = (o ++ [letOf s[k].toNat]).length := by simp
      have ho3 : w1.ownsRow w.heap.size 3 1 (.slice (some ⟨g', 0, none⟩) (o.length + 1) cap') (o.length + 1) (intsV (o ++ [letOf s[k].toNat])) := by rw [intsV_append]; exact hown'
      clear hown'
      go_roundw
      case rel => exact ⟨k + 1, g', cap', o ++ [letOf s[k].toNat], by omega, by go_num, by have := hole.out; omega, by rw [hlen3], by rw [← hlen3]; exact ho3, hst, hb1⟩
      case measure => simp [intOf]; omega
    · obtain rfl : k = s.size := by omega
      have hpo : Kept (parseL s.data.toList = o) := ⟨by rw [hpl.out, hok.out, take_all]⟩
      have hro : ∀ x ∈ o, I64 x := by rw [← hpo.out]; exact parseL_i64 _
      have hI : Ints wr (.slice (some ⟨g, 0, none⟩) o.length cap) o := OwnI.ints (B := w.heap.size) ⟨g, cap, rfl, hown, hro⟩
      have hok' := Lib.hid hro
      have hcw := isWord_any rank _ _ _ hI (by omega)
      clear hro hok hol
      have hcf := fun w1 (hB : Below wr.heap.size wr w1) => formatWord_any _ _ _ (hI.keep hB) (by omega)
      have HF := Lib.hid hcf
      cases hw : isWord rank o with
      | true =>
        by_cases hnil : s.data.toList = []
        · have hE : Kept (parseOk rank s.data.toList = false ∧ parseW rank s.data.toList = []) := ⟨by rw [hnil]; exact parse_nil rank⟩
          have hol0 : o = [] := by rw [← hpo.out, hnil]; rfl
          have hfe : (fmtW o == s.toList) = false := by rw [ByteArray.toList_eq, hnil, hol0]; rfl
          rw [hw] at hcw
          have HW := Lib.hid hcw
          clear hcw hcf hw hnil hol0
          go_wp2_with fail
          refine (HW.out).mono ?_
          rintro e w1 ⟨rfl, hb1⟩
          go_wp2_with fail
          refine (HF.out _ hb1).mono ?_
          rintro e w2 ⟨rfl, hb2⟩
          replace hb2 := hbel.trans ((hb1.trans (hb2.mono hb1.size)).mono hbel.size)
          go_wp2
          go_ret2
          rw [hE.out.1, hE.out.2]
          exact RetI2.mk rfl (World.ownsRow_made _ _ _ hb2.size (by decide) rfl) (by simp) (hb2.alloc hb2.size _)
        have hfo : fmtW o = s.data.toList := by rw [← hpo.out]; exact fmt_parse hnil (by rw [hpo.out]; exact hw)
        have hfe : (fmtW o == s.toList) = true := by rw [ByteArray.toList_eq, hfo]; simp
        have hE := Lib.hid (parse_yes (rank := rank) hnil (by rw [hpo.out]; exact hw))
        clear hfo hnil
        rw [hw] at hcw
        have HW := Lib.hid hcw
        clear hcw hcf hw
        skip
        go_wp2_with fail
        refine (HW.out).mono ?_
        rintro e w1 ⟨rfl, hb1⟩
        go_wp2_with fail
        refine (HF.out _ hb1).mono ?_
        rintro e w2 ⟨rfl, hb2⟩
        replace hb2 := hb1.trans (hb2.mono hb1.size)
        have hown2 := ownsRow_keep hown hb2
        go_wp2
        go_ret2
        rw [hE.out.1, hE.out.2, hpo.out]
        exact RetI2.mk rfl hown2 hok'.out (hbel.trans (hb2.mono hbel.size))
      | false =>
        have hE := Lib.hid (parse_no (rank := rank) (s := s.data.toList) (by rw [hpo.out]; exact hw))
        rw [hw] at hcw
        have HW := Lib.hid hcw
        clear hcw hcf hw
        skip
        go_wp2_with fail
        refine (HW.out).mono ?_
        rintro e w1 ⟨rfl, hb1⟩
        replace hb1 := hbel.trans (hb1.mono hbel.size)
        go_wp2
        go_ret2
        rw [hE.out.1, hE.out.2]
        exact RetI2.mk rfl (World.ownsRow_made _ _ _ hb1.size (by decide) rfl) (by simp) (hb1.alloc hb1.size _)
theorem parse_bad {rank : Int} {s : ByteArray} {k : Nat} (h1 : s.data.toList ≠ [49]) (hk : k < s.size) (h : letOf s[k].toNat = 0) : isWord rank (parseL s.data.toList) = false := by
  cases hw : isWord rank (parseL s.data.toList) with
  | false => rfl
  | true =>
    simp only [isWord, Bool.and_eq_true] at hw
    have hm := okFrom_mem hw.2.2 0 (by
      rw [parseL_map h1, List.mem_map]
      refine ⟨s[k], ?_, h⟩
      have : s[k] = s.data.toList[k]'(by simpa using hk) := rfl
      rw [this]
      exact List.getElem_mem _)
    exact absurd rfl hm.1
set_option maxHeartbeats 1600000 in
theorem parseWordS_any (rank : Int) (s : ByteArray) (hs : s.size ≤ 1048576) (w : World) :
    Calls Try.prog 50 #[.int .i64 rank, .string s] w (RetI2 w (parseW rank s.data.toList) (.bool (parseOk rank s.data.toList))) := by
  have ho0 : (w.alloc (Obj.cells #[] 3)).ownsRow w.heap.size 3 1 (.slice (some ⟨w.heap.size, 0, none⟩) 0 0) 0 [] := World.ownsRow_made _ _ _ (Nat.le_refl _) (by decide) rfl
  have hB0 := (Below.refl w.heap.size w).alloc (Nat.le_refl _) (Obj.cells #[] 3)
  by_cases h1 : s = ⟨#[49]⟩
  · subst h1
    have hI : Ints (w.alloc (Obj.cells #[] 3)) (.slice (some ⟨w.heap.size, 0, none⟩) 0 0) [] := OwnI.ints (B := w.heap.size) ⟨_, _, rfl, ho0, by simp⟩
    have hcw := isWordS_any rank _ _ _ hI (by simp)
    cases hw : isWord rank [] with
    | true =>
      have hE := Lib.hid (parse_yes (rank := rank) (s := [49]) (by simp) hw)
      rw [hw] at hcw
      have HW := Lib.hid hcw
      clear hcw hw
      go_enter Try.func50, Try.ntmps50
      go_wp2
      refine wp_loop_rounds 1 ?_
      rw [rounds_succ]
      go_wp2_with fail
      refine (HW.out).mono ?_
      rintro e w1 ⟨rfl, hb1⟩
      have hown2 := ownsRow_keep ho0 hb1
      go_wp2
      go_ret2
      show RetI2 w (parseW rank [49]) (.bool (parseOk rank [49])) _ _
      rw [hE.out.1, hE.out.2]
      exact RetI2.mk rfl hown2 (by rw [parseL_one]; simp) (hB0.trans (hb1.mono hB0.size))
    | false =>
      have hE := Lib.hid (parse_no (rank := rank) (s := [49]) hw)
      rw [hw] at hcw
      have HW := Lib.hid hcw
      clear hcw hw
      go_enter Try.func50, Try.ntmps50
      go_wp2
      refine wp_loop_rounds 1 ?_
      rw [rounds_succ]
      go_wp2_with fail
      refine (HW.out).mono ?_
      rintro e w1 ⟨rfl, hb1⟩
      replace hb1 := hB0.trans (hb1.mono hB0.size)
      go_wp2
      go_ret2
      show RetI2 w (parseW rank [49]) (.bool (parseOk rank [49])) _ _
      rw [hE.out.1, hE.out.2]
      exact RetI2.mk rfl (World.ownsRow_made _ _ _ hb1.size (by decide) rfl) (by simp) (hb1.alloc hb1.size _)
  have h1' : s.data.toList ≠ [49] := fun e => h1 (by
    apply ByteArray.ext
    apply Array.ext'
    rw [e])
  have hpl := Lib.hid (parseL_map h1')
  have hne : (s.toList == [49]) = false := by rw [ByteArray.toList_eq]; exact beq_eq_false_iff_ne.2 h1'
  have H1 := Lib.hid h1'
  clear h1 h1'
  go_enter Try.func50, Try.ntmps50
  go_wp2
  go_loopw [6, 7] (fun out i wr => ∃ (k g cap : Nat) (o : List Int), k ≤ s.size ∧ i = .int .i64 k ∧ o.length = k ∧ out = .slice (some ⟨g, 0, none⟩) o.length cap ∧ wr.ownsRow w.heap.size 3 1 (.slice (some ⟨g, 0, none⟩) o.length cap) o.length (intsV o) ∧ Kept (o = (s.data.toList.take k).map fun b => letOf b.toNat) ∧ Below w.heap.size w wr)
    (fun _ i _ => s.size - (intOf i).toNat)
  case atStart => exact ⟨0, _, 0, [], by omega, rfl, rfl, rfl, ho0, ⟨rfl⟩, hB0⟩
  case round =>
    obtain ⟨k, g, cap, o, hk, rfl, hol, rfl, hown, hok, hbel⟩ := hrel
    have hg : w.heap.size ≤ g := (ownsRow_parts hown).1
    have hol' : o.length ≤ s.size := by omega
    by_cases hlt : k < s.size
    · have hb := s[k].toNat_lt
      have hst : Kept (o ++ [letOf s[k].toNat] = (s.data.toList.take (k + 1)).map fun b => letOf b.toNat) := ⟨by rw [take_snoc s k hlt, List.map_append, ← hok.out]; rfl⟩
      have hole : Kept (o.length = k) := ⟨hol⟩
      clear hok hol
      by_cases hc1 : 97 ≤ s[k].toNat ∧ s[k].toNat ≤ 99
      · have hv : s[k].toNat = 97 ∨ s[k].toNat = 98 ∨ s[k].toNat = 99 := by omega
        have hc2 : True := trivial
        clear hc1 hb
        rcases hv with e | e | e
        all_goals
          have hlo := congrArg letOf e
          obtain ⟨y, hy⟩ : ∃ y, y = letOf s[k].toNat := ⟨_, rfl⟩
          rw [← hy] at hlo hst
          simp (decide := true) [letOf] at hlo
          subst hlo
          clear hy hc2
          go_wp2_with (at_builtin; refine wpl_push elemI rfl (.tmp 31) (.tmp 38) rfl rfl (hown.alloc _) rfl (heap_alloc_new _ _) rfl (by omega) ?_; intro g' cap' w1 hown' hgrow hat)
          have hb1 := below_push hbel hgrow hg (Nat.le_refl _)
          rw [show ∀ z : Int, [Value.int .i64 z] = intsV [z] from fun _ => rfl, ← intsV_append] at hown'
          have hlen3 : ∀ z : Int, (o ++ [z]).length = o.length + 1 := fun z => by simp
          go_roundw
          case rel => exact ⟨k + 1, g', cap', _, by omega, by go_num, by have := hole.out; rw [hlen3]; omega, by rw [hlen3], by rw [hlen3]; exact hown', hst, hb1⟩
          case measure => simp [intOf]; omega
      by_cases hc2 : 65 ≤ s[k].toNat ∧ s[k].toNat ≤ 67
      · have hv : s[k].toNat = 65 ∨ s[k].toNat = 66 ∨ s[k].toNat = 67 := by omega
        clear hc1 hb
        rcases hv with e | e | e
        all_goals
          have hlo := congrArg letOf e
          obtain ⟨y, hy⟩ : ∃ y, y = letOf s[k].toNat := ⟨_, rfl⟩
          rw [← hy] at hlo hst
          simp (decide := true) [letOf] at hlo
          subst hlo
          clear hy hc2
          go_wp2_with (at_builtin; refine wpl_push elemI rfl (.tmp 51) (.tmp 59) rfl rfl (hown.alloc _) rfl (heap_alloc_new _ _) rfl (by omega) ?_; intro g' cap' w1 hown' hgrow hat)
          have hb1 := below_push hbel hgrow hg (Nat.le_refl _)
          rw [show ∀ z : Int, [Value.int .i64 z] = intsV [z] from fun _ => rfl, ← intsV_append] at hown'
          have hlen3 : ∀ z : Int, (o ++ [z]).length = o.length + 1 := fun z => by simp
          go_roundw
          case rel => exact ⟨k + 1, g', cap', _, by omega, by go_num, by have := hole.out; rw [hlen3]; omega, by rw [hlen3], by rw [hlen3]; exact hown', hst, hb1⟩
          case measure => simp [intOf]; omega
      have hl0 : letOf s[k].toNat = 0 := by simp [letOf, hc1, hc2]
      have hE := Lib.hid (parse_no (rank := rank) (parse_bad H1.out hlt hl0))
      clear hst hl0
      have : s[k].toNat < 65 ∨ (67 < s[k].toNat ∧ s[k].toNat < 97) ∨ 99 < s[k].toNat := by omega
      rcases this with h | ⟨h, h'⟩ | h
      · have d1 : decide ((97 : Int) ≤ s[k].toNat) = false := decide_eq_false (by omega)
        have d2 : decide ((65 : Int) ≤ s[k].toNat) = false := decide_eq_false (by omega)
        clear hc1 hc2 h hb
        go_wp2
        go_ret2
        rw [hE.out.1, hE.out.2]
        exact RetI2.mk rfl (World.ownsRow_made _ _ _ hbel.size (by decide) rfl) (by simp) (hbel.alloc hbel.size _)
      · have d1 : decide ((97 : Int) ≤ s[k].toNat) = false := decide_eq_false (by omega)
        have d2 : decide ((65 : Int) ≤ s[k].toNat) = true := decide_eq_true (by omega)
        have d3 : decide ((s[k].toNat : Int) ≤ 67) = false := decide_eq_false (by omega)
        clear hc1 hc2 h h' hb
        go_wp2
        go_ret2
        rw [hE.out.1, hE.out.2]
        exact RetI2.mk rfl (World.ownsRow_made _ _ _ hbel.size (by decide) rfl) (by simp) (hbel.alloc hbel.size _)
      · have d1 : decide ((97 : Int) ≤ s[k].toNat) = true := decide_eq_true (by omega)
        have d2 : decide ((65 : Int) ≤ s[k].toNat) = true := decide_eq_true (by omega)
        have d3 : decide ((s[k].toNat : Int) ≤ 67) = false := decide_eq_false (by omega)
        have d4 : decide ((s[k].toNat : Int) ≤ 99) = false := decide_eq_false (by omega)
        clear hc1 hc2 h hb
        go_wp2
        go_ret2
        rw [hE.out.1, hE.out.2]
        exact RetI2.mk rfl (World.ownsRow_made _ _ _ hbel.size (by decide) rfl) (by simp) (hbel.alloc hbel.size _)
    · obtain rfl : k = s.size := by omega
      have hpo : Kept (parseL s.data.toList = o) := ⟨by rw [hpl.out, hok.out, take_all]⟩
      have hro : ∀ x ∈ o, I64 x := by rw [← hpo.out]; exact parseL_i64 _
      have hI : Ints wr (.slice (some ⟨g, 0, none⟩) o.length cap) o := OwnI.ints (B := w.heap.size) ⟨g, cap, rfl, hown, hro⟩
      have hok' := Lib.hid hro
      have hcw := isWordS_any rank _ _ _ hI (by omega)
      clear hro hok hol
      by_cases hnil : s.data.toList = []
      · have hE : Kept (parseOk rank s.data.toList = false ∧ parseW rank s.data.toList = []) := ⟨by rw [hnil]; exact parse_nil rank⟩
        have hd : s.toList.isEmpty = true := by rw [ByteArray.toList_eq, hnil]; rfl
        clear hnil hcw
        go_wp2
        go_ret2
        rw [hE.out.1, hE.out.2]
        exact RetI2.mk rfl (World.ownsRow_made _ _ _ hbel.size (by decide) rfl) (by simp) (hbel.alloc hbel.size _)
      have hd : s.toList.isEmpty = false := by rw [ByteArray.toList_eq]; cases hq : s.data.toList with
        | nil => exact absurd hq hnil
        | cons a l => rfl
      cases hw : isWord rank o with
      | true =>
        have hE := Lib.hid (parse_yes (rank := rank) hnil (by rw [hpo.out]; exact hw))
        rw [hw] at hcw
        have HW := Lib.hid hcw
        clear hcw hw hnil
        go_wp2_with fail
        refine (HW.out).mono ?_
        rintro e w1 ⟨rfl, hb1⟩
        have hown2 := ownsRow_keep hown hb1
        go_wp2
        go_ret2
        rw [hE.out.1, hE.out.2, hpo.out]
        exact RetI2.mk rfl hown2 hok'.out (hbel.trans (hb1.mono hbel.size))
      | false =>
        have hE := Lib.hid (parse_no (rank := rank) (s := s.data.toList) (by rw [hpo.out]; exact hw))
        rw [hw] at hcw
        have HW := Lib.hid hcw
        clear hcw hw hnil
        go_wp2_with fail
        refine (HW.out).mono ?_
        rintro e w1 ⟨rfl, hb1⟩
        replace hb1 := hbel.trans (hb1.mono hbel.size)
        go_wp2
        go_ret2
        rw [hE.out.1, hE.out.2]
        exact RetI2.mk rfl (World.ownsRow_made _ _ _ hb1.size (by decide) rfl) (by simp) (hb1.alloc hb1.size _)
theorem parseW_length (rank : Int) (s : List UInt8) : (parseW rank s).length ≤ s.length := by
  unfold parseW
  split
  · unfold parseL
    split <;> simp
  · simp
end Go.Proofs.Ytbghnllflfcfhaa
