/- Contracts of IsWord. Conditions: words of at most 2^26 letters. -/
import Derived.Test.YtbghnllflfcfhaaArgs
import Derived.Test.YtbghnllflfcfhaaWordB
import Derived.Test.YtbghnllflfcfhaaWithin
namespace Go.Proofs.Ytbghnllflfcfhaa
open Go.RowKit

/-- A contract that leaves the world alone, met in a region of quiet operations whose world has drawn before. -/
theorem quietF {P : Program} {f : FuncId} {args : Array Value} {w : World} {n m : Nat} {v : Value} (h : ∀ w, Calls P f args w fun e w' => e = .returned v ∧ w = w') :
    Calls P f args (w.drewN (n + m)) fun e w'' => e = .returned v ∧ ∃ k, w'' = w.drewN (n + k) := (h _).mono fun _ _ ⟨he, hw⟩ => ⟨he, m, hw.symm⟩
/-- Letters of the rank, none beside its inverse; the letter before the first one is told (0: none). -/
def okFrom (rank : Int) : Int → List Int → Bool
  | _, [] => true
  | prev, x :: l => decide (x ≠ 0 ∧ -rank ≤ x ∧ x ≤ rank) && (!inv prev x && okFrom rank x l)
def isWord (rank : Int) (l : List Int) : Bool := decide (1 ≤ rank ∧ rank ≤ 3) && (decide (l.length ≤ 24) && okFrom rank 0 l)
def prevAt (l : List Int) : Nat → Int
  | 0 => 0
  | k + 1 => l.getD k 0
theorem prevAt_succ {l : List Int} {k : Nat} (h : k < l.length) : prevAt l (k + 1) = l[k] := by simp [prevAt, List.getD_eq_getElem?_getD, h]
theorem okFrom_step {rank : Int} {l : List Int} {k : Nat} (h : k < l.length) (h1 : l[k] ≠ 0) (h2 : -rank ≤ l[k]) (h3 : l[k] ≤ rank) (h4 : inv (prevAt l k) l[k] = false) :
    okFrom rank (prevAt l k) (l.drop k) = okFrom rank (prevAt l (k + 1)) (l.drop (k + 1)) := by
  rw [List.drop_eq_getElem_cons h, prevAt_succ h]; simp [okFrom, h1, h2, h3, h4]
theorem okFrom_letter {rank : Int} {l : List Int} {k : Nat} (h : k < l.length) (h1 : ¬ (l[k] ≠ 0 ∧ -rank ≤ l[k] ∧ l[k] ≤ rank)) : okFrom rank (prevAt l k) (l.drop k) = false := by
  rw [List.drop_eq_getElem_cons h]
  have : decide (l[k] ≠ 0 ∧ -rank ≤ l[k] ∧ l[k] ≤ rank) = false := decide_eq_false h1
  simp only [okFrom, this, Bool.false_and]
theorem okFrom_inv {rank : Int} {l : List Int} {k : Nat} (h : k < l.length) (h1 : inv (prevAt l k) l[k] = true) : okFrom rank (prevAt l k) (l.drop k) = false := by
  rw [List.drop_eq_getElem_cons h]; simp [okFrom, h1]
theorem okFrom_end {rank p : Int} {l : List Int} {k : Nat} (h : l.length ≤ k) : okFrom rank p (l.drop k) = true := by
  rw [List.drop_eq_nil_of_le h]; rfl
theorem inv_zero (x : Int) : inv 0 x = false := by simp [inv]

theorem isLetter_any (rank x : Int) (h1 : 1 ≤ rank) (h2 : rank ≤ 3) (w : World) : Calls Try.prog 75 #[.int .i64 rank, .int .i64 x] w fun e w' => e = .returned (.bool (decide (x ≠ 0 ∧ -rank ≤ x ∧ x ≤ rank))) ∧ w = w' := by
  by_cases h0 : x = 0
  · subst h0
    have e : decide ((0 : Int) ≠ 0 ∧ -rank ≤ 0 ∧ 0 ≤ rank) = false := by simp
    rw [e]
    clear e
    go_enter Try.func75, Try.ntmps75
    go_wp2
    go_ret
    exact ⟨rfl, rfl⟩
  · have hd : (x != 0) = true := by simp [h0]
    have e : decide (x ≠ 0 ∧ -rank ≤ x ∧ x ≤ rank) = decide (-rank ≤ x ∧ x ≤ rank) := by simp [h0]
    rw [e]
    clear e h0
    obtain ⟨b, hb⟩ : ∃ b, b = decide (-rank ≤ x ∧ x ≤ rank) := ⟨_, rfl⟩
    have hc := within_any x (-rank) rank
    rw [← hb] at hc ⊢
    have HC := Lib.hid hc
    clear hc hb
    go_enter Try.func75, Try.ntmps75
    go_wp2_with (go_at_call 73; refine (HC.out _).mono ?_; rintro e w' ⟨rfl, rfl⟩)
    go_ret
    exact ⟨rfl, rfl⟩

set_option maxHeartbeats 1600000 in
theorem isWord_any (rank : Int) (v : Value) (l : List Int) (w : World) (h : Ints w v l) (hn : l.length ≤ 134217728) :
    Calls Try.prog 33 #[.int .i64 rank, v] w (RetV w (.bool (isWord rank l))) := by
  by_cases hr : 1 ≤ rank ∧ rank ≤ 3
  case neg =>
    have e : isWord rank l = false := by
      have : decide (1 ≤ rank ∧ rank ≤ 3) = false := decide_eq_false hr
      simp [isWord, this]
    have hr' : rank < 1 ∨ 3 < rank := by omega
    rw [e]
    clear e hr
    go_enter Try.func33, Try.ntmps33
    go_wp2_with (go_at_call 73; refine (within_no hr' _).mono ?_; rintro e w' ⟨rfl, rfl⟩)
    go_ret
    exact ⟨rfl, Below.refl _ _⟩
  have hd1 : decide (1 ≤ rank ∧ rank ≤ 3) = true := decide_eq_true hr
  obtain ⟨hr1, hr2⟩ := hr
  obtain ⟨b, off, cap, rfl, hc, hb, hcell, hrg⟩ := h
  by_cases hl : l.length ≤ 24
  case neg =>
    have e : isWord rank l = false := by simp [isWord, hl]
    have hl' : 24 < l.length := by omega
    rw [e]
    clear e hl hd1
    go_enter Try.func33, Try.ntmps33
    go_wp2_with (go_at_call 73; refine (within_yes hr1 hr2 _).mono ?_; rintro e w' ⟨rfl, rfl⟩)
    go_ret
    exact ⟨rfl, Below.refl _ _⟩
  have hG : isWord rank l = okFrom rank 0 l := by simp [isWord, hr1, hr2, hl]
  rw [hG]
  clear hG hd1
  have H := Lib.hid hcell
  clear hcell
  go_enter Try.func33, Try.ntmps33
  go_wp2_with (go_at_call 73; refine (within_yes hr1 hr2 _).mono ?_; rintro e w' ⟨rfl, rfl⟩)
  go_loop [17, 5, 6] (fun i _ _ => ∃ k : Nat, k ≤ l.length ∧ i = .int .i64 k ∧ Kept (okFrom rank 0 l = okFrom rank (prevAt l k) (l.drop k))) (fun i _ _ => l.length - (intOf i).toNat)
  case atStart => exact ⟨0, by omega, rfl, ⟨by simp [prevAt]⟩⟩
  case round =>
    obtain ⟨k, hk, rfl, hkk⟩ := hrel
    by_cases hlt : k < l.length
    · have hkl : (k : Int) < (l.length : Int) := by omega
      have e1 : w.cell? ⟨b, off + k, none⟩ = some (.int .i64 l[k]) := H.out k hlt
      by_cases hx : l[k] ≠ 0 ∧ -rank ≤ l[k] ∧ l[k] ≤ rank
      · have hx' := decide_eq_true hx
        have hcl := isLetter_any rank l[k] hr1 hr2
        rw [hx'] at hcl
        have HL := Lib.hid hcl
        clear hcl hx'
        rcases k with _ | k
        · have hk2 : Kept (okFrom rank 0 l = okFrom rank (prevAt l 1) (l.drop 1)) := ⟨by rw [hkk.out]; exact okFrom_step hlt hx.1 hx.2.1 hx.2.2 (inv_zero _)⟩
          have e1' : w.cell? ⟨b, off, none⟩ = some (.int .i64 l[0]) := e1
          clear hkk hx e1
          go_wp2_with (go_at_call 75; refine (HL.out _).mono ?_; rintro e w' ⟨rfl, rfl⟩)
          go_round
          case rel => exact ⟨1, by omega, by go_num, hk2⟩
          case measure => simp [intOf]; omega
        · have hkl1 : k < l.length := by omega
          have e2 : w.cell? ⟨b, off + k, none⟩ = some (.int .i64 l[k]) := H.out k hkl1
          have hir : I64 l[k] := hrg _ (List.getElem_mem hkl1)
          cases hi : inv l[k] l[k + 1] with
          | true =>
            have hk2 : Kept (okFrom rank 0 l = false) := ⟨by rw [hkk.out]; exact okFrom_inv hlt (by rw [prevAt_succ hkl1]; exact hi)⟩
            have hca := areInverse_any l[k] l[k + 1] hir
            rw [hi] at hca
            have HA := Lib.hid hca
            clear hca hkk hx hi
            go_wp2_with (first | (go_at_call 75; refine (HL.out _).mono ?_; rintro e w' ⟨rfl, rfl⟩) | (go_at_call 76; refine (HA.out _).mono ?_; rintro e w' ⟨rfl, rfl⟩))
            go_ret
            exact ⟨by rw [hk2.out]; rfl, Below.refl _ _⟩
          | false =>
            have hk2 : Kept (okFrom rank 0 l = okFrom rank (prevAt l (k + 1 + 1)) (l.drop (k + 1 + 1))) := ⟨by rw [hkk.out]; exact okFrom_step hlt hx.1 hx.2.1 hx.2.2 (by rw [prevAt_succ hkl1]; exact hi)⟩
            have hca := areInverse_any l[k] l[k + 1] hir
            rw [hi] at hca
            have HA := Lib.hid hca
            clear hca hkk hx hi
            go_wp2_with (first | (go_at_call 75; refine (HL.out _).mono ?_; rintro e w' ⟨rfl, rfl⟩) | (go_at_call 76; refine (HA.out _).mono ?_; rintro e w' ⟨rfl, rfl⟩))
            go_round
            case rel => exact ⟨k + 1 + 1, by omega, by go_num, hk2⟩
            case measure => simp [intOf]; omega
      · have hx' := decide_eq_false hx
        have hk2 : Kept (okFrom rank 0 l = false) := ⟨by rw [hkk.out]; exact okFrom_letter hlt hx⟩
        have hcl := isLetter_any rank l[k] hr1 hr2
        rw [hx'] at hcl
        have HL := Lib.hid hcl
        clear hcl hx' hx hkk
        go_wp2_with (go_at_call 75; refine (HL.out _).mono ?_; rintro e w' ⟨rfl, rfl⟩)
        go_ret
        exact ⟨by rw [hk2.out]; rfl, Below.refl _ _⟩
    · obtain rfl : k = l.length := by omega
      have hk2 : Kept (okFrom rank 0 l = true) := ⟨by rw [hkk.out, okFrom_end (Nat.le_refl _)]⟩
      clear hkk
      go_wp2
      go_ret
      exact ⟨by rw [hk2.out]; rfl, Below.refl _ _⟩
set_option maxHeartbeats 1600000 in
theorem isWordS_any (rank : Int) (v : Value) (l : List Int) (w : World) (h : Ints w v l) (hn : l.length ≤ 134217728) :
    Calls Try.prog 34 #[.int .i64 rank, v] w (RetV w (.bool (isWord rank l))) := by
  obtain ⟨b, off, cap, rfl, hc, hb, hcell, hrg⟩ := h
  have H := Lib.hid hcell
  clear hcell
  obtain ⟨nr, hnr⟩ : ∃ nr, wrap64 (-rank) = nr := ⟨_, rfl⟩
  have hnk : Kept (1 ≤ rank → rank ≤ 3 → nr = -rank) := ⟨fun h1 h2 => by rw [← hnr]; unfold wrap64; omega⟩
  go_enter Try.func34, Try.ntmps34
  go_wp2
  go_loopw [5] (fun i wr => ∃ (k n : Nat), wr = w.drewN n ∧ k ≤ l.length ∧ i = .int .i64 k ∧ Kept (1 ≤ rank → rank ≤ 3 → okFrom rank 0 l = okFrom rank (prevAt l k) (l.drop k))) (fun i _ => l.length - (intOf i).toNat)
  case atStart => exact ⟨0, 0, rfl, by omega, rfl, ⟨fun _ _ => by simp [prevAt]⟩⟩
  case round =>
    obtain ⟨k, n, rfl, hk, rfl, hkk⟩ := hrel
    by_cases hlt : k < l.length
    · have hkl : (k : Int) < (l.length : Int) := by omega
      have e1 : w.cell? ⟨b, off + k, none⟩ = some (.int .i64 l[k]) := H.out k hlt
      have hxr : I64 l[k] := hrg _ (List.getElem_mem hlt)
      by_cases h0 : l[k] = 0
      · have hk2 : Kept (isWord rank l = false) := ⟨by
          by_cases hr : 1 ≤ rank ∧ rank ≤ 3
          · simp only [isWord, hkk.out hr.1 hr.2, okFrom_letter hlt (rank := rank) (fun h => h.1 h0), Bool.and_false]
          · simp only [isWord, decide_eq_false hr, Bool.false_and]⟩
        have hd : (l[k] == 0) = true := by simp [h0]
        clear h0 hkk
        go_wp2
        go_quiet (fail)
        go_wp2
        go_ret
        exact ⟨by rw [hk2.out]; rfl, by first | exact below_drewN _ (Below.refl _ _) | exact below_drewN _ (below_drewN _ (Below.refl _ _))⟩
      have hd0 : (l[k] == 0) = false := by simp [h0]
      by_cases hin : nr ≤ l[k] ∧ l[k] ≤ rank
      case neg =>
        have hk2 : Kept (isWord rank l = false) := ⟨by
          by_cases hr : 1 ≤ rank ∧ rank ≤ 3
          · have hne := hnk.out hr.1 hr.2
            simp only [isWord, hkk.out hr.1 hr.2, okFrom_letter hlt (rank := rank) (fun h => hin (by omega)), Bool.and_false]
          · simp only [isWord, decide_eq_false hr, Bool.false_and]⟩
        have hin' : l[k] < nr ∨ rank < l[k] := by omega
        have HC := Lib.hid (fun w => l1In_no hin' w)
        clear h0 hkk hin hin'
        go_wp2
        go_quiet ((go_at_call 77; exact quietF HC.out))
        go_wp2
        go_ret
        exact ⟨by rw [hk2.out]; rfl, by first | exact below_drewN _ (Below.refl _ _) | exact below_drewN _ (below_drewN _ (Below.refl _ _))⟩
      have HC := Lib.hid (fun w => l1In_yes hin.1 hin.2 w)
      rcases k with _ | k
      · have hk2 : Kept (1 ≤ rank → rank ≤ 3 → okFrom rank 0 l = okFrom rank (prevAt l 1) (l.drop 1)) := ⟨fun h1 h2 => by
          have hne := hnk.out h1 h2
          rw [hkk.out h1 h2]; exact okFrom_step hlt h0 (by omega) (by omega) (inv_zero _)⟩
        have e1' : w.cell? ⟨b, off, none⟩ = some (.int .i64 l[0]) := e1
        clear h0 hkk hin e1
        go_wp2
        go_quiet ((go_at_call 77; exact quietF HC.out))
        go_wp2
        go_roundw
        case rel => exact ⟨1, _, rfl, by omega, by go_num, hk2⟩
        case measure => simp [intOf]; omega
      · have hkl1 : k < l.length := by omega
        have e2 : w.cell? ⟨b, off + k, none⟩ = some (.int .i64 l[k]) := H.out k hkl1
        have hir : I64 l[k] := hrg _ (List.getElem_mem hkl1)
        have hwn := wrap_neg hir
        by_cases he : l[k + 1] = neg l[k]
        · have hk2 : Kept (isWord rank l = false) := ⟨by
            by_cases hr : 1 ≤ rank ∧ rank ≤ 3
            · have hne := hnk.out hr.1 hr.2
              have hi : inv (prevAt l (k + 1)) l[k + 1] = true := by
                rw [prevAt_succ hkl1]
                unfold neg at he
                simp only [inv, decide_eq_true_eq]
                split at he <;> omega
              simp only [isWord, hkk.out hr.1 hr.2, okFrom_inv hlt hi, Bool.and_false]
            · simp only [isWord, decide_eq_false hr, Bool.false_and]⟩
          have hd : (l[k + 1] == neg l[k]) = true := by simp [he]
          clear h0 hkk hin he
          go_wp2
          go_quiet ((go_at_call 77; exact quietF HC.out))
          go_wp2
          go_ret
          exact ⟨by rw [hk2.out]; rfl, by first | exact below_drewN _ (Below.refl _ _) | exact below_drewN _ (below_drewN _ (Below.refl _ _))⟩
        · have hk2 : Kept (1 ≤ rank → rank ≤ 3 → okFrom rank 0 l = okFrom rank (prevAt l (k + 1 + 1)) (l.drop (k + 1 + 1))) := ⟨fun h1 h2 => by
            have hne := hnk.out h1 h2
            have hi : inv (prevAt l (k + 1)) l[k + 1] = false := by
              rw [prevAt_succ hkl1]
              unfold neg at he
              simp only [inv, decide_eq_false_iff_not]
              split at he <;> omega
            rw [hkk.out h1 h2]; exact okFrom_step hlt h0 (by omega) (by omega) hi⟩
          have hd : (l[k + 1] == neg l[k]) = false := by simp [he]
          clear h0 hkk hin he
          go_wp2
          go_quiet ((go_at_call 77; exact quietF HC.out))
          go_wp2
          go_roundw
          case rel => exact ⟨k + 1 + 1, _, rfl, by omega, by go_num, hk2⟩
          case measure => simp [intOf]; omega
    · obtain rfl : k = l.length := by omega
      have hkk2 : Kept (1 ≤ rank → rank ≤ 3 → okFrom rank 0 l = true) := ⟨fun h1 h2 => by rw [hkk.out h1 h2, okFrom_end (Nat.le_refl _)]⟩
      clear hkk
      by_cases hr : 1 ≤ rank ∧ rank ≤ 3
      · have hr1 := hr.1
        have hr2 := hr.2
        have hk2 : Kept (isWord rank l = decide (l.length ≤ 24)) := ⟨by simp only [isWord, decide_eq_true hr, hkk2.out hr1 hr2, Bool.true_and, Bool.and_true]⟩
        clear hkk2 hr
        by_cases hl : l.length ≤ 24
        · have hdl := decide_eq_true hl
          rw [hdl] at hk2
          have hdi : decide ((l.length : Int) ≤ 24) = true := decide_eq_true (by omega)
          clear hdl
          go_wp2_with (go_at_call 77; refine (l1In_yes hr1 hr2 _).mono ?_; rintro e w' ⟨rfl, rfl⟩)
          go_ret
          exact ⟨by rw [hk2.out]; rfl, by first | exact below_drewN _ (Below.refl _ _) | exact below_drewN _ (below_drewN _ (Below.refl _ _))⟩
        · have hdl := decide_eq_false hl
          rw [hdl] at hk2
          have hdi : decide ((l.length : Int) ≤ 24) = false := decide_eq_false (by omega)
          clear hdl hl
          go_wp2_with (go_at_call 77; refine (l1In_yes hr1 hr2 _).mono ?_; rintro e w' ⟨rfl, rfl⟩)
          go_ret
          exact ⟨by rw [hk2.out]; rfl, by first | exact below_drewN _ (Below.refl _ _) | exact below_drewN _ (below_drewN _ (Below.refl _ _))⟩
      · have hk2 : Kept (isWord rank l = false) := ⟨by simp only [isWord, decide_eq_false hr, Bool.false_and]⟩
        have hr' : rank < 1 ∨ 3 < rank := by omega
        clear hr hkk2
        go_wp2_with (go_at_call 77; refine (l1In_no hr' _).mono ?_; rintro e w' ⟨rfl, rfl⟩)
        go_ret
        exact ⟨by rw [hk2.out]; rfl, by first | exact below_drewN _ (Below.refl _ _) | exact below_drewN _ (below_drewN _ (Below.refl _ _))⟩
end Go.Proofs.Ytbghnllflfcfhaa
