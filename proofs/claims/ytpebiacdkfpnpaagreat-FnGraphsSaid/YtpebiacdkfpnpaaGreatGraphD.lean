/- Contracts of IsGraph. Conditions: at most 2^20 edges. -/
import Derived.Test.YtpebiacdkfpnpaaGreatGraphC
import Derived.Deep.RegionHeld3
namespace Go.Proofs.YtpebiacdkfpnpaaGreat
open Go.RowKit

abbrev cmpEd (x y : Ed) : Int := cmpE x.1 x.2.1 x.2.2 y.1 y.2.1 y.2.2
/-- What IsGraph asks of the edge at i. -/
def stepOk (r n : Int) (l : List Ed) (i : Nat) : Bool := okE r n (l.getD i (0, 0, 0)) && (decide (i = 0) || decide (cmpEd (l.getD (i - 1) (0, 0, 0)) (l.getD i (0, 0, 0)) < 0))
def edgesOk (r n : Int) (l : List Ed) : Bool := (List.range l.length).all (stepOk r n l)
def isG (r n : Int) (l : List Ed) : Bool := decide (1 ≤ r ∧ r ≤ 3) && (decide (1 ≤ n ∧ n ≤ 40) && (decide (l.length ≤ 120) && edgesOk r n l))
theorem edgesOk_all {r n : Int} {l : List Ed} (h : ∀ j, j < l.length → stepOk r n l j = true) : edgesOk r n l = true := by
  rw [edgesOk, List.all_eq_true]
  intro j hj
  exact h j (by simpa using hj)
theorem edgesOk_at {r n : Int} {l : List Ed} {k : Nat} (hk : k < l.length) (h : stepOk r n l k = false) : edgesOk r n l = false := by
  rw [Bool.eq_false_iff]
  intro e
  rw [edgesOk, List.all_eq_true] at e
  rw [e k (by simpa using hk)] at h
  cases h
theorem isG_bad {r n : Int} {l : List Ed} (h : edgesOk r n l = false) : isG r n l = false := by simp [isG, h]
theorem isG_r {r n : Int} {l : List Ed} (h : ¬ (1 ≤ r ∧ r ≤ 3)) : isG r n l = false := by simp only [isG, decide_eq_false h, Bool.false_and]
theorem isG_n {r n : Int} {l : List Ed} (h : ¬ (1 ≤ n ∧ n ≤ 40)) : isG r n l = false := by simp only [isG, decide_eq_false h, Bool.false_and, Bool.and_false]
theorem isG_l {r n : Int} {l : List Ed} (h : ¬ l.length ≤ 120) : isG r n l = false := by simp only [isG, decide_eq_false h, Bool.false_and, Bool.and_false]
theorem isG_ok {r n : Int} {l : List Ed} (h1 : 1 ≤ r ∧ r ≤ 3) (h2 : 1 ≤ n ∧ n ≤ 40) (h3 : l.length ≤ 120) : isG r n l = edgesOk r n l := by simp only [isG, decide_eq_true h1, decide_eq_true h2, decide_eq_true h3, Bool.true_and]
theorem getD_at {l : List Ed} {k : Nat} (h : k < l.length) : l.getD k (0, 0, 0) = l[k] := by simp [List.getD_eq_getElem?_getD, h]
set_option maxHeartbeats 1600000 in
theorem isGraph_any (r n : Int) (v : Value) (l : List Ed) (w : World) (h : Edges w v l) (hn : l.length ≤ 1048576) :
    Calls Tryz.prog 9 #[graphV r n v] w (RetV w (.bool (isG r n l))) := by
  obtain ⟨A, cap, rfl, hc, hr, hcell⟩ := h
  have H := Lib.hid hcell
  clear hcell
  obtain ⟨W, hW⟩ : ∃ W, W = (w.alloc (.cells #[.int .i64 r, .int .i64 n, .slice A l.length cap] 26 (0, 0))) := ⟨_, rfl⟩
  have hB : Below w.heap.size w W := by rw [hW]; exact (Below.refl _ _).alloc (Nat.le_refl _) _
  have bx1 : Box W w.heap.size (.cells #[.int .i64 r, .int .i64 n, .slice A l.length cap] 26 (0, 0)) := by rw [hW]; exact Box.new _ _
  have HW := Lib.hid hW
  have BX := Lib.hid bx1
  clear hW bx1
  by_cases h1 : 1 ≤ r ∧ r ≤ 3
  case neg =>
    have hr2 : r < 1 ∨ 3 < r := by omega
    rw [isG_r h1]
    clear h1
    go_enter Tryz.func9, Tryz.ntmps9
    go_wp2_with fail
    refine (within_no hr2 _).mono ?_
    rintro e w' ⟨rfl, rfl⟩
    go_wp2
    go_ret
    rw [← HW.out]
    exact ⟨rfl, hB⟩
  have HR := Lib.hid h1
  clear h1
  by_cases h2 : 1 ≤ n ∧ n ≤ 40
  case neg =>
    have hn2 : n < 1 ∨ 40 < n := by omega
    rw [isG_n h2]
    clear h2
    go_enter Tryz.func9, Tryz.ntmps9
    go_wp2_with fail
    refine (within_yes HR.out.1 HR.out.2 _).mono ?_
    rintro e w' ⟨rfl, rfl⟩
    go_wp2_with fail
    refine (within_no hn2 _).mono ?_
    rintro e w' ⟨rfl, rfl⟩
    go_wp2
    go_ret
    rw [← HW.out]
    exact ⟨rfl, hB⟩
  have HN := Lib.hid h2
  clear h2
  by_cases h3 : l.length ≤ 120
  case neg =>
    have h4 : (120 : Int) < (l.length : Int) := by omega
    rw [isG_l h3]
    go_enter Tryz.func9, Tryz.ntmps9
    go_wp2_with fail
    refine (within_yes HR.out.1 HR.out.2 _).mono ?_
    rintro e w' ⟨rfl, rfl⟩
    go_wp2_with fail
    refine (within_yes HN.out.1 HN.out.2 _).mono ?_
    rintro e w' ⟨rfl, rfl⟩
    go_wp2
    go_ret
    rw [← HW.out]
    exact ⟨rfl, hB⟩
  have h4 : (l.length : Int) ≤ 120 := by omega
  rw [isG_ok HR.out HN.out h3]
  go_enter Tryz.func9, Tryz.ntmps9
  go_wp2_with fail
  refine (within_yes HR.out.1 HR.out.2 _).mono ?_
  rintro e w' ⟨rfl, rfl⟩
  go_wp2_with fail
  refine (within_yes HN.out.1 HN.out.2 _).mono ?_
  rintro e w' ⟨rfl, rfl⟩
  go_wp2
  go_loopw [3, 4, 24] (fun _ _ i wr => ∃ k : Nat, k ≤ l.length ∧ i = .int .i64 k ∧ Kept (∀ j, j < k → stepOk r n l j = true) ∧ Below W.heap.size W wr) (fun _ _ i _ => l.length - (intOf i).toNat)
  case atStart => exact ⟨0, by omega, rfl, ⟨fun j hj => absurd hj (Nat.not_lt_zero _)⟩, by rw [HW.out]; exact Below.refl _ _⟩
  case round =>
    obtain ⟨k, hk, rfl, hall, hbel⟩ := hrel
    have hBw := hB.trans (hbel.mono hB.size)
    by_cases hlt : k < l.length
    · obtain ⟨b, off, rfl, hb, hcell⟩ := H.out (by omega)
      obtain ⟨e1, e2, e3⟩ := hcell k hlt
      replace e1 := (hBw.cell (p := ⟨b, off + k * 3, none⟩) hb).trans e1
      replace e2 := (hBw.cell (p := ⟨b, off + k * 3 + 1, none⟩) hb).trans e2
      replace e3 := (hBw.cell (p := ⟨b, off + k * 3 + 2, none⟩) hb).trans e3
      have hkl : (k : Int) < (l.length : Int) := by omega
      obtain ⟨W1, hW1⟩ : ∃ W1, W1 = wr.alloc (.cells #[.int .i64 l[k].1, .int .i64 l[k].2.1, .int .i64 l[k].2.2] 28 (0, 0)) := ⟨_, rfl⟩
      have hB1 : Below W.heap.size W W1 := by rw [hW1]; exact hbel.alloc hbel.size _
      have be : Box W1 wr.heap.size (.cells #[.int .i64 l[k].1, .int .i64 l[k].2.1, .int .i64 l[k].2.2] 28 (0, 0)) := by rw [hW1]; exact Box.new _ _
      obtain ⟨y, hy⟩ : ∃ y, y = okE r n l[k] := ⟨_, rfl⟩
      have ha := fun W => accepts_any r n l[k] (some ⟨b, off, none⟩) l.length cap W
      rw [← hy] at ha
      have HA := Lib.hid ha
      have BE := Lib.hid be
      have HW1 := Lib.hid hW1
      have BG := Lib.hid (BX.out.keep hB1)
      clear ha be hW1
      cases y with
      | false =>
        have hst : Kept (edgesOk r n l = false) := ⟨edgesOk_at hlt (by rw [stepOk, getD_at hlt, ← hy, Bool.false_and])⟩
        clear hy hcell
        go_wp2
        rw [← HW1.out]
        refine wp_region_held_drew (S := fun X => Below W1.heap.size W1 X) (by kernel_rfl) ((Below.refl W1.heap.size W1).drew) (fun hHeld => ?_)
        refine wpAnyH_take (i := 0) (v := ?v1) rfl (by kernel_rfl) (by kernel_rfl) (by kernel_rfl) (fun _ _ _ h => h) (Or.inl ⟨by rfl, ?hy1⟩) (by assumption) ?rest1
        case hy1 => intro X hX; (try dsimp only at hX); obtain ⟨q1, q2, q3⟩ := (BG.out.keep hX).cells; obtain ⟨p1, p2, p3⟩ := (BE.out.keep hX).cells; go_simp <;> with_reducible rfl
        try simp only [List.getElem_toArray, List.getElem_cons_zero, Act.put, List.setIfInBounds_toArray, List.set_cons_zero, List.set_cons_succ]
        refine wpAnyH_take (i := 1) (v := ?v2) rfl (by kernel_rfl) (by kernel_rfl) (by kernel_rfl) (fun _ _ _ h => h) (Or.inl ⟨by rfl, ?hy2⟩) (by assumption) ?rest2
        case hy2 => intro X hX; (try dsimp only at hX); obtain ⟨q1, q2, q3⟩ := (BG.out.keep hX).cells; obtain ⟨p1, p2, p3⟩ := (BE.out.keep hX).cells; go_simp <;> with_reducible rfl
        try simp only [List.getElem_toArray, List.getElem_cons_succ, List.getElem_cons_zero, Act.put, List.setIfInBounds_toArray, List.set_cons_zero, List.set_cons_succ]
        refine wpAnyH_ready (rs := [2]) (by kernel_rfl) (by simp) ?_
        refine AllReadyH.cons rfl (fun K hK => ?_) AllReadyH.nil
        go_simp
        go_at_call 39
        refine (HA.out _).mono ?_
        rintro e w2 ⟨rfl, hb2⟩
        (try go_simp)
        refine hK.out _ _ (hHeld.trans (hb2.mono hHeld.size)) (fun hHeld2 => ?_)
        replace hHeld := hHeld2
        clear hHeld2
        clear hK K
        try simp only [List.getElem_toArray, List.getElem_cons_succ, List.getElem_cons_zero, Act.put, List.setIfInBounds_toArray, List.set_cons_zero, List.set_cons_succ]
        refine wpAnyH_take (i := 3) (v := ?v3) rfl (by kernel_rfl) (by kernel_rfl) (by kernel_rfl) (fun _ _ _ h => h) (Or.inl ⟨by rfl, ?hy3⟩) (by assumption) ?rest3
        case hy3 => intro X hX; (try dsimp only at hX); go_simp <;> with_reducible rfl
        try simp only [List.getElem_toArray, List.getElem_cons_succ, List.getElem_cons_zero, Act.put, List.setIfInBounds_toArray, List.set_cons_zero, List.set_cons_succ]
        refine wpAnyH_take (i := 4) (v := ?v4) rfl (by kernel_rfl) (by kernel_rfl) (by kernel_rfl) (fun _ _ _ h => h) (Or.inl ⟨by rfl, ?hy4⟩) (by assumption) ?rest4
        case hy4 => intro X hX; (try dsimp only at hX); go_simp <;> with_reducible rfl
        try simp only [List.getElem_toArray, List.getElem_cons_succ, List.getElem_cons_zero, Act.put, List.setIfInBounds_toArray, List.set_cons_zero, List.set_cons_succ]
        refine wpAnyH_take (i := 5) (v := undef) rfl (by kernel_rfl) (by kernel_rfl) (by kernel_rfl) (fun _ _ _ h => h) (Or.inr ⟨by rfl, rfl⟩) (by assumption) ?_
        try simp only [List.getElem_toArray, List.getElem_cons_succ, List.getElem_cons_zero, Act.put, List.setIfInBounds_toArray, List.set_cons_zero, List.set_cons_succ]
        refine wpAnyH_take (i := 6) (v := undef) rfl (by kernel_rfl) (by kernel_rfl) (by kernel_rfl) (fun _ _ _ h => h) (Or.inr ⟨by rfl, rfl⟩) (by assumption) ?_
        try simp only [List.getElem_toArray, List.getElem_cons_succ, List.getElem_cons_zero, Act.put, List.setIfInBounds_toArray, List.set_cons_zero, List.set_cons_succ]
        refine wpAnyH_take (i := 7) (v := undef) rfl (by kernel_rfl) (by kernel_rfl) (by kernel_rfl) (fun _ _ _ h => h) (Or.inr ⟨by rfl, rfl⟩) (by assumption) ?_
        try simp only [List.getElem_toArray, List.getElem_cons_succ, List.getElem_cons_zero, Act.put, List.setIfInBounds_toArray, List.set_cons_zero, List.set_cons_succ]
        refine wpAnyH_take (i := 8) (v := undef) rfl (by kernel_rfl) (by kernel_rfl) (by kernel_rfl) (fun _ _ _ h => h) (Or.inr ⟨by rfl, rfl⟩) (by assumption) ?_
        try simp only [List.getElem_toArray, List.getElem_cons_succ, List.getElem_cons_zero, Act.put, List.setIfInBounds_toArray, List.set_cons_zero, List.set_cons_succ]
        refine wpAnyH_take (i := 9) (v := undef) rfl (by kernel_rfl) (by kernel_rfl) (by kernel_rfl) (fun _ _ _ h => h) (Or.inr ⟨by rfl, rfl⟩) (by assumption) ?_
        try simp only [List.getElem_toArray, List.getElem_cons_succ, List.getElem_cons_zero, Act.put, List.setIfInBounds_toArray, List.set_cons_zero, List.set_cons_succ]
        refine wpAnyH_take (i := 10) (v := undef) rfl (by kernel_rfl) (by kernel_rfl) (by kernel_rfl) (fun _ _ _ h => h) (Or.inr ⟨by rfl, rfl⟩) (by assumption) ?_
        try simp only [List.getElem_toArray, List.getElem_cons_succ, List.getElem_cons_zero, Act.put, List.setIfInBounds_toArray, List.set_cons_zero, List.set_cons_succ]
        refine wpAnyH_take (i := 11) (v := undef) rfl (by kernel_rfl) (by kernel_rfl) (by kernel_rfl) (fun _ _ _ h => h) (Or.inr ⟨by rfl, rfl⟩) (by assumption) ?_
        try simp only [List.getElem_toArray, List.getElem_cons_succ, List.getElem_cons_zero, Act.put, List.setIfInBounds_toArray, List.set_cons_zero, List.set_cons_succ]
        refine wpAnyH_take (i := 12) (v := undef) rfl (by kernel_rfl) (by kernel_rfl) (by kernel_rfl) (fun _ _ _ h => h) (Or.inr ⟨by rfl, rfl⟩) (by assumption) ?_
        try simp only [List.getElem_toArray, List.getElem_cons_succ, List.getElem_cons_zero, Act.put, List.setIfInBounds_toArray, List.set_cons_zero, List.set_cons_succ]
        refine wpAnyH_take (i := 13) (v := undef) rfl (by kernel_rfl) (by kernel_rfl) (by kernel_rfl) (fun _ _ _ h => h) (Or.inr ⟨by rfl, rfl⟩) (by assumption) ?_
        try simp only [List.getElem_toArray, List.getElem_cons_succ, List.getElem_cons_zero, Act.put, List.setIfInBounds_toArray, List.set_cons_zero, List.set_cons_succ]
        refine wpAnyH_take (i := 14) (v := undef) rfl (by kernel_rfl) (by kernel_rfl) (by kernel_rfl) (fun _ _ _ h => h) (Or.inr ⟨by rfl, rfl⟩) (by assumption) ?_
        try simp only [List.getElem_toArray, List.getElem_cons_succ, List.getElem_cons_zero, Act.put, List.setIfInBounds_toArray, List.set_cons_zero, List.set_cons_succ]
        refine wpAnyH_take (i := 15) (v := undef) rfl (by kernel_rfl) (by kernel_rfl) (by kernel_rfl) (fun _ _ _ h => h) (Or.inr ⟨by rfl, rfl⟩) (by assumption) ?_
        try simp only [List.getElem_toArray, List.getElem_cons_succ, List.getElem_cons_zero, Act.put, List.setIfInBounds_toArray, List.set_cons_zero, List.set_cons_succ]
        refine wpAnyH_take (i := 16) (v := undef) rfl (by kernel_rfl) (by kernel_rfl) (by kernel_rfl) (fun _ _ _ h => h) (Or.inr ⟨by rfl, rfl⟩) (by assumption) ?_
        try simp only [List.getElem_toArray, List.getElem_cons_succ, List.getElem_cons_zero, Act.put, List.setIfInBounds_toArray, List.set_cons_zero, List.set_cons_succ]
        refine wpAnyH_take (i := 17) (v := undef) rfl (by kernel_rfl) (by kernel_rfl) (by kernel_rfl) (fun _ _ _ h => h) (Or.inr ⟨by rfl, rfl⟩) (by assumption) ?_
        try simp only [List.getElem_toArray, List.getElem_cons_succ, List.getElem_cons_zero, Act.put, List.setIfInBounds_toArray, List.set_cons_zero, List.set_cons_succ]
        refine wpAnyH_take (i := 18) (v := ?v5) rfl (by kernel_rfl) (by kernel_rfl) (by kernel_rfl) (fun _ _ _ h => h) (Or.inl ⟨by rfl, ?hy5⟩) (by assumption) ?rest5
        case hy5 => intro X hX; (try dsimp only at hX); go_simp <;> with_reducible rfl
        try simp only [List.getElem_toArray, List.getElem_cons_succ, List.getElem_cons_zero, Act.put, List.setIfInBounds_toArray, List.set_cons_zero, List.set_cons_succ]
        refine wpAnyH_done (by kernel_rfl) ?_ _
        go_wp2
        go_ret
        rw [hst.out]
        exact ⟨rfl, hB.trans ((hB1.trans (hHeld.mono hB1.size)).mono hB.size)⟩
      | true =>
        by_cases hk0 : k = 0
        · have hst : Kept (∀ j, j < k + 1 → stepOk r n l j = true) := ⟨fun j hj => by
            have : j = k := by omega
            subst this
            rw [stepOk, getD_at hlt, ← hy, decide_eq_true hk0]; rfl⟩
          have hk1 : decide (0 < k) = false := decide_eq_false (by omega)
          have hk2 : (k : Int) ≤ 0 := by omega
          clear hy hcell hk0
          go_wp2
          rw [← HW1.out]
          refine wp_region_held_drew (S := fun X => Below W1.heap.size W1 X) (by kernel_rfl) ((Below.refl W1.heap.size W1).drew) (fun hHeld => ?_)
          refine wpAnyH_take (i := 0) (v := ?v6) rfl (by kernel_rfl) (by kernel_rfl) (by kernel_rfl) (fun _ _ _ h => h) (Or.inl ⟨by rfl, ?hy6⟩) (by assumption) ?rest6
          case hy6 => intro X hX; (try dsimp only at hX); obtain ⟨q1, q2, q3⟩ := (BG.out.keep hX).cells; obtain ⟨p1, p2, p3⟩ := (BE.out.keep hX).cells; go_simp <;> with_reducible rfl
          try simp only [List.getElem_toArray, List.getElem_cons_zero, Act.put, List.setIfInBounds_toArray, List.set_cons_zero, List.set_cons_succ]
          refine wpAnyH_take (i := 1) (v := ?v7) rfl (by kernel_rfl) (by kernel_rfl) (by kernel_rfl) (fun _ _ _ h => h) (Or.inl ⟨by rfl, ?hy7⟩) (by assumption) ?rest7
          case hy7 => intro X hX; (try dsimp only at hX); obtain ⟨q1, q2, q3⟩ := (BG.out.keep hX).cells; obtain ⟨p1, p2, p3⟩ := (BE.out.keep hX).cells; go_simp <;> with_reducible rfl
          try simp only [List.getElem_toArray, List.getElem_cons_succ, List.getElem_cons_zero, Act.put, List.setIfInBounds_toArray, List.set_cons_zero, List.set_cons_succ]
          refine wpAnyH_ready (rs := [2]) (by kernel_rfl) (by simp) ?_
          refine AllReadyH.cons rfl (fun K hK => ?_) AllReadyH.nil
          go_simp
          go_at_call 39
          refine (HA.out _).mono ?_
          rintro e w2 ⟨rfl, hb2⟩
          (try go_simp)
          refine hK.out _ _ (hHeld.trans (hb2.mono hHeld.size)) (fun hHeld2 => ?_)
          replace hHeld := hHeld2
          clear hHeld2
          clear hK K
          try simp only [List.getElem_toArray, List.getElem_cons_succ, List.getElem_cons_zero, Act.put, List.setIfInBounds_toArray, List.set_cons_zero, List.set_cons_succ]
          refine wpAnyH_take (i := 3) (v := ?v8) rfl (by kernel_rfl) (by kernel_rfl) (by kernel_rfl) (fun _ _ _ h => h) (Or.inl ⟨by rfl, ?hy8⟩) (by assumption) ?rest8
          case hy8 => intro X hX; (try dsimp only at hX); go_simp <;> with_reducible rfl
          try simp only [List.getElem_toArray, List.getElem_cons_succ, List.getElem_cons_zero, Act.put, List.setIfInBounds_toArray, List.set_cons_zero, List.set_cons_succ]
          refine wpAnyH_take (i := 4) (v := ?v9) rfl (by kernel_rfl) (by kernel_rfl) (by kernel_rfl) (fun _ _ _ h => h) (Or.inl ⟨by rfl, ?hy9⟩) (by assumption) ?rest9
          case hy9 => intro X hX; (try dsimp only at hX); go_simp <;> with_reducible rfl
          try simp only [List.getElem_toArray, List.getElem_cons_succ, List.getElem_cons_zero, Act.put, List.setIfInBounds_toArray, List.set_cons_zero, List.set_cons_succ]
          refine wpAnyH_take (i := 5) (v := ?v10) rfl (by kernel_rfl) (by kernel_rfl) (by kernel_rfl) (fun _ _ _ h => h) (Or.inl ⟨by rfl, ?hy10⟩) (by assumption) ?rest10
          case hy10 => intro X hX; (try dsimp only at hX); go_simp <;> with_reducible rfl
          try simp only [List.getElem_toArray, List.getElem_cons_succ, List.getElem_cons_zero, Act.put, List.setIfInBounds_toArray, List.set_cons_zero, List.set_cons_succ]
          refine wpAnyH_take (i := 6) (v := ?v11) rfl (by kernel_rfl) (by kernel_rfl) (by kernel_rfl) (fun _ _ _ h => h) (Or.inl ⟨by rfl, ?hy11⟩) (by assumption) ?rest11
          case hy11 => intro X hX; (try dsimp only at hX); go_simp <;> with_reducible rfl
          try simp only [List.getElem_toArray, List.getElem_cons_succ, List.getElem_cons_zero, Act.put, List.setIfInBounds_toArray, List.set_cons_zero, List.set_cons_succ]
          refine wpAnyH_take (i := 7) (v := ?v12) rfl (by kernel_rfl) (by kernel_rfl) (by kernel_rfl) (fun _ _ _ h => h) (Or.inl ⟨by rfl, ?hy12⟩) (by assumption) ?rest12
          case hy12 => intro X hX; (try dsimp only at hX); go_simp <;> with_reducible rfl
          try simp only [List.getElem_toArray, List.getElem_cons_succ, List.getElem_cons_zero, Act.put, List.setIfInBounds_toArray, List.set_cons_zero, List.set_cons_succ]
          refine wpAnyH_take (i := 8) (v := undef) rfl (by kernel_rfl) (by kernel_rfl) (by kernel_rfl) (fun _ _ _ h => h) (Or.inr ⟨by rfl, rfl⟩) (by assumption) ?_
          try simp only [List.getElem_toArray, List.getElem_cons_succ, List.getElem_cons_zero, Act.put, List.setIfInBounds_toArray, List.set_cons_zero, List.set_cons_succ]
          refine wpAnyH_take (i := 9) (v := undef) rfl (by kernel_rfl) (by kernel_rfl) (by kernel_rfl) (fun _ _ _ h => h) (Or.inr ⟨by rfl, rfl⟩) (by assumption) ?_
          try simp only [List.getElem_toArray, List.getElem_cons_succ, List.getElem_cons_zero, Act.put, List.setIfInBounds_toArray, List.set_cons_zero, List.set_cons_succ]
          refine wpAnyH_take (i := 10) (v := undef) rfl (by kernel_rfl) (by kernel_rfl) (by kernel_rfl) (fun _ _ _ h => h) (Or.inr ⟨by rfl, rfl⟩) (by assumption) ?_
          try simp only [List.getElem_toArray, List.getElem_cons_succ, List.getElem_cons_zero, Act.put, List.setIfInBounds_toArray, List.set_cons_zero, List.set_cons_succ]
          refine wpAnyH_take (i := 11) (v := undef) rfl (by kernel_rfl) (by kernel_rfl) (by kernel_rfl) (fun _ _ _ h => h) (Or.inr ⟨by rfl, rfl⟩) (by assumption) ?_
          try simp only [List.getElem_toArray, List.getElem_cons_succ, List.getElem_cons_zero, Act.put, List.setIfInBounds_toArray, List.set_cons_zero, List.set_cons_succ]
          refine wpAnyH_take (i := 12) (v := undef) rfl (by kernel_rfl) (by kernel_rfl) (by kernel_rfl) (fun _ _ _ h => h) (Or.inr ⟨by rfl, rfl⟩) (by assumption) ?_
          try simp only [List.getElem_toArray, List.getElem_cons_succ, List.getElem_cons_zero, Act.put, List.setIfInBounds_toArray, List.set_cons_zero, List.set_cons_succ]
          refine wpAnyH_take (i := 13) (v := undef) rfl (by kernel_rfl) (by kernel_rfl) (by kernel_rfl) (fun _ _ _ h => h) (Or.inr ⟨by rfl, rfl⟩) (by assumption) ?_
          try simp only [List.getElem_toArray, List.getElem_cons_succ, List.getElem_cons_zero, Act.put, List.setIfInBounds_toArray, List.set_cons_zero, List.set_cons_succ]
          refine wpAnyH_take (i := 14) (v := undef) rfl (by kernel_rfl) (by kernel_rfl) (by kernel_rfl) (fun _ _ _ h => h) (Or.inr ⟨by rfl, rfl⟩) (by assumption) ?_
          try simp only [List.getElem_toArray, List.getElem_cons_succ, List.getElem_cons_zero, Act.put, List.setIfInBounds_toArray, List.set_cons_zero, List.set_cons_succ]
          refine wpAnyH_take (i := 15) (v := undef) rfl (by kernel_rfl) (by kernel_rfl) (by kernel_rfl) (fun _ _ _ h => h) (Or.inr ⟨by rfl, rfl⟩) (by assumption) ?_
          try simp only [List.getElem_toArray, List.getElem_cons_succ, List.getElem_cons_zero, Act.put, List.setIfInBounds_toArray, List.set_cons_zero, List.set_cons_succ]
          refine wpAnyH_take (i := 16) (v := undef) rfl (by kernel_rfl) (by kernel_rfl) (by kernel_rfl) (fun _ _ _ h => h) (Or.inr ⟨by rfl, rfl⟩) (by assumption) ?_
          try simp only [List.getElem_toArray, List.getElem_cons_succ, List.getElem_cons_zero, Act.put, List.setIfInBounds_toArray, List.set_cons_zero, List.set_cons_succ]
          refine wpAnyH_take (i := 17) (v := ?v13) rfl (by kernel_rfl) (by kernel_rfl) (by kernel_rfl) (fun _ _ _ h => h) (Or.inl ⟨by rfl, ?hy13⟩) (by assumption) ?rest13
          case hy13 => intro X hX; (try dsimp only at hX); go_simp <;> with_reducible rfl
          try simp only [List.getElem_toArray, List.getElem_cons_succ, List.getElem_cons_zero, Act.put, List.setIfInBounds_toArray, List.set_cons_zero, List.set_cons_succ]
          refine wpAnyH_take (i := 18) (v := ?v14) rfl (by kernel_rfl) (by kernel_rfl) (by kernel_rfl) (fun _ _ _ h => h) (Or.inl ⟨by rfl, ?hy14⟩) (by assumption) ?rest14
          case hy14 => intro X hX; (try dsimp only at hX); go_simp <;> with_reducible rfl
          try simp only [List.getElem_toArray, List.getElem_cons_succ, List.getElem_cons_zero, Act.put, List.setIfInBounds_toArray, List.set_cons_zero, List.set_cons_succ]
          refine wpAnyH_done (by kernel_rfl) ?_ _
          go_wp2
          go_roundw
          case rel => exact ⟨k + 1, by omega, by go_num, hst, hB1.trans (hHeld.mono hB1.size)⟩
          case measure => simp [intOf]; omega
        · obtain ⟨k, rfl⟩ : ∃ k', k = k' + 1 := ⟨k - 1, by omega⟩
          have hlt1 : k < l.length := by omega
          obtain ⟨c, hc0⟩ : ∃ c, c = cmpEd l[k] l[k + 1] := ⟨_, rfl⟩
          have hcm := fun W => compareEdges_any l[k].1 l[k].2.1 l[k].2.2 l[k + 1].1 l[k + 1].2.1 l[k + 1].2.2 W
          have hc1 : stepOk r n l (k + 1) = decide (c < 0) := by
            rw [stepOk, getD_at hlt, ← hy, Bool.true_and, Nat.add_sub_cancel, getD_at hlt1, hc0]; simp
          change ∀ W, Calls _ _ _ W fun e w' => e = .returned (.int .i64 (cmpEd l[k] l[k + 1])) ∧ _ at hcm
          rw [← hc0] at hcm
          have HC := Lib.hid hcm
          obtain ⟨d1, d2, d3⟩ := hcell k hlt1
          have hBW1 := hB.trans (hB1.mono hB.size)
          have D1 := Lib.hid ((hBW1.cell (p := ⟨b, off + k * 3, none⟩) hb).trans d1)
          have D2 := Lib.hid ((hBW1.cell (p := ⟨b, off + k * 3 + 1, none⟩) hb).trans d2)
          have D3 := Lib.hid ((hBW1.cell (p := ⟨b, off + k * 3 + 2, none⟩) hb).trans d3)
          have hbW1 : b < W1.heap.size := Nat.lt_of_lt_of_le hb hBW1.size
          have hC1 := Lib.hid hc1
          have hkk : (k : Int) < (l.length : Int) := by omega
          have hk1 : decide (0 < k + 1) = true := decide_eq_true (by omega)
          have hwk : IntKind.i64.wrap ((k : Nat) : Int) = (k : Int) := by rw [IntKind.wrap_i64]; omega
          clear hy hcell hk0 hcm hc0 d1 d2 d3 hc1
          by_cases hneg : c < 0
          · have hst : Kept (∀ j, j < k + 1 + 1 → stepOk r n l j = true) := ⟨fun j hj => by
              by_cases hj2 : j = k + 1
              · rw [hj2, hC1.out]; exact decide_eq_true hneg
              · exact hall.out j (by omega)⟩
            go_wp2
            rw [← HW1.out]
            refine wp_region_held_drew (S := fun X => Below W1.heap.size W1 X) (by kernel_rfl) ((Below.refl W1.heap.size W1).drew) (fun hHeld => ?_)
            refine wpAnyH_take (i := 0) (v := ?v15) rfl (by kernel_rfl) (by kernel_rfl) (by kernel_rfl) (fun _ _ _ h => h) (Or.inl ⟨by rfl, ?hy15⟩) (by assumption) ?rest15
            case hy15 => intro X hX; (try dsimp only at hX); obtain ⟨q1, q2, q3⟩ := (BG.out.keep hX).cells; obtain ⟨p1, p2, p3⟩ := (BE.out.keep hX).cells; have t1 := (hX.cell (p := ⟨b, off + k * 3, none⟩) hbW1).trans D1.out; have t2 := (hX.cell (p := ⟨b, off + k * 3 + 1, none⟩) hbW1).trans D2.out; have t3 := (hX.cell (p := ⟨b, off + k * 3 + 2, none⟩) hbW1).trans D3.out; go_simp <;> with_reducible rfl
            try simp only [List.getElem_toArray, List.getElem_cons_zero, Act.put, List.setIfInBounds_toArray, List.set_cons_zero, List.set_cons_succ]
            refine wpAnyH_take (i := 1) (v := ?v16) rfl (by kernel_rfl) (by kernel_rfl) (by kernel_rfl) (fun _ _ _ h => h) (Or.inl ⟨by rfl, ?hy16⟩) (by assumption) ?rest16
            case hy16 => intro X hX; (try dsimp only at hX); obtain ⟨q1, q2, q3⟩ := (BG.out.keep hX).cells; obtain ⟨p1, p2, p3⟩ := (BE.out.keep hX).cells; have t1 := (hX.cell (p := ⟨b, off + k * 3, none⟩) hbW1).trans D1.out; have t2 := (hX.cell (p := ⟨b, off + k * 3 + 1, none⟩) hbW1).trans D2.out; have t3 := (hX.cell (p := ⟨b, off + k * 3 + 2, none⟩) hbW1).trans D3.out; go_simp <;> with_reducible rfl
            try simp only [List.getElem_toArray, List.getElem_cons_succ, List.getElem_cons_zero, Act.put, List.setIfInBounds_toArray, List.set_cons_zero, List.set_cons_succ]
            refine wpAnyH_ready (rs := [2]) (by kernel_rfl) (by simp) ?_
            refine AllReadyH.cons rfl (fun K hK => ?_) AllReadyH.nil
            go_simp
            go_at_call 39
            refine (HA.out _).mono ?_
            rintro e w2 ⟨rfl, hb2⟩
            (try go_simp)
            refine hK.out _ _ (hHeld.trans (hb2.mono hHeld.size)) (fun hHeld2 => ?_)
            replace hHeld := hHeld2
            clear hHeld2
            clear hK K
            try simp only [List.getElem_toArray, List.getElem_cons_succ, List.getElem_cons_zero, Act.put, List.setIfInBounds_toArray, List.set_cons_zero, List.set_cons_succ]
            refine wpAnyH_take (i := 3) (v := ?v17) rfl (by kernel_rfl) (by kernel_rfl) (by kernel_rfl) (fun _ _ _ h => h) (Or.inl ⟨by rfl, ?hy17⟩) (by assumption) ?rest17
            case hy17 => intro X hX; (try dsimp only at hX); go_simp <;> with_reducible rfl
            try simp only [List.getElem_toArray, List.getElem_cons_succ, List.getElem_cons_zero, Act.put, List.setIfInBounds_toArray, List.set_cons_zero, List.set_cons_succ]
            refine wpAnyH_take (i := 4) (v := ?v18) rfl (by kernel_rfl) (by kernel_rfl) (by kernel_rfl) (fun _ _ _ h => h) (Or.inl ⟨by rfl, ?hy18⟩) (by assumption) ?rest18
            case hy18 => intro X hX; (try dsimp only at hX); go_simp <;> with_reducible rfl
            try simp only [List.getElem_toArray, List.getElem_cons_succ, List.getElem_cons_zero, Act.put, List.setIfInBounds_toArray, List.set_cons_zero, List.set_cons_succ]
            refine wpAnyH_take (i := 5) (v := ?v19) rfl (by kernel_rfl) (by kernel_rfl) (by kernel_rfl) (fun _ _ _ h => h) (Or.inl ⟨by rfl, ?hy19⟩) (by assumption) ?rest19
            case hy19 => intro X hX; (try dsimp only at hX); go_simp <;> with_reducible rfl
            try simp only [List.getElem_toArray, List.getElem_cons_succ, List.getElem_cons_zero, Act.put, List.setIfInBounds_toArray, List.set_cons_zero, List.set_cons_succ]
            refine wpAnyH_take (i := 6) (v := ?v20) rfl (by kernel_rfl) (by kernel_rfl) (by kernel_rfl) (fun _ _ _ h => h) (Or.inl ⟨by rfl, ?hy20⟩) (by assumption) ?rest20
            case hy20 => intro X hX; (try dsimp only at hX); go_simp <;> with_reducible rfl
            try simp only [List.getElem_toArray, List.getElem_cons_succ, List.getElem_cons_zero, Act.put, List.setIfInBounds_toArray, List.set_cons_zero, List.set_cons_succ]
            refine wpAnyH_take (i := 7) (v := ?v21) rfl (by kernel_rfl) (by kernel_rfl) (by kernel_rfl) (fun _ _ _ h => h) (Or.inl ⟨by rfl, ?hy21⟩) (by assumption) ?rest21
            case hy21 => intro X hX; (try dsimp only at hX); go_simp <;> with_reducible rfl
            try simp only [List.getElem_toArray, List.getElem_cons_succ, List.getElem_cons_zero, Act.put, List.setIfInBounds_toArray, List.set_cons_zero, List.set_cons_succ]
            refine wpAnyH_take (i := 8) (v := ?v22) rfl (by kernel_rfl) (by kernel_rfl) (by kernel_rfl) (fun _ _ _ h => h) (Or.inl ⟨by rfl, ?hy22⟩) (by assumption) ?rest22
            case hy22 => intro X hX; (try dsimp only at hX); go_simp <;> with_reducible rfl
            try simp only [List.getElem_toArray, List.getElem_cons_succ, List.getElem_cons_zero, Act.put, List.setIfInBounds_toArray, List.set_cons_zero, List.set_cons_succ]
            refine wpAnyH_take (i := 9) (v := ?v23) rfl (by kernel_rfl) (by kernel_rfl) (by kernel_rfl) (fun _ _ _ h => h) (Or.inl ⟨by rfl, ?hy23⟩) (by assumption) ?rest23
            case hy23 => intro X hX; (try dsimp only at hX); obtain ⟨q1, q2, q3⟩ := (BG.out.keep hX).cells; obtain ⟨p1, p2, p3⟩ := (BE.out.keep hX).cells; have t1 := (hX.cell (p := ⟨b, off + k * 3, none⟩) hbW1).trans D1.out; have t2 := (hX.cell (p := ⟨b, off + k * 3 + 1, none⟩) hbW1).trans D2.out; have t3 := (hX.cell (p := ⟨b, off + k * 3 + 2, none⟩) hbW1).trans D3.out; go_simp <;> with_reducible rfl
            try simp only [List.getElem_toArray, List.getElem_cons_succ, List.getElem_cons_zero, Act.put, List.setIfInBounds_toArray, List.set_cons_zero, List.set_cons_succ]
            refine wpAnyH_take (i := 10) (v := ?v24) rfl (by kernel_rfl) (by kernel_rfl) (by kernel_rfl) (fun _ _ _ h => h) (Or.inl ⟨by rfl, ?hy24⟩) (by assumption) ?rest24
            case hy24 => intro X hX; (try dsimp only at hX); go_simp <;> with_reducible rfl
            try simp only [List.getElem_toArray, List.getElem_cons_succ, List.getElem_cons_zero, Act.put, List.setIfInBounds_toArray, List.set_cons_zero, List.set_cons_succ]
            refine wpAnyH_take (i := 11) (v := ?v25) rfl (by kernel_rfl) (by kernel_rfl) (by kernel_rfl) (fun _ _ _ h => h) (Or.inl ⟨by rfl, ?hy25⟩) (by assumption) ?rest25
            case hy25 => intro X hX; (try dsimp only at hX); go_simp <;> with_reducible rfl
            try simp only [List.getElem_toArray, List.getElem_cons_succ, List.getElem_cons_zero, Act.put, List.setIfInBounds_toArray, List.set_cons_zero, List.set_cons_succ]
            refine wpAnyH_take (i := 12) (v := ?v26) rfl (by kernel_rfl) (by kernel_rfl) (by kernel_rfl) (fun _ _ _ h => h) (Or.inl ⟨by rfl, ?hy26⟩) (by assumption) ?rest26
            case hy26 => intro X hX; (try dsimp only at hX); obtain ⟨q1, q2, q3⟩ := (BG.out.keep hX).cells; obtain ⟨p1, p2, p3⟩ := (BE.out.keep hX).cells; have t1 := (hX.cell (p := ⟨b, off + k * 3, none⟩) hbW1).trans D1.out; have t2 := (hX.cell (p := ⟨b, off + k * 3 + 1, none⟩) hbW1).trans D2.out; have t3 := (hX.cell (p := ⟨b, off + k * 3 + 2, none⟩) hbW1).trans D3.out; go_simp <;> with_reducible rfl
            try simp only [List.getElem_toArray, List.getElem_cons_succ, List.getElem_cons_zero, Act.put, List.setIfInBounds_toArray, List.set_cons_zero, List.set_cons_succ]
            refine wpAnyH_take (i := 13) (v := ?v27) rfl (by kernel_rfl) (by kernel_rfl) (by kernel_rfl) (fun _ _ _ h => h) (Or.inl ⟨by rfl, ?hy27⟩) (by assumption) ?rest27
            case hy27 => intro X hX; (try dsimp only at hX); obtain ⟨q1, q2, q3⟩ := (BG.out.keep hX).cells; obtain ⟨p1, p2, p3⟩ := (BE.out.keep hX).cells; have t1 := (hX.cell (p := ⟨b, off + k * 3, none⟩) hbW1).trans D1.out; have t2 := (hX.cell (p := ⟨b, off + k * 3 + 1, none⟩) hbW1).trans D2.out; have t3 := (hX.cell (p := ⟨b, off + k * 3 + 2, none⟩) hbW1).trans D3.out; go_simp <;> with_reducible rfl
            try simp only [List.getElem_toArray, List.getElem_cons_succ, List.getElem_cons_zero, Act.put, List.setIfInBounds_toArray, List.set_cons_zero, List.set_cons_succ]
            refine wpAnyH_take (i := 14) (v := ?v28) rfl (by kernel_rfl) (by kernel_rfl) (by kernel_rfl) (fun _ _ _ h => h) (Or.inl ⟨by rfl, ?hy28⟩) (by assumption) ?rest28
            case hy28 => intro X hX; (try dsimp only at hX); obtain ⟨q1, q2, q3⟩ := (BG.out.keep hX).cells; obtain ⟨p1, p2, p3⟩ := (BE.out.keep hX).cells; have t1 := (hX.cell (p := ⟨b, off + k * 3, none⟩) hbW1).trans D1.out; have t2 := (hX.cell (p := ⟨b, off + k * 3 + 1, none⟩) hbW1).trans D2.out; have t3 := (hX.cell (p := ⟨b, off + k * 3 + 2, none⟩) hbW1).trans D3.out; go_simp <;> with_reducible rfl
            try simp only [List.getElem_toArray, List.getElem_cons_succ, List.getElem_cons_zero, Act.put, List.setIfInBounds_toArray, List.set_cons_zero, List.set_cons_succ]
            refine wpAnyH_ready (rs := [15]) (by kernel_rfl) (by simp) ?_
            refine AllReadyH.cons rfl (fun K hK => ?_) AllReadyH.nil
            go_simp
            go_at_call 32
            refine (HC.out _).mono ?_
            rintro e w3 ⟨rfl, hb3⟩
            (try go_simp)
            refine hK.out _ _ (hHeld.trans (hb3.mono hHeld.size)) (fun hHeld2 => ?_)
            replace hHeld := hHeld2
            clear hHeld2
            clear hK K
            try simp only [List.getElem_toArray, List.getElem_cons_succ, List.getElem_cons_zero, Act.put, List.setIfInBounds_toArray, List.set_cons_zero, List.set_cons_succ]
            refine wpAnyH_take (i := 16) (v := ?v29) rfl (by kernel_rfl) (by kernel_rfl) (by kernel_rfl) (fun _ _ _ h => h) (Or.inl ⟨by rfl, ?hy29⟩) (by assumption) ?rest29
            case hy29 => intro X hX; (try dsimp only at hX); go_simp <;> with_reducible rfl
            try simp only [List.getElem_toArray, List.getElem_cons_succ, List.getElem_cons_zero, Act.put, List.setIfInBounds_toArray, List.set_cons_zero, List.set_cons_succ]
            refine wpAnyH_take (i := 17) (v := ?v30) rfl (by kernel_rfl) (by kernel_rfl) (by kernel_rfl) (fun _ _ _ h => h) (Or.inl ⟨by rfl, ?hy30⟩) (by assumption) ?rest30
            case hy30 => intro X hX; (try dsimp only at hX); go_simp <;> with_reducible rfl
            try simp only [List.getElem_toArray, List.getElem_cons_succ, List.getElem_cons_zero, Act.put, List.setIfInBounds_toArray, List.set_cons_zero, List.set_cons_succ]
            refine wpAnyH_take (i := 18) (v := ?v31) rfl (by kernel_rfl) (by kernel_rfl) (by kernel_rfl) (fun _ _ _ h => h) (Or.inl ⟨by rfl, ?hy31⟩) (by assumption) ?rest31
            case hy31 => intro X hX; (try dsimp only at hX); go_simp <;> with_reducible rfl
            try simp only [List.getElem_toArray, List.getElem_cons_succ, List.getElem_cons_zero, Act.put, List.setIfInBounds_toArray, List.set_cons_zero, List.set_cons_succ]
            refine wpAnyH_done (by kernel_rfl) ?_ _
            go_wp2
            go_roundw
            case rel => exact ⟨k + 1 + 1, by omega, by go_num, hst, hB1.trans (hHeld.mono hB1.size)⟩
            case measure => simp [intOf]; omega
          · have hst : Kept (edgesOk r n l = false) := ⟨edgesOk_at hlt (by rw [hC1.out]; exact decide_eq_false hneg)⟩
            have hneg2 : 0 ≤ c := by omega
            clear hneg
            go_wp2
            rw [← HW1.out]
            refine wp_region_held_drew (S := fun X => Below W1.heap.size W1 X) (by kernel_rfl) ((Below.refl W1.heap.size W1).drew) (fun hHeld => ?_)
            refine wpAnyH_take (i := 0) (v := ?v32) rfl (by kernel_rfl) (by kernel_rfl) (by kernel_rfl) (fun _ _ _ h => h) (Or.inl ⟨by rfl, ?hy32⟩) (by assumption) ?rest32
            case hy32 => intro X hX; (try dsimp only at hX); obtain ⟨q1, q2, q3⟩ := (BG.out.keep hX).cells; obtain ⟨p1, p2, p3⟩ := (BE.out.keep hX).cells; have t1 := (hX.cell (p := ⟨b, off + k * 3, none⟩) hbW1).trans D1.out; have t2 := (hX.cell (p := ⟨b, off + k * 3 + 1, none⟩) hbW1).trans D2.out; have t3 := (hX.cell (p := ⟨b, off + k * 3 + 2, none⟩) hbW1).trans D3.out; go_simp <;> with_reducible rfl
            try simp only [List.getElem_toArray, List.getElem_cons_zero, Act.put, List.setIfInBounds_toArray, List.set_cons_zero, List.set_cons_succ]
            refine wpAnyH_take (i := 1) (v := ?v33) rfl (by kernel_rfl) (by kernel_rfl) (by kernel_rfl) (fun _ _ _ h => h) (Or.inl ⟨by rfl, ?hy33⟩) (by assumption) ?rest33
            case hy33 => intro X hX; (try dsimp only at hX); obtain ⟨q1, q2, q3⟩ := (BG.out.keep hX).cells; obtain ⟨p1, p2, p3⟩ := (BE.out.keep hX).cells; have t1 := (hX.cell (p := ⟨b, off + k * 3, none⟩) hbW1).trans D1.out; have t2 := (hX.cell (p := ⟨b, off + k * 3 + 1, none⟩) hbW1).trans D2.out; have t3 := (hX.cell (p := ⟨b, off + k * 3 + 2, none⟩) hbW1).trans D3.out; go_simp <;> with_reducible rfl
            try simp only [List.getElem_toArray, List.getElem_cons_succ, List.getElem_cons_zero, Act.put, List.setIfInBounds_toArray, List.set_cons_zero, List.set_cons_succ]
            refine wpAnyH_ready (rs := [2]) (by kernel_rfl) (by simp) ?_
            refine AllReadyH.cons rfl (fun K hK => ?_) AllReadyH.nil
            go_simp
            go_at_call 39
            refine (HA.out _).mono ?_
            rintro e w2 ⟨rfl, hb2⟩
            (try go_simp)
            refine hK.out _ _ (hHeld.trans (hb2.mono hHeld.size)) (fun hHeld2 => ?_)
            replace hHeld := hHeld2
            clear hHeld2
            clear hK K
            try simp only [List.getElem_toArray, List.getElem_cons_succ, List.getElem_cons_zero, Act.put, List.setIfInBounds_toArray, List.set_cons_zero, List.set_cons_succ]
            refine wpAnyH_take (i := 3) (v := ?v34) rfl (by kernel_rfl) (by kernel_rfl) (by kernel_rfl) (fun _ _ _ h => h) (Or.inl ⟨by rfl, ?hy34⟩) (by assumption) ?rest34
            case hy34 => intro X hX; (try dsimp only at hX); go_simp <;> with_reducible rfl
            try simp only [List.getElem_toArray, List.getElem_cons_succ, List.getElem_cons_zero, Act.put, List.setIfInBounds_toArray, List.set_cons_zero, List.set_cons_succ]
            refine wpAnyH_take (i := 4) (v := ?v35) rfl (by kernel_rfl) (by kernel_rfl) (by kernel_rfl) (fun _ _ _ h => h) (Or.inl ⟨by rfl, ?hy35⟩) (by assumption) ?rest35
            case hy35 => intro X hX; (try dsimp only at hX); go_simp <;> with_reducible rfl
            try simp only [List.getElem_toArray, List.getElem_cons_succ, List.getElem_cons_zero, Act.put, List.setIfInBounds_toArray, List.set_cons_zero, List.set_cons_succ]
            refine wpAnyH_take (i := 5) (v := ?v36) rfl (by kernel_rfl) (by kernel_rfl) (by kernel_rfl) (fun _ _ _ h => h) (Or.inl ⟨by rfl, ?hy36⟩) (by assumption) ?rest36
            case hy36 => intro X hX; (try dsimp only at hX); go_simp <;> with_reducible rfl
            try simp only [List.getElem_toArray, List.getElem_cons_succ, List.getElem_cons_zero, Act.put, List.setIfInBounds_toArray, List.set_cons_zero, List.set_cons_succ]
            refine wpAnyH_take (i := 6) (v := ?v37) rfl (by kernel_rfl) (by kernel_rfl) (by kernel_rfl) (fun _ _ _ h => h) (Or.inl ⟨by rfl, ?hy37⟩) (by assumption) ?rest37
            case hy37 => intro X hX; (try dsimp only at hX); go_simp <;> with_reducible rfl
            try simp only [List.getElem_toArray, List.getElem_cons_succ, List.getElem_cons_zero, Act.put, List.setIfInBounds_toArray, List.set_cons_zero, List.set_cons_succ]
            refine wpAnyH_take (i := 7) (v := ?v38) rfl (by kernel_rfl) (by kernel_rfl) (by kernel_rfl) (fun _ _ _ h => h) (Or.inl ⟨by rfl, ?hy38⟩) (by assumption) ?rest38
            case hy38 => intro X hX; (try dsimp only at hX); go_simp <;> with_reducible rfl
            try simp only [List.getElem_toArray, List.getElem_cons_succ, List.getElem_cons_zero, Act.put, List.setIfInBounds_toArray, List.set_cons_zero, List.set_cons_succ]
            refine wpAnyH_take (i := 8) (v := ?v39) rfl (by kernel_rfl) (by kernel_rfl) (by kernel_rfl) (fun _ _ _ h => h) (Or.inl ⟨by rfl, ?hy39⟩) (by assumption) ?rest39
            case hy39 => intro X hX; (try dsimp only at hX); go_simp <;> with_reducible rfl
            try simp only [List.getElem_toArray, List.getElem_cons_succ, List.getElem_cons_zero, Act.put, List.setIfInBounds_toArray, List.set_cons_zero, List.set_cons_succ]
            refine wpAnyH_take (i := 9) (v := ?v40) rfl (by kernel_rfl) (by kernel_rfl) (by kernel_rfl) (fun _ _ _ h => h) (Or.inl ⟨by rfl, ?hy40⟩) (by assumption) ?rest40
            case hy40 => intro X hX; (try dsimp only at hX); obtain ⟨q1, q2, q3⟩ := (BG.out.keep hX).cells; obtain ⟨p1, p2, p3⟩ := (BE.out.keep hX).cells; have t1 := (hX.cell (p := ⟨b, off + k * 3, none⟩) hbW1).trans D1.out; have t2 := (hX.cell (p := ⟨b, off + k * 3 + 1, none⟩) hbW1).trans D2.out; have t3 := (hX.cell (p := ⟨b, off + k * 3 + 2, none⟩) hbW1).trans D3.out; go_simp <;> with_reducible rfl
            try simp only [List.getElem_toArray, List.getElem_cons_succ, List.getElem_cons_zero, Act.put, List.setIfInBounds_toArray, List.set_cons_zero, List.set_cons_succ]
            refine wpAnyH_take (i := 10) (v := ?v41) rfl (by kernel_rfl) (by kernel_rfl) (by kernel_rfl) (fun _ _ _ h => h) (Or.inl ⟨by rfl, ?hy41⟩) (by assumption) ?rest41
            case hy41 => intro X hX; (try dsimp only at hX); go_simp <;> with_reducible rfl
            try simp only [List.getElem_toArray, List.getElem_cons_succ, List.getElem_cons_zero, Act.put, List.setIfInBounds_toArray, List.set_cons_zero, List.set_cons_succ]
            refine wpAnyH_take (i := 11) (v := ?v42) rfl (by kernel_rfl) (by kernel_rfl) (by kernel_rfl) (fun _ _ _ h => h) (Or.inl ⟨by rfl, ?hy42⟩) (by assumption) ?rest42
            case hy42 => intro X hX; (try dsimp only at hX); go_simp <;> with_reducible rfl
            try simp only [List.getElem_toArray, List.getElem_cons_succ, List.getElem_cons_zero, Act.put, List.setIfInBounds_toArray, List.set_cons_zero, List.set_cons_succ]
            refine wpAnyH_take (i := 12) (v := ?v43) rfl (by kernel_rfl) (by kernel_rfl) (by kernel_rfl) (fun _ _ _ h => h) (Or.inl ⟨by rfl, ?hy43⟩) (by assumption) ?rest43
            case hy43 => intro X hX; (try dsimp only at hX); obtain ⟨q1, q2, q3⟩ := (BG.out.keep hX).cells; obtain ⟨p1, p2, p3⟩ := (BE.out.keep hX).cells; have t1 := (hX.cell (p := ⟨b, off + k * 3, none⟩) hbW1).trans D1.out; have t2 := (hX.cell (p := ⟨b, off + k * 3 + 1, none⟩) hbW1).trans D2.out; have t3 := (hX.cell (p := ⟨b, off + k * 3 + 2, none⟩) hbW1).trans D3.out; go_simp <;> with_reducible rfl
            try simp only [List.getElem_toArray, List.getElem_cons_succ, List.getElem_cons_zero, Act.put, List.setIfInBounds_toArray, List.set_cons_zero, List.set_cons_succ]
            refine wpAnyH_take (i := 13) (v := ?v44) rfl (by kernel_rfl) (by kernel_rfl) (by kernel_rfl) (fun _ _ _ h => h) (Or.inl ⟨by rfl, ?hy44⟩) (by assumption) ?rest44
            case hy44 => intro X hX; (try dsimp only at hX); obtain ⟨q1, q2, q3⟩ := (BG.out.keep hX).cells; obtain ⟨p1, p2, p3⟩ := (BE.out.keep hX).cells; have t1 := (hX.cell (p := ⟨b, off + k * 3, none⟩) hbW1).trans D1.out; have t2 := (hX.cell (p := ⟨b, off + k * 3 + 1, none⟩) hbW1).trans D2.out; have t3 := (hX.cell (p := ⟨b, off + k * 3 + 2, none⟩) hbW1).trans D3.out; go_simp <;> with_reducible rfl
            try simp only [List.getElem_toArray, List.getElem_cons_succ, List.getElem_cons_zero, Act.put, List.setIfInBounds_toArray, List.set_cons_zero, List.set_cons_succ]
            refine wpAnyH_take (i := 14) (v := ?v45) rfl (by kernel_rfl) (by kernel_rfl) (by kernel_rfl) (fun _ _ _ h => h) (Or.inl ⟨by rfl, ?hy45⟩) (by assumption) ?rest45
            case hy45 => intro X hX; (try dsimp only at hX); obtain ⟨q1, q2, q3⟩ := (BG.out.keep hX).cells; obtain ⟨p1, p2, p3⟩ := (BE.out.keep hX).cells; have t1 := (hX.cell (p := ⟨b, off + k * 3, none⟩) hbW1).trans D1.out; have t2 := (hX.cell (p := ⟨b, off + k * 3 + 1, none⟩) hbW1).trans D2.out; have t3 := (hX.cell (p := ⟨b, off + k * 3 + 2, none⟩) hbW1).trans D3.out; go_simp <;> with_reducible rfl
            try simp only [List.getElem_toArray, List.getElem_cons_succ, List.getElem_cons_zero, Act.put, List.setIfInBounds_toArray, List.set_cons_zero, List.set_cons_succ]
            refine wpAnyH_ready (rs := [15]) (by kernel_rfl) (by simp) ?_
            refine AllReadyH.cons rfl (fun K hK => ?_) AllReadyH.nil
            go_simp
            go_at_call 32
            refine (HC.out _).mono ?_
            rintro e w3 ⟨rfl, hb3⟩
            (try go_simp)
            refine hK.out _ _ (hHeld.trans (hb3.mono hHeld.size)) (fun hHeld2 => ?_)
            replace hHeld := hHeld2
            clear hHeld2
            clear hK K
            try simp only [List.getElem_toArray, List.getElem_cons_succ, List.getElem_cons_zero, Act.put, List.setIfInBounds_toArray, List.set_cons_zero, List.set_cons_succ]
            refine wpAnyH_take (i := 16) (v := ?v46) rfl (by kernel_rfl) (by kernel_rfl) (by kernel_rfl) (fun _ _ _ h => h) (Or.inl ⟨by rfl, ?hy46⟩) (by assumption) ?rest46
            case hy46 => intro X hX; (try dsimp only at hX); go_simp <;> with_reducible rfl
            try simp only [List.getElem_toArray, List.getElem_cons_succ, List.getElem_cons_zero, Act.put, List.setIfInBounds_toArray, List.set_cons_zero, List.set_cons_succ]
            refine wpAnyH_take (i := 17) (v := ?v47) rfl (by kernel_rfl) (by kernel_rfl) (by kernel_rfl) (fun _ _ _ h => h) (Or.inl ⟨by rfl, ?hy47⟩) (by assumption) ?rest47
            case hy47 => intro X hX; (try dsimp only at hX); go_simp <;> with_reducible rfl
            try simp only [List.getElem_toArray, List.getElem_cons_succ, List.getElem_cons_zero, Act.put, List.setIfInBounds_toArray, List.set_cons_zero, List.set_cons_succ]
            refine wpAnyH_take (i := 18) (v := ?v48) rfl (by kernel_rfl) (by kernel_rfl) (by kernel_rfl) (fun _ _ _ h => h) (Or.inl ⟨by rfl, ?hy48⟩) (by assumption) ?rest48
            case hy48 => intro X hX; (try dsimp only at hX); go_simp <;> with_reducible rfl
            try simp only [List.getElem_toArray, List.getElem_cons_succ, List.getElem_cons_zero, Act.put, List.setIfInBounds_toArray, List.set_cons_zero, List.set_cons_succ]
            refine wpAnyH_done (by kernel_rfl) ?_ _
            go_wp2
            go_ret
            rw [hst.out]
            exact ⟨rfl, hB.trans ((hB1.trans (hHeld.mono hB1.size)).mono hB.size)⟩
    · obtain rfl : k = l.length := by omega
      have hst : Kept (edgesOk r n l = true) := ⟨edgesOk_all hall.out⟩
      go_wp2
      go_ret
      rw [hst.out]
      exact ⟨rfl, hBw⟩
set_option maxHeartbeats 3200000 in
theorem isGraphS_any (r n : Int) (v : Value) (l : List Ed) (w : World) (h : Edges w v l) (hn : l.length ≤ 1048576) :
    Calls Tryz.prog 10 #[graphV r n v] w (RetV w (.bool (isG r n l))) := by
  obtain ⟨A, cap, rfl, hc, hr, hcell⟩ := h
  have H := Lib.hid hcell
  clear hcell
  obtain ⟨W, hW⟩ : ∃ W, W = (w.alloc (.cells #[.int .i64 r, .int .i64 n, .slice A l.length cap] 26 (0, 0))) := ⟨_, rfl⟩
  have hB : Below w.heap.size w W := by rw [hW]; exact (Below.refl _ _).alloc (Nat.le_refl _) _
  have bx1 : Box W w.heap.size (.cells #[.int .i64 r, .int .i64 n, .slice A l.length cap] 26 (0, 0)) := by rw [hW]; exact Box.new _ _
  have HW := Lib.hid hW
  have BX := Lib.hid bx1
  clear hW bx1
  go_enter Tryz.func10, Tryz.ntmps10
  go_wp2
  go_loopw [3] (fun i wr => ∃ k : Nat, k ≤ l.length ∧ i = .int .i64 k ∧ Kept (∀ j, j < k → stepOk r n l j = true) ∧ Below W.heap.size W wr) (fun i _ => l.length - (intOf i).toNat)
  case atStart => exact ⟨0, by omega, rfl, ⟨fun j hj => absurd hj (Nat.not_lt_zero _)⟩, by rw [HW.out]; exact Below.refl _ _⟩
  case round =>
    obtain ⟨k, hk, rfl, hall, hbel⟩ := hrel
    have hBw := hB.trans (hbel.mono hB.size)
    have BG := Lib.hid (BX.out.keep hbel)
    obtain ⟨q1, q2, q3⟩ := BG.out.cells
    by_cases hlt : k < l.length
    · obtain ⟨b, off, rfl, hb, hcell⟩ := H.out (by omega)
      obtain ⟨e1, e2, e3⟩ := hcell k hlt
      have E1 := Lib.hid ((hBw.cell (p := ⟨b, off + k * 3, none⟩) hb).trans e1)
      have E2 := Lib.hid ((hBw.cell (p := ⟨b, off + k * 3 + 1, none⟩) hb).trans e2)
      have E3 := Lib.hid ((hBw.cell (p := ⟨b, off + k * 3 + 2, none⟩) hb).trans e3)
      have hbW1 : b < wr.heap.size := Nat.lt_of_lt_of_le hb hBw.size
      have hkl : (k : Int) < (l.length : Int) := by omega
      obtain ⟨y, hy⟩ : ∃ y, y = okE r n l[k] := ⟨_, rfl⟩
      have ha := fun W => l4Edge_any r n l[k] (some ⟨b, off, none⟩) l.length cap W
      rw [← hy] at ha
      have HA := Lib.hid ha
      clear ha e1 e2 e3
      cases y with
      | false =>
        have hst : Kept (edgesOk r n l = false) := ⟨edgesOk_at hlt (by rw [stepOk, getD_at hlt, ← hy, Bool.false_and])⟩
        clear hy hcell
        go_wp2
        refine wp_region_held_drew (S := fun X => Below wr.heap.size wr X) (by kernel_rfl) ((Below.refl wr.heap.size wr).drew) (fun hHeld => ?_)
        refine wpAnyH_take (i := 0) (v := ?v49) rfl (by kernel_rfl) (by kernel_rfl) (by kernel_rfl) (fun _ _ _ h => h) (Or.inl ⟨by rfl, ?hy49⟩) (by assumption) ?rest49
        case hy49 => intro X hX; (try dsimp only at hX); obtain ⟨q1, q2, q3⟩ := (BG.out.keep hX).cells; have t1 := (hX.cell (p := ⟨b, off + k * 3, none⟩) hbW1).trans E1.out; have t2 := (hX.cell (p := ⟨b, off + k * 3 + 1, none⟩) hbW1).trans E2.out; have t3 := (hX.cell (p := ⟨b, off + k * 3 + 2, none⟩) hbW1).trans E3.out; go_simp <;> with_reducible rfl
        try simp only [List.getElem_toArray, List.getElem_cons_zero, Act.put, List.setIfInBounds_toArray, List.set_cons_zero, List.set_cons_succ]
        refine wpAnyH_take (i := 1) (v := ?v50) rfl (by kernel_rfl) (by kernel_rfl) (by kernel_rfl) (fun _ _ _ h => h) (Or.inl ⟨by rfl, ?hy50⟩) (by assumption) ?rest50
        case hy50 => intro X hX; (try dsimp only at hX); go_simp <;> with_reducible rfl
        try simp only [List.getElem_toArray, List.getElem_cons_succ, List.getElem_cons_zero, Act.put, List.setIfInBounds_toArray, List.set_cons_zero, List.set_cons_succ]
        refine wpAnyH_take (i := 2) (v := ?v51) rfl (by kernel_rfl) (by kernel_rfl) (by kernel_rfl) (fun _ _ _ h => h) (Or.inl ⟨by rfl, ?hy51⟩) (by assumption) ?rest51
        case hy51 => intro X hX; (try dsimp only at hX); obtain ⟨q1, q2, q3⟩ := (BG.out.keep hX).cells; have t1 := (hX.cell (p := ⟨b, off + k * 3, none⟩) hbW1).trans E1.out; have t2 := (hX.cell (p := ⟨b, off + k * 3 + 1, none⟩) hbW1).trans E2.out; have t3 := (hX.cell (p := ⟨b, off + k * 3 + 2, none⟩) hbW1).trans E3.out; go_simp <;> with_reducible rfl
        try simp only [List.getElem_toArray, List.getElem_cons_succ, List.getElem_cons_zero, Act.put, List.setIfInBounds_toArray, List.set_cons_zero, List.set_cons_succ]
        refine wpAnyH_take (i := 3) (v := ?v52) rfl (by kernel_rfl) (by kernel_rfl) (by kernel_rfl) (fun _ _ _ h => h) (Or.inl ⟨by rfl, ?hy52⟩) (by assumption) ?rest52
        case hy52 => intro X hX; (try dsimp only at hX); go_simp <;> with_reducible rfl
        try simp only [List.getElem_toArray, List.getElem_cons_succ, List.getElem_cons_zero, Act.put, List.setIfInBounds_toArray, List.set_cons_zero, List.set_cons_succ]
        refine wpAnyH_take (i := 4) (v := ?v53) rfl (by kernel_rfl) (by kernel_rfl) (by kernel_rfl) (fun _ _ _ h => h) (Or.inl ⟨by rfl, ?hy53⟩) (by assumption) ?rest53
        case hy53 => intro X hX; (try dsimp only at hX); obtain ⟨q1, q2, q3⟩ := (BG.out.keep hX).cells; have t1 := (hX.cell (p := ⟨b, off + k * 3, none⟩) hbW1).trans E1.out; have t2 := (hX.cell (p := ⟨b, off + k * 3 + 1, none⟩) hbW1).trans E2.out; have t3 := (hX.cell (p := ⟨b, off + k * 3 + 2, none⟩) hbW1).trans E3.out; go_simp <;> with_reducible rfl
        try simp only [List.getElem_toArray, List.getElem_cons_succ, List.getElem_cons_zero, Act.put, List.setIfInBounds_toArray, List.set_cons_zero, List.set_cons_succ]
        refine wpAnyH_take (i := 5) (v := ?v54) rfl (by kernel_rfl) (by kernel_rfl) (by kernel_rfl) (fun _ _ _ h => h) (Or.inl ⟨by rfl, ?hy54⟩) (by assumption) ?rest54
        case hy54 => intro X hX; (try dsimp only at hX); obtain ⟨q1, q2, q3⟩ := (BG.out.keep hX).cells; have t1 := (hX.cell (p := ⟨b, off + k * 3, none⟩) hbW1).trans E1.out; have t2 := (hX.cell (p := ⟨b, off + k * 3 + 1, none⟩) hbW1).trans E2.out; have t3 := (hX.cell (p := ⟨b, off + k * 3 + 2, none⟩) hbW1).trans E3.out; go_simp <;> with_reducible rfl
        try simp only [List.getElem_toArray, List.getElem_cons_succ, List.getElem_cons_zero, Act.put, List.setIfInBounds_toArray, List.set_cons_zero, List.set_cons_succ]
        refine wpAnyH_ready (rs := [6]) (by kernel_rfl) (by simp) ?_
        refine AllReadyH.cons rfl (fun K hK => ?_) AllReadyH.nil
        go_simp
        go_at_call 43
        refine (HA.out _).mono ?_
        rintro e w2 ⟨rfl, hb2⟩
        (try go_simp)
        refine hK.out _ _ (hHeld.trans (hb2.mono hHeld.size)) (fun hHeld2 => ?_)
        replace hHeld := hHeld2
        clear hHeld2
        clear hK K
        try simp only [List.getElem_toArray, List.getElem_cons_succ, List.getElem_cons_zero, Act.put, List.setIfInBounds_toArray, List.set_cons_zero, List.set_cons_succ]
        refine wpAnyH_take (i := 7) (v := ?v55) rfl (by kernel_rfl) (by kernel_rfl) (by kernel_rfl) (fun _ _ _ h => h) (Or.inl ⟨by rfl, ?hy55⟩) (by assumption) ?rest55
        case hy55 => intro X hX; (try dsimp only at hX); go_simp <;> with_reducible rfl
        try simp only [List.getElem_toArray, List.getElem_cons_succ, List.getElem_cons_zero, Act.put, List.setIfInBounds_toArray, List.set_cons_zero, List.set_cons_succ]
        refine wpAnyH_take (i := 8) (v := ?v56) rfl (by kernel_rfl) (by kernel_rfl) (by kernel_rfl) (fun _ _ _ h => h) (Or.inl ⟨by rfl, ?hy56⟩) (by assumption) ?rest56
        case hy56 => intro X hX; (try dsimp only at hX); go_simp <;> with_reducible rfl
        try simp only [List.getElem_toArray, List.getElem_cons_succ, List.getElem_cons_zero, Act.put, List.setIfInBounds_toArray, List.set_cons_zero, List.set_cons_succ]
        refine wpAnyH_take (i := 9) (v := undef) rfl (by kernel_rfl) (by kernel_rfl) (by kernel_rfl) (fun _ _ _ h => h) (Or.inr ⟨by rfl, rfl⟩) (by assumption) ?_
        try simp only [List.getElem_toArray, List.getElem_cons_succ, List.getElem_cons_zero, Act.put, List.setIfInBounds_toArray, List.set_cons_zero, List.set_cons_succ]
        refine wpAnyH_take (i := 10) (v := undef) rfl (by kernel_rfl) (by kernel_rfl) (by kernel_rfl) (fun _ _ _ h => h) (Or.inr ⟨by rfl, rfl⟩) (by assumption) ?_
        try simp only [List.getElem_toArray, List.getElem_cons_succ, List.getElem_cons_zero, Act.put, List.setIfInBounds_toArray, List.set_cons_zero, List.set_cons_succ]
        refine wpAnyH_take (i := 11) (v := undef) rfl (by kernel_rfl) (by kernel_rfl) (by kernel_rfl) (fun _ _ _ h => h) (Or.inr ⟨by rfl, rfl⟩) (by assumption) ?_
        try simp only [List.getElem_toArray, List.getElem_cons_succ, List.getElem_cons_zero, Act.put, List.setIfInBounds_toArray, List.set_cons_zero, List.set_cons_succ]
        refine wpAnyH_take (i := 12) (v := undef) rfl (by kernel_rfl) (by kernel_rfl) (by kernel_rfl) (fun _ _ _ h => h) (Or.inr ⟨by rfl, rfl⟩) (by assumption) ?_
        try simp only [List.getElem_toArray, List.getElem_cons_succ, List.getElem_cons_zero, Act.put, List.setIfInBounds_toArray, List.set_cons_zero, List.set_cons_succ]
        refine wpAnyH_take (i := 13) (v := undef) rfl (by kernel_rfl) (by kernel_rfl) (by kernel_rfl) (fun _ _ _ h => h) (Or.inr ⟨by rfl, rfl⟩) (by assumption) ?_
        try simp only [List.getElem_toArray, List.getElem_cons_succ, List.getElem_cons_zero, Act.put, List.setIfInBounds_toArray, List.set_cons_zero, List.set_cons_succ]
        refine wpAnyH_take (i := 14) (v := undef) rfl (by kernel_rfl) (by kernel_rfl) (by kernel_rfl) (fun _ _ _ h => h) (Or.inr ⟨by rfl, rfl⟩) (by assumption) ?_
        try simp only [List.getElem_toArray, List.getElem_cons_succ, List.getElem_cons_zero, Act.put, List.setIfInBounds_toArray, List.set_cons_zero, List.set_cons_succ]
        refine wpAnyH_take (i := 15) (v := undef) rfl (by kernel_rfl) (by kernel_rfl) (by kernel_rfl) (fun _ _ _ h => h) (Or.inr ⟨by rfl, rfl⟩) (by assumption) ?_
        try simp only [List.getElem_toArray, List.getElem_cons_succ, List.getElem_cons_zero, Act.put, List.setIfInBounds_toArray, List.set_cons_zero, List.set_cons_succ]
        refine wpAnyH_take (i := 16) (v := undef) rfl (by kernel_rfl) (by kernel_rfl) (by kernel_rfl) (fun _ _ _ h => h) (Or.inr ⟨by rfl, rfl⟩) (by assumption) ?_
        try simp only [List.getElem_toArray, List.getElem_cons_succ, List.getElem_cons_zero, Act.put, List.setIfInBounds_toArray, List.set_cons_zero, List.set_cons_succ]
        refine wpAnyH_take (i := 17) (v := undef) rfl (by kernel_rfl) (by kernel_rfl) (by kernel_rfl) (fun _ _ _ h => h) (Or.inr ⟨by rfl, rfl⟩) (by assumption) ?_
        try simp only [List.getElem_toArray, List.getElem_cons_succ, List.getElem_cons_zero, Act.put, List.setIfInBounds_toArray, List.set_cons_zero, List.set_cons_succ]
        refine wpAnyH_take (i := 18) (v := undef) rfl (by kernel_rfl) (by kernel_rfl) (by kernel_rfl) (fun _ _ _ h => h) (Or.inr ⟨by rfl, rfl⟩) (by assumption) ?_
        try simp only [List.getElem_toArray, List.getElem_cons_succ, List.getElem_cons_zero, Act.put, List.setIfInBounds_toArray, List.set_cons_zero, List.set_cons_succ]
        refine wpAnyH_take (i := 19) (v := undef) rfl (by kernel_rfl) (by kernel_rfl) (by kernel_rfl) (fun _ _ _ h => h) (Or.inr ⟨by rfl, rfl⟩) (by assumption) ?_
        try simp only [List.getElem_toArray, List.getElem_cons_succ, List.getElem_cons_zero, Act.put, List.setIfInBounds_toArray, List.set_cons_zero, List.set_cons_succ]
        refine wpAnyH_take (i := 20) (v := undef) rfl (by kernel_rfl) (by kernel_rfl) (by kernel_rfl) (fun _ _ _ h => h) (Or.inr ⟨by rfl, rfl⟩) (by assumption) ?_
        try simp only [List.getElem_toArray, List.getElem_cons_succ, List.getElem_cons_zero, Act.put, List.setIfInBounds_toArray, List.set_cons_zero, List.set_cons_succ]
        refine wpAnyH_take (i := 21) (v := undef) rfl (by kernel_rfl) (by kernel_rfl) (by kernel_rfl) (fun _ _ _ h => h) (Or.inr ⟨by rfl, rfl⟩) (by assumption) ?_
        try simp only [List.getElem_toArray, List.getElem_cons_succ, List.getElem_cons_zero, Act.put, List.setIfInBounds_toArray, List.set_cons_zero, List.set_cons_succ]
        refine wpAnyH_take (i := 22) (v := undef) rfl (by kernel_rfl) (by kernel_rfl) (by kernel_rfl) (fun _ _ _ h => h) (Or.inr ⟨by rfl, rfl⟩) (by assumption) ?_
        try simp only [List.getElem_toArray, List.getElem_cons_succ, List.getElem_cons_zero, Act.put, List.setIfInBounds_toArray, List.set_cons_zero, List.set_cons_succ]
        refine wpAnyH_take (i := 23) (v := undef) rfl (by kernel_rfl) (by kernel_rfl) (by kernel_rfl) (fun _ _ _ h => h) (Or.inr ⟨by rfl, rfl⟩) (by assumption) ?_
        try simp only [List.getElem_toArray, List.getElem_cons_succ, List.getElem_cons_zero, Act.put, List.setIfInBounds_toArray, List.set_cons_zero, List.set_cons_succ]
        refine wpAnyH_take (i := 24) (v := undef) rfl (by kernel_rfl) (by kernel_rfl) (by kernel_rfl) (fun _ _ _ h => h) (Or.inr ⟨by rfl, rfl⟩) (by assumption) ?_
        try simp only [List.getElem_toArray, List.getElem_cons_succ, List.getElem_cons_zero, Act.put, List.setIfInBounds_toArray, List.set_cons_zero, List.set_cons_succ]
        refine wpAnyH_take (i := 25) (v := undef) rfl (by kernel_rfl) (by kernel_rfl) (by kernel_rfl) (fun _ _ _ h => h) (Or.inr ⟨by rfl, rfl⟩) (by assumption) ?_
        try simp only [List.getElem_toArray, List.getElem_cons_succ, List.getElem_cons_zero, Act.put, List.setIfInBounds_toArray, List.set_cons_zero, List.set_cons_succ]
        refine wpAnyH_take (i := 26) (v := ?v57) rfl (by kernel_rfl) (by kernel_rfl) (by kernel_rfl) (fun _ _ _ h => h) (Or.inl ⟨by rfl, ?hy57⟩) (by assumption) ?rest57
        case hy57 => intro X hX; (try dsimp only at hX); go_simp <;> with_reducible rfl
        try simp only [List.getElem_toArray, List.getElem_cons_succ, List.getElem_cons_zero, Act.put, List.setIfInBounds_toArray, List.set_cons_zero, List.set_cons_succ]
        refine wpAnyH_done (by kernel_rfl) ?_ _
        go_wp2
        go_ret
        rw [isG_bad hst.out]
        exact ⟨rfl, hBw.trans (hHeld.mono hBw.size)⟩
      | true =>
        by_cases hk0 : k = 0
        · have hst : Kept (∀ j, j < k + 1 → stepOk r n l j = true) := ⟨fun j hj => by
            have : j = k := by omega
            subst this
            rw [stepOk, getD_at hlt, ← hy, decide_eq_true hk0]; rfl⟩
          have hk1 : decide (0 < k) = false := decide_eq_false (by omega)
          have hk2 : (k : Int) ≤ 0 := by omega
          clear hy hcell hk0
          go_wp2
          refine wp_region_held_drew (S := fun X => Below wr.heap.size wr X) (by kernel_rfl) ((Below.refl wr.heap.size wr).drew) (fun hHeld => ?_)
          refine wpAnyH_take (i := 0) (v := ?v58) rfl (by kernel_rfl) (by kernel_rfl) (by kernel_rfl) (fun _ _ _ h => h) (Or.inl ⟨by rfl, ?hy58⟩) (by assumption) ?rest58
          case hy58 => intro X hX; (try dsimp only at hX); obtain ⟨q1, q2, q3⟩ := (BG.out.keep hX).cells; have t1 := (hX.cell (p := ⟨b, off + k * 3, none⟩) hbW1).trans E1.out; have t2 := (hX.cell (p := ⟨b, off + k * 3 + 1, none⟩) hbW1).trans E2.out; have t3 := (hX.cell (p := ⟨b, off + k * 3 + 2, none⟩) hbW1).trans E3.out; go_simp <;> with_reducible rfl
          try simp only [List.getElem_toArray, List.getElem_cons_zero, Act.put, List.setIfInBounds_toArray, List.set_cons_zero, List.set_cons_succ]
          refine wpAnyH_take (i := 1) (v := ?v59) rfl (by kernel_rfl) (by kernel_rfl) (by kernel_rfl) (fun _ _ _ h => h) (Or.inl ⟨by rfl, ?hy59⟩) (by assumption) ?rest59
          case hy59 => intro X hX; (try dsimp only at hX); go_simp <;> with_reducible rfl
          try simp only [List.getElem_toArray, List.getElem_cons_succ, List.getElem_cons_zero, Act.put, List.setIfInBounds_toArray, List.set_cons_zero, List.set_cons_succ]
          refine wpAnyH_take (i := 2) (v := ?v60) rfl (by kernel_rfl) (by kernel_rfl) (by kernel_rfl) (fun _ _ _ h => h) (Or.inl ⟨by rfl, ?hy60⟩) (by assumption) ?rest60
          case hy60 => intro X hX; (try dsimp only at hX); obtain ⟨q1, q2, q3⟩ := (BG.out.keep hX).cells; have t1 := (hX.cell (p := ⟨b, off + k * 3, none⟩) hbW1).trans E1.out; have t2 := (hX.cell (p := ⟨b, off + k * 3 + 1, none⟩) hbW1).trans E2.out; have t3 := (hX.cell (p := ⟨b, off + k * 3 + 2, none⟩) hbW1).trans E3.out; go_simp <;> with_reducible rfl
          try simp only [List.getElem_toArray, List.getElem_cons_succ, List.getElem_cons_zero, Act.put, List.setIfInBounds_toArray, List.set_cons_zero, List.set_cons_succ]
          refine wpAnyH_take (i := 3) (v := ?v61) rfl (by kernel_rfl) (by kernel_rfl) (by kernel_rfl) (fun _ _ _ h => h) (Or.inl ⟨by rfl, ?hy61⟩) (by assumption) ?rest61
          case hy61 => intro X hX; (try dsimp only at hX); go_simp <;> with_reducible rfl
          try simp only [List.getElem_toArray, List.getElem_cons_succ, List.getElem_cons_zero, Act.put, List.setIfInBounds_toArray, List.set_cons_zero, List.set_cons_succ]
          refine wpAnyH_take (i := 4) (v := ?v62) rfl (by kernel_rfl) (by kernel_rfl) (by kernel_rfl) (fun _ _ _ h => h) (Or.inl ⟨by rfl, ?hy62⟩) (by assumption) ?rest62
          case hy62 => intro X hX; (try dsimp only at hX); obtain ⟨q1, q2, q3⟩ := (BG.out.keep hX).cells; have t1 := (hX.cell (p := ⟨b, off + k * 3, none⟩) hbW1).trans E1.out; have t2 := (hX.cell (p := ⟨b, off + k * 3 + 1, none⟩) hbW1).trans E2.out; have t3 := (hX.cell (p := ⟨b, off + k * 3 + 2, none⟩) hbW1).trans E3.out; go_simp <;> with_reducible rfl
          try simp only [List.getElem_toArray, List.getElem_cons_succ, List.getElem_cons_zero, Act.put, List.setIfInBounds_toArray, List.set_cons_zero, List.set_cons_succ]
          refine wpAnyH_take (i := 5) (v := ?v63) rfl (by kernel_rfl) (by kernel_rfl) (by kernel_rfl) (fun _ _ _ h => h) (Or.inl ⟨by rfl, ?hy63⟩) (by assumption) ?rest63
          case hy63 => intro X hX; (try dsimp only at hX); obtain ⟨q1, q2, q3⟩ := (BG.out.keep hX).cells; have t1 := (hX.cell (p := ⟨b, off + k * 3, none⟩) hbW1).trans E1.out; have t2 := (hX.cell (p := ⟨b, off + k * 3 + 1, none⟩) hbW1).trans E2.out; have t3 := (hX.cell (p := ⟨b, off + k * 3 + 2, none⟩) hbW1).trans E3.out; go_simp <;> with_reducible rfl
          try simp only [List.getElem_toArray, List.getElem_cons_succ, List.getElem_cons_zero, Act.put, List.setIfInBounds_toArray, List.set_cons_zero, List.set_cons_succ]
          refine wpAnyH_ready (rs := [6]) (by kernel_rfl) (by simp) ?_
          refine AllReadyH.cons rfl (fun K hK => ?_) AllReadyH.nil
          go_simp
          go_at_call 43
          refine (HA.out _).mono ?_
          rintro e w2 ⟨rfl, hb2⟩
          (try go_simp)
          refine hK.out _ _ (hHeld.trans (hb2.mono hHeld.size)) (fun hHeld2 => ?_)
          replace hHeld := hHeld2
          clear hHeld2
          clear hK K
          try simp only [List.getElem_toArray, List.getElem_cons_succ, List.getElem_cons_zero, Act.put, List.setIfInBounds_toArray, List.set_cons_zero, List.set_cons_succ]
          refine wpAnyH_take (i := 7) (v := ?v64) rfl (by kernel_rfl) (by kernel_rfl) (by kernel_rfl) (fun _ _ _ h => h) (Or.inl ⟨by rfl, ?hy64⟩) (by assumption) ?rest64
          case hy64 => intro X hX; (try dsimp only at hX); go_simp <;> with_reducible rfl
          try simp only [List.getElem_toArray, List.getElem_cons_succ, List.getElem_cons_zero, Act.put, List.setIfInBounds_toArray, List.set_cons_zero, List.set_cons_succ]
          refine wpAnyH_take (i := 8) (v := ?v65) rfl (by kernel_rfl) (by kernel_rfl) (by kernel_rfl) (fun _ _ _ h => h) (Or.inl ⟨by rfl, ?hy65⟩) (by assumption) ?rest65
          case hy65 => intro X hX; (try dsimp only at hX); go_simp <;> with_reducible rfl
          try simp only [List.getElem_toArray, List.getElem_cons_succ, List.getElem_cons_zero, Act.put, List.setIfInBounds_toArray, List.set_cons_zero, List.set_cons_succ]
          refine wpAnyH_take (i := 9) (v := ?v66) rfl (by kernel_rfl) (by kernel_rfl) (by kernel_rfl) (fun _ _ _ h => h) (Or.inl ⟨by rfl, ?hy66⟩) (by assumption) ?rest66
          case hy66 => intro X hX; (try dsimp only at hX); go_simp <;> with_reducible rfl
          try simp only [List.getElem_toArray, List.getElem_cons_succ, List.getElem_cons_zero, Act.put, List.setIfInBounds_toArray, List.set_cons_zero, List.set_cons_succ]
          refine wpAnyH_take (i := 10) (v := ?v67) rfl (by kernel_rfl) (by kernel_rfl) (by kernel_rfl) (fun _ _ _ h => h) (Or.inl ⟨by rfl, ?hy67⟩) (by assumption) ?rest67
          case hy67 => intro X hX; (try dsimp only at hX); go_simp <;> with_reducible rfl
          try simp only [List.getElem_toArray, List.getElem_cons_succ, List.getElem_cons_zero, Act.put, List.setIfInBounds_toArray, List.set_cons_zero, List.set_cons_succ]
          refine wpAnyH_take (i := 11) (v := ?v68) rfl (by kernel_rfl) (by kernel_rfl) (by kernel_rfl) (fun _ _ _ h => h) (Or.inl ⟨by rfl, ?hy68⟩) (by assumption) ?rest68
          case hy68 => intro X hX; (try dsimp only at hX); go_simp <;> with_reducible rfl
          try simp only [List.getElem_toArray, List.getElem_cons_succ, List.getElem_cons_zero, Act.put, List.setIfInBounds_toArray, List.set_cons_zero, List.set_cons_succ]
          refine wpAnyH_take (i := 12) (v := undef) rfl (by kernel_rfl) (by kernel_rfl) (by kernel_rfl) (fun _ _ _ h => h) (Or.inr ⟨by rfl, rfl⟩) (by assumption) ?_
          try simp only [List.getElem_toArray, List.getElem_cons_succ, List.getElem_cons_zero, Act.put, List.setIfInBounds_toArray, List.set_cons_zero, List.set_cons_succ]
          refine wpAnyH_take (i := 13) (v := undef) rfl (by kernel_rfl) (by kernel_rfl) (by kernel_rfl) (fun _ _ _ h => h) (Or.inr ⟨by rfl, rfl⟩) (by assumption) ?_
          try simp only [List.getElem_toArray, List.getElem_cons_succ, List.getElem_cons_zero, Act.put, List.setIfInBounds_toArray, List.set_cons_zero, List.set_cons_succ]
          refine wpAnyH_take (i := 14) (v := undef) rfl (by kernel_rfl) (by kernel_rfl) (by kernel_rfl) (fun _ _ _ h => h) (Or.inr ⟨by rfl, rfl⟩) (by assumption) ?_
          try simp only [List.getElem_toArray, List.getElem_cons_succ, List.getElem_cons_zero, Act.put, List.setIfInBounds_toArray, List.set_cons_zero, List.set_cons_succ]
          refine wpAnyH_take (i := 15) (v := undef) rfl (by kernel_rfl) (by kernel_rfl) (by kernel_rfl) (fun _ _ _ h => h) (Or.inr ⟨by rfl, rfl⟩) (by assumption) ?_
          try simp only [List.getElem_toArray, List.getElem_cons_succ, List.getElem_cons_zero, Act.put, List.setIfInBounds_toArray, List.set_cons_zero, List.set_cons_succ]
          refine wpAnyH_take (i := 16) (v := undef) rfl (by kernel_rfl) (by kernel_rfl) (by kernel_rfl) (fun _ _ _ h => h) (Or.inr ⟨by rfl, rfl⟩) (by assumption) ?_
          try simp only [List.getElem_toArray, List.getElem_cons_succ, List.getElem_cons_zero, Act.put, List.setIfInBounds_toArray, List.set_cons_zero, List.set_cons_succ]
          refine wpAnyH_take (i := 17) (v := undef) rfl (by kernel_rfl) (by kernel_rfl) (by kernel_rfl) (fun _ _ _ h => h) (Or.inr ⟨by rfl, rfl⟩) (by assumption) ?_
          try simp only [List.getElem_toArray, List.getElem_cons_succ, List.getElem_cons_zero, Act.put, List.setIfInBounds_toArray, List.set_cons_zero, List.set_cons_succ]
          refine wpAnyH_take (i := 18) (v := undef) rfl (by kernel_rfl) (by kernel_rfl) (by kernel_rfl) (fun _ _ _ h => h) (Or.inr ⟨by rfl, rfl⟩) (by assumption) ?_
          try simp only [List.getElem_toArray, List.getElem_cons_succ, List.getElem_cons_zero, Act.put, List.setIfInBounds_toArray, List.set_cons_zero, List.set_cons_succ]
          refine wpAnyH_take (i := 19) (v := undef) rfl (by kernel_rfl) (by kernel_rfl) (by kernel_rfl) (fun _ _ _ h => h) (Or.inr ⟨by rfl, rfl⟩) (by assumption) ?_
          try simp only [List.getElem_toArray, List.getElem_cons_succ, List.getElem_cons_zero, Act.put, List.setIfInBounds_toArray, List.set_cons_zero, List.set_cons_succ]
          refine wpAnyH_take (i := 20) (v := undef) rfl (by kernel_rfl) (by kernel_rfl) (by kernel_rfl) (fun _ _ _ h => h) (Or.inr ⟨by rfl, rfl⟩) (by assumption) ?_
          try simp only [List.getElem_toArray, List.getElem_cons_succ, List.getElem_cons_zero, Act.put, List.setIfInBounds_toArray, List.set_cons_zero, List.set_cons_succ]
          refine wpAnyH_take (i := 21) (v := undef) rfl (by kernel_rfl) (by kernel_rfl) (by kernel_rfl) (fun _ _ _ h => h) (Or.inr ⟨by rfl, rfl⟩) (by assumption) ?_
          try simp only [List.getElem_toArray, List.getElem_cons_succ, List.getElem_cons_zero, Act.put, List.setIfInBounds_toArray, List.set_cons_zero, List.set_cons_succ]
          refine wpAnyH_take (i := 22) (v := undef) rfl (by kernel_rfl) (by kernel_rfl) (by kernel_rfl) (fun _ _ _ h => h) (Or.inr ⟨by rfl, rfl⟩) (by assumption) ?_
          try simp only [List.getElem_toArray, List.getElem_cons_succ, List.getElem_cons_zero, Act.put, List.setIfInBounds_toArray, List.set_cons_zero, List.set_cons_succ]
          refine wpAnyH_take (i := 23) (v := undef) rfl (by kernel_rfl) (by kernel_rfl) (by kernel_rfl) (fun _ _ _ h => h) (Or.inr ⟨by rfl, rfl⟩) (by assumption) ?_
          try simp only [List.getElem_toArray, List.getElem_cons_succ, List.getElem_cons_zero, Act.put, List.setIfInBounds_toArray, List.set_cons_zero, List.set_cons_succ]
          refine wpAnyH_take (i := 24) (v := undef) rfl (by kernel_rfl) (by kernel_rfl) (by kernel_rfl) (fun _ _ _ h => h) (Or.inr ⟨by rfl, rfl⟩) (by assumption) ?_
          try simp only [List.getElem_toArray, List.getElem_cons_succ, List.getElem_cons_zero, Act.put, List.setIfInBounds_toArray, List.set_cons_zero, List.set_cons_succ]
          refine wpAnyH_take (i := 25) (v := ?v69) rfl (by kernel_rfl) (by kernel_rfl) (by kernel_rfl) (fun _ _ _ h => h) (Or.inl ⟨by rfl, ?hy69⟩) (by assumption) ?rest69
          case hy69 => intro X hX; (try dsimp only at hX); go_simp <;> with_reducible rfl
          try simp only [List.getElem_toArray, List.getElem_cons_succ, List.getElem_cons_zero, Act.put, List.setIfInBounds_toArray, List.set_cons_zero, List.set_cons_succ]
          refine wpAnyH_take (i := 26) (v := ?v70) rfl (by kernel_rfl) (by kernel_rfl) (by kernel_rfl) (fun _ _ _ h => h) (Or.inl ⟨by rfl, ?hy70⟩) (by assumption) ?rest70
          case hy70 => intro X hX; (try dsimp only at hX); go_simp <;> with_reducible rfl
          try simp only [List.getElem_toArray, List.getElem_cons_succ, List.getElem_cons_zero, Act.put, List.setIfInBounds_toArray, List.set_cons_zero, List.set_cons_succ]
          refine wpAnyH_done (by kernel_rfl) ?_ _
          go_wp2
          go_roundw
          case rel => exact ⟨k + 1, by omega, by go_num, hst, hbel.trans (hHeld.mono hbel.size)⟩
          case measure => simp [intOf]; omega
        · obtain ⟨k, rfl⟩ : ∃ k', k = k' + 1 := ⟨k - 1, by omega⟩
          have hlt1 : k < l.length := by omega
          obtain ⟨c, hc0⟩ : ∃ c, c = cmpEd l[k] l[k + 1] := ⟨_, rfl⟩
          have hcm := fun W => compareEdgesS_any l[k].1 l[k].2.1 l[k].2.2 l[k + 1].1 l[k + 1].2.1 l[k + 1].2.2 W
          have hc1 : stepOk r n l (k + 1) = decide (c < 0) := by
            rw [stepOk, getD_at hlt, ← hy, Bool.true_and, Nat.add_sub_cancel, getD_at hlt1, hc0]; simp
          change ∀ W, Calls _ _ _ W fun e w' => e = .returned (.int .i64 (cmpEd l[k] l[k + 1])) ∧ _ at hcm
          rw [← hc0] at hcm
          have HC := Lib.hid hcm
          obtain ⟨d1, d2, d3⟩ := hcell k hlt1
          have D1 := Lib.hid ((hBw.cell (p := ⟨b, off + k * 3, none⟩) hb).trans d1)
          have D2 := Lib.hid ((hBw.cell (p := ⟨b, off + k * 3 + 1, none⟩) hb).trans d2)
          have D3 := Lib.hid ((hBw.cell (p := ⟨b, off + k * 3 + 2, none⟩) hb).trans d3)
          have hC1 := Lib.hid hc1
          have hkk : (k : Int) < (l.length : Int) := by omega
          have hk1 : decide (0 < k + 1) = true := decide_eq_true (by omega)
          have hwk : IntKind.i64.wrap ((k : Nat) : Int) = (k : Int) := by rw [IntKind.wrap_i64]; omega
          have hk3 : (0 : Int) ≤ (k : Int) + 1 := by omega
          clear hy hcell hk0 hcm hc0 d1 d2 d3 hc1
          by_cases hneg : c < 0
          · have hst : Kept (∀ j, j < k + 1 + 1 → stepOk r n l j = true) := ⟨fun j hj => by
              by_cases hj2 : j = k + 1
              · rw [hj2, hC1.out]; exact decide_eq_true hneg
              · exact hall.out j (by omega)⟩
            go_wp2
            refine wp_region_held_drew (S := fun X => Below wr.heap.size wr X) (by kernel_rfl) ((Below.refl wr.heap.size wr).drew) (fun hHeld => ?_)
            refine wpAnyH_take (i := 0) (v := ?v71) rfl (by kernel_rfl) (by kernel_rfl) (by kernel_rfl) (fun _ _ _ h => h) (Or.inl ⟨by rfl, ?hy71⟩) (by assumption) ?rest71
            case hy71 => intro X hX; (try dsimp only at hX); obtain ⟨q1, q2, q3⟩ := (BG.out.keep hX).cells; have t1 := (hX.cell (p := ⟨b, off + (k + 1) * 3, none⟩) hbW1).trans E1.out; have t2 := (hX.cell (p := ⟨b, off + (k + 1) * 3 + 1, none⟩) hbW1).trans E2.out; have t3 := (hX.cell (p := ⟨b, off + (k + 1) * 3 + 2, none⟩) hbW1).trans E3.out; have u1 := (hX.cell (p := ⟨b, off + k * 3, none⟩) hbW1).trans D1.out; have u2 := (hX.cell (p := ⟨b, off + k * 3 + 1, none⟩) hbW1).trans D2.out; have u3 := (hX.cell (p := ⟨b, off + k * 3 + 2, none⟩) hbW1).trans D3.out; go_simp <;> with_reducible rfl
            try simp only [List.getElem_toArray, List.getElem_cons_zero, Act.put, List.setIfInBounds_toArray, List.set_cons_zero, List.set_cons_succ]
            refine wpAnyH_take (i := 1) (v := ?v72) rfl (by kernel_rfl) (by kernel_rfl) (by kernel_rfl) (fun _ _ _ h => h) (Or.inl ⟨by rfl, ?hy72⟩) (by assumption) ?rest72
            case hy72 => intro X hX; (try dsimp only at hX); go_simp <;> with_reducible rfl
            try simp only [List.getElem_toArray, List.getElem_cons_succ, List.getElem_cons_zero, Act.put, List.setIfInBounds_toArray, List.set_cons_zero, List.set_cons_succ]
            refine wpAnyH_take (i := 2) (v := ?v73) rfl (by kernel_rfl) (by kernel_rfl) (by kernel_rfl) (fun _ _ _ h => h) (Or.inl ⟨by rfl, ?hy73⟩) (by assumption) ?rest73
            case hy73 => intro X hX; (try dsimp only at hX); obtain ⟨q1, q2, q3⟩ := (BG.out.keep hX).cells; have t1 := (hX.cell (p := ⟨b, off + (k + 1) * 3, none⟩) hbW1).trans E1.out; have t2 := (hX.cell (p := ⟨b, off + (k + 1) * 3 + 1, none⟩) hbW1).trans E2.out; have t3 := (hX.cell (p := ⟨b, off + (k + 1) * 3 + 2, none⟩) hbW1).trans E3.out; have u1 := (hX.cell (p := ⟨b, off + k * 3, none⟩) hbW1).trans D1.out; have u2 := (hX.cell (p := ⟨b, off + k * 3 + 1, none⟩) hbW1).trans D2.out; have u3 := (hX.cell (p := ⟨b, off + k * 3 + 2, none⟩) hbW1).trans D3.out; go_simp <;> with_reducible rfl
            try simp only [List.getElem_toArray, List.getElem_cons_succ, List.getElem_cons_zero, Act.put, List.setIfInBounds_toArray, List.set_cons_zero, List.set_cons_succ]
            refine wpAnyH_take (i := 3) (v := ?v74) rfl (by kernel_rfl) (by kernel_rfl) (by kernel_rfl) (fun _ _ _ h => h) (Or.inl ⟨by rfl, ?hy74⟩) (by assumption) ?rest74
            case hy74 => intro X hX; (try dsimp only at hX); go_simp <;> with_reducible rfl
            try simp only [List.getElem_toArray, List.getElem_cons_succ, List.getElem_cons_zero, Act.put, List.setIfInBounds_toArray, List.set_cons_zero, List.set_cons_succ]
            refine wpAnyH_take (i := 4) (v := ?v75) rfl (by kernel_rfl) (by kernel_rfl) (by kernel_rfl) (fun _ _ _ h => h) (Or.inl ⟨by rfl, ?hy75⟩) (by assumption) ?rest75
            case hy75 => intro X hX; (try dsimp only at hX); obtain ⟨q1, q2, q3⟩ := (BG.out.keep hX).cells; have t1 := (hX.cell (p := ⟨b, off + (k + 1) * 3, none⟩) hbW1).trans E1.out; have t2 := (hX.cell (p := ⟨b, off + (k + 1) * 3 + 1, none⟩) hbW1).trans E2.out; have t3 := (hX.cell (p := ⟨b, off + (k + 1) * 3 + 2, none⟩) hbW1).trans E3.out; have u1 := (hX.cell (p := ⟨b, off + k * 3, none⟩) hbW1).trans D1.out; have u2 := (hX.cell (p := ⟨b, off + k * 3 + 1, none⟩) hbW1).trans D2.out; have u3 := (hX.cell (p := ⟨b, off + k * 3 + 2, none⟩) hbW1).trans D3.out; go_simp <;> with_reducible rfl
            try simp only [List.getElem_toArray, List.getElem_cons_succ, List.getElem_cons_zero, Act.put, List.setIfInBounds_toArray, List.set_cons_zero, List.set_cons_succ]
            refine wpAnyH_take (i := 5) (v := ?v76) rfl (by kernel_rfl) (by kernel_rfl) (by kernel_rfl) (fun _ _ _ h => h) (Or.inl ⟨by rfl, ?hy76⟩) (by assumption) ?rest76
            case hy76 => intro X hX; (try dsimp only at hX); obtain ⟨q1, q2, q3⟩ := (BG.out.keep hX).cells; have t1 := (hX.cell (p := ⟨b, off + (k + 1) * 3, none⟩) hbW1).trans E1.out; have t2 := (hX.cell (p := ⟨b, off + (k + 1) * 3 + 1, none⟩) hbW1).trans E2.out; have t3 := (hX.cell (p := ⟨b, off + (k + 1) * 3 + 2, none⟩) hbW1).trans E3.out; have u1 := (hX.cell (p := ⟨b, off + k * 3, none⟩) hbW1).trans D1.out; have u2 := (hX.cell (p := ⟨b, off + k * 3 + 1, none⟩) hbW1).trans D2.out; have u3 := (hX.cell (p := ⟨b, off + k * 3 + 2, none⟩) hbW1).trans D3.out; go_simp <;> with_reducible rfl
            try simp only [List.getElem_toArray, List.getElem_cons_succ, List.getElem_cons_zero, Act.put, List.setIfInBounds_toArray, List.set_cons_zero, List.set_cons_succ]
            refine wpAnyH_ready (rs := [6]) (by kernel_rfl) (by simp) ?_
            refine AllReadyH.cons rfl (fun K hK => ?_) AllReadyH.nil
            go_simp
            go_at_call 43
            refine (HA.out _).mono ?_
            rintro e w2 ⟨rfl, hb2⟩
            (try go_simp)
            refine hK.out _ _ (hHeld.trans (hb2.mono hHeld.size)) (fun hHeld2 => ?_)
            replace hHeld := hHeld2
            clear hHeld2
            clear hK K
            try simp only [List.getElem_toArray, List.getElem_cons_succ, List.getElem_cons_zero, Act.put, List.setIfInBounds_toArray, List.set_cons_zero, List.set_cons_succ]
            refine wpAnyH_take (i := 7) (v := ?v77) rfl (by kernel_rfl) (by kernel_rfl) (by kernel_rfl) (fun _ _ _ h => h) (Or.inl ⟨by rfl, ?hy77⟩) (by assumption) ?rest77
            case hy77 => intro X hX; (try dsimp only at hX); go_simp <;> with_reducible rfl
            try simp only [List.getElem_toArray, List.getElem_cons_succ, List.getElem_cons_zero, Act.put, List.setIfInBounds_toArray, List.set_cons_zero, List.set_cons_succ]
            refine wpAnyH_take (i := 8) (v := ?v78) rfl (by kernel_rfl) (by kernel_rfl) (by kernel_rfl) (fun _ _ _ h => h) (Or.inl ⟨by rfl, ?hy78⟩) (by assumption) ?rest78
            case hy78 => intro X hX; (try dsimp only at hX); go_simp <;> with_reducible rfl
            try simp only [List.getElem_toArray, List.getElem_cons_succ, List.getElem_cons_zero, Act.put, List.setIfInBounds_toArray, List.set_cons_zero, List.set_cons_succ]
            refine wpAnyH_take (i := 9) (v := ?v79) rfl (by kernel_rfl) (by kernel_rfl) (by kernel_rfl) (fun _ _ _ h => h) (Or.inl ⟨by rfl, ?hy79⟩) (by assumption) ?rest79
            case hy79 => intro X hX; (try dsimp only at hX); go_simp <;> with_reducible rfl
            try simp only [List.getElem_toArray, List.getElem_cons_succ, List.getElem_cons_zero, Act.put, List.setIfInBounds_toArray, List.set_cons_zero, List.set_cons_succ]
            refine wpAnyH_take (i := 10) (v := ?v80) rfl (by kernel_rfl) (by kernel_rfl) (by kernel_rfl) (fun _ _ _ h => h) (Or.inl ⟨by rfl, ?hy80⟩) (by assumption) ?rest80
            case hy80 => intro X hX; (try dsimp only at hX); go_simp <;> with_reducible rfl
            try simp only [List.getElem_toArray, List.getElem_cons_succ, List.getElem_cons_zero, Act.put, List.setIfInBounds_toArray, List.set_cons_zero, List.set_cons_succ]
            refine wpAnyH_take (i := 11) (v := ?v81) rfl (by kernel_rfl) (by kernel_rfl) (by kernel_rfl) (fun _ _ _ h => h) (Or.inl ⟨by rfl, ?hy81⟩) (by assumption) ?rest81
            case hy81 => intro X hX; (try dsimp only at hX); go_simp <;> with_reducible rfl
            try simp only [List.getElem_toArray, List.getElem_cons_succ, List.getElem_cons_zero, Act.put, List.setIfInBounds_toArray, List.set_cons_zero, List.set_cons_succ]
            refine wpAnyH_take (i := 12) (v := ?v82) rfl (by kernel_rfl) (by kernel_rfl) (by kernel_rfl) (fun _ _ _ h => h) (Or.inl ⟨by rfl, ?hy82⟩) (by assumption) ?rest82
            case hy82 => intro X hX; (try dsimp only at hX); go_simp <;> with_reducible rfl
            try simp only [List.getElem_toArray, List.getElem_cons_succ, List.getElem_cons_zero, Act.put, List.setIfInBounds_toArray, List.set_cons_zero, List.set_cons_succ]
            refine wpAnyH_take (i := 13) (v := ?v83) rfl (by kernel_rfl) (by kernel_rfl) (by kernel_rfl) (fun _ _ _ h => h) (Or.inl ⟨by rfl, ?hy83⟩) (by assumption) ?rest83
            case hy83 => intro X hX; (try dsimp only at hX); obtain ⟨q1, q2, q3⟩ := (BG.out.keep hX).cells; have t1 := (hX.cell (p := ⟨b, off + (k + 1) * 3, none⟩) hbW1).trans E1.out; have t2 := (hX.cell (p := ⟨b, off + (k + 1) * 3 + 1, none⟩) hbW1).trans E2.out; have t3 := (hX.cell (p := ⟨b, off + (k + 1) * 3 + 2, none⟩) hbW1).trans E3.out; have u1 := (hX.cell (p := ⟨b, off + k * 3, none⟩) hbW1).trans D1.out; have u2 := (hX.cell (p := ⟨b, off + k * 3 + 1, none⟩) hbW1).trans D2.out; have u3 := (hX.cell (p := ⟨b, off + k * 3 + 2, none⟩) hbW1).trans D3.out; go_simp <;> with_reducible rfl
            try simp only [List.getElem_toArray, List.getElem_cons_succ, List.getElem_cons_zero, Act.put, List.setIfInBounds_toArray, List.set_cons_zero, List.set_cons_succ]
            refine wpAnyH_take (i := 14) (v := ?v84) rfl (by kernel_rfl) (by kernel_rfl) (by kernel_rfl) (fun _ _ _ h => h) (Or.inl ⟨by rfl, ?hy84⟩) (by assumption) ?rest84
            case hy84 => intro X hX; (try dsimp only at hX); go_simp <;> with_reducible rfl
            try simp only [List.getElem_toArray, List.getElem_cons_succ, List.getElem_cons_zero, Act.put, List.setIfInBounds_toArray, List.set_cons_zero, List.set_cons_succ]
            refine wpAnyH_take (i := 15) (v := ?v85) rfl (by kernel_rfl) (by kernel_rfl) (by kernel_rfl) (fun _ _ _ h => h) (Or.inl ⟨by rfl, ?hy85⟩) (by assumption) ?rest85
            case hy85 => intro X hX; (try dsimp only at hX); go_simp <;> with_reducible rfl
            try simp only [List.getElem_toArray, List.getElem_cons_succ, List.getElem_cons_zero, Act.put, List.setIfInBounds_toArray, List.set_cons_zero, List.set_cons_succ]
            refine wpAnyH_take (i := 16) (v := ?v86) rfl (by kernel_rfl) (by kernel_rfl) (by kernel_rfl) (fun _ _ _ h => h) (Or.inl ⟨by rfl, ?hy86⟩) (by assumption) ?rest86
            case hy86 => intro X hX; (try dsimp only at hX); obtain ⟨q1, q2, q3⟩ := (BG.out.keep hX).cells; have t1 := (hX.cell (p := ⟨b, off + (k + 1) * 3, none⟩) hbW1).trans E1.out; have t2 := (hX.cell (p := ⟨b, off + (k + 1) * 3 + 1, none⟩) hbW1).trans E2.out; have t3 := (hX.cell (p := ⟨b, off + (k + 1) * 3 + 2, none⟩) hbW1).trans E3.out; have u1 := (hX.cell (p := ⟨b, off + k * 3, none⟩) hbW1).trans D1.out; have u2 := (hX.cell (p := ⟨b, off + k * 3 + 1, none⟩) hbW1).trans D2.out; have u3 := (hX.cell (p := ⟨b, off + k * 3 + 2, none⟩) hbW1).trans D3.out; go_simp <;> with_reducible rfl
            try simp only [List.getElem_toArray, List.getElem_cons_succ, List.getElem_cons_zero, Act.put, List.setIfInBounds_toArray, List.set_cons_zero, List.set_cons_succ]
            refine wpAnyH_take (i := 17) (v := ?v87) rfl (by kernel_rfl) (by kernel_rfl) (by kernel_rfl) (fun _ _ _ h => h) (Or.inl ⟨by rfl, ?hy87⟩) (by assumption) ?rest87
            case hy87 => intro X hX; (try dsimp only at hX); obtain ⟨q1, q2, q3⟩ := (BG.out.keep hX).cells; have t1 := (hX.cell (p := ⟨b, off + (k + 1) * 3, none⟩) hbW1).trans E1.out; have t2 := (hX.cell (p := ⟨b, off + (k + 1) * 3 + 1, none⟩) hbW1).trans E2.out; have t3 := (hX.cell (p := ⟨b, off + (k + 1) * 3 + 2, none⟩) hbW1).trans E3.out; have u1 := (hX.cell (p := ⟨b, off + k * 3, none⟩) hbW1).trans D1.out; have u2 := (hX.cell (p := ⟨b, off + k * 3 + 1, none⟩) hbW1).trans D2.out; have u3 := (hX.cell (p := ⟨b, off + k * 3 + 2, none⟩) hbW1).trans D3.out; go_simp <;> with_reducible rfl
            try simp only [List.getElem_toArray, List.getElem_cons_succ, List.getElem_cons_zero, Act.put, List.setIfInBounds_toArray, List.set_cons_zero, List.set_cons_succ]
            refine wpAnyH_take (i := 18) (v := ?v88) rfl (by kernel_rfl) (by kernel_rfl) (by kernel_rfl) (fun _ _ _ h => h) (Or.inl ⟨by rfl, ?hy88⟩) (by assumption) ?rest88
            case hy88 => intro X hX; (try dsimp only at hX); go_simp <;> with_reducible rfl
            try simp only [List.getElem_toArray, List.getElem_cons_succ, List.getElem_cons_zero, Act.put, List.setIfInBounds_toArray, List.set_cons_zero, List.set_cons_succ]
            refine wpAnyH_take (i := 19) (v := ?v89) rfl (by kernel_rfl) (by kernel_rfl) (by kernel_rfl) (fun _ _ _ h => h) (Or.inl ⟨by rfl, ?hy89⟩) (by assumption) ?rest89
            case hy89 => intro X hX; (try dsimp only at hX); obtain ⟨q1, q2, q3⟩ := (BG.out.keep hX).cells; have t1 := (hX.cell (p := ⟨b, off + (k + 1) * 3, none⟩) hbW1).trans E1.out; have t2 := (hX.cell (p := ⟨b, off + (k + 1) * 3 + 1, none⟩) hbW1).trans E2.out; have t3 := (hX.cell (p := ⟨b, off + (k + 1) * 3 + 2, none⟩) hbW1).trans E3.out; have u1 := (hX.cell (p := ⟨b, off + k * 3, none⟩) hbW1).trans D1.out; have u2 := (hX.cell (p := ⟨b, off + k * 3 + 1, none⟩) hbW1).trans D2.out; have u3 := (hX.cell (p := ⟨b, off + k * 3 + 2, none⟩) hbW1).trans D3.out; go_simp <;> with_reducible rfl
            try simp only [List.getElem_toArray, List.getElem_cons_succ, List.getElem_cons_zero, Act.put, List.setIfInBounds_toArray, List.set_cons_zero, List.set_cons_succ]
            refine wpAnyH_take (i := 20) (v := ?v90) rfl (by kernel_rfl) (by kernel_rfl) (by kernel_rfl) (fun _ _ _ h => h) (Or.inl ⟨by rfl, ?hy90⟩) (by assumption) ?rest90
            case hy90 => intro X hX; (try dsimp only at hX); go_simp <;> with_reducible rfl
            try simp only [List.getElem_toArray, List.getElem_cons_succ, List.getElem_cons_zero, Act.put, List.setIfInBounds_toArray, List.set_cons_zero, List.set_cons_succ]
            refine wpAnyH_take (i := 21) (v := ?v91) rfl (by kernel_rfl) (by kernel_rfl) (by kernel_rfl) (fun _ _ _ h => h) (Or.inl ⟨by rfl, ?hy91⟩) (by assumption) ?rest91
            case hy91 => intro X hX; (try dsimp only at hX); obtain ⟨q1, q2, q3⟩ := (BG.out.keep hX).cells; have t1 := (hX.cell (p := ⟨b, off + (k + 1) * 3, none⟩) hbW1).trans E1.out; have t2 := (hX.cell (p := ⟨b, off + (k + 1) * 3 + 1, none⟩) hbW1).trans E2.out; have t3 := (hX.cell (p := ⟨b, off + (k + 1) * 3 + 2, none⟩) hbW1).trans E3.out; have u1 := (hX.cell (p := ⟨b, off + k * 3, none⟩) hbW1).trans D1.out; have u2 := (hX.cell (p := ⟨b, off + k * 3 + 1, none⟩) hbW1).trans D2.out; have u3 := (hX.cell (p := ⟨b, off + k * 3 + 2, none⟩) hbW1).trans D3.out; go_simp <;> with_reducible rfl
            try simp only [List.getElem_toArray, List.getElem_cons_succ, List.getElem_cons_zero, Act.put, List.setIfInBounds_toArray, List.set_cons_zero, List.set_cons_succ]
            refine wpAnyH_take (i := 22) (v := ?v92) rfl (by kernel_rfl) (by kernel_rfl) (by kernel_rfl) (fun _ _ _ h => h) (Or.inl ⟨by rfl, ?hy92⟩) (by assumption) ?rest92
            case hy92 => intro X hX; (try dsimp only at hX); obtain ⟨q1, q2, q3⟩ := (BG.out.keep hX).cells; have t1 := (hX.cell (p := ⟨b, off + (k + 1) * 3, none⟩) hbW1).trans E1.out; have t2 := (hX.cell (p := ⟨b, off + (k + 1) * 3 + 1, none⟩) hbW1).trans E2.out; have t3 := (hX.cell (p := ⟨b, off + (k + 1) * 3 + 2, none⟩) hbW1).trans E3.out; have u1 := (hX.cell (p := ⟨b, off + k * 3, none⟩) hbW1).trans D1.out; have u2 := (hX.cell (p := ⟨b, off + k * 3 + 1, none⟩) hbW1).trans D2.out; have u3 := (hX.cell (p := ⟨b, off + k * 3 + 2, none⟩) hbW1).trans D3.out; go_simp <;> with_reducible rfl
            try simp only [List.getElem_toArray, List.getElem_cons_succ, List.getElem_cons_zero, Act.put, List.setIfInBounds_toArray, List.set_cons_zero, List.set_cons_succ]
            refine wpAnyH_ready (rs := [23]) (by kernel_rfl) (by simp) ?_
            refine AllReadyH.cons rfl (fun K hK => ?_) AllReadyH.nil
            go_simp
            go_at_call 33
            refine (HC.out _).mono ?_
            rintro e w3 ⟨rfl, hb3⟩
            (try go_simp)
            refine hK.out _ _ (hHeld.trans (hb3.mono hHeld.size)) (fun hHeld2 => ?_)
            replace hHeld := hHeld2
            clear hHeld2
            clear hK K
            try simp only [List.getElem_toArray, List.getElem_cons_succ, List.getElem_cons_zero, Act.put, List.setIfInBounds_toArray, List.set_cons_zero, List.set_cons_succ]
            refine wpAnyH_take (i := 24) (v := ?v93) rfl (by kernel_rfl) (by kernel_rfl) (by kernel_rfl) (fun _ _ _ h => h) (Or.inl ⟨by rfl, ?hy93⟩) (by assumption) ?rest93
            case hy93 => intro X hX; (try dsimp only at hX); go_simp <;> with_reducible rfl
            try simp only [List.getElem_toArray, List.getElem_cons_succ, List.getElem_cons_zero, Act.put, List.setIfInBounds_toArray, List.set_cons_zero, List.set_cons_succ]
            refine wpAnyH_take (i := 25) (v := ?v94) rfl (by kernel_rfl) (by kernel_rfl) (by kernel_rfl) (fun _ _ _ h => h) (Or.inl ⟨by rfl, ?hy94⟩) (by assumption) ?rest94
            case hy94 => intro X hX; (try dsimp only at hX); go_simp <;> with_reducible rfl
            try simp only [List.getElem_toArray, List.getElem_cons_succ, List.getElem_cons_zero, Act.put, List.setIfInBounds_toArray, List.set_cons_zero, List.set_cons_succ]
            refine wpAnyH_take (i := 26) (v := ?v95) rfl (by kernel_rfl) (by kernel_rfl) (by kernel_rfl) (fun _ _ _ h => h) (Or.inl ⟨by rfl, ?hy95⟩) (by assumption) ?rest95
            case hy95 => intro X hX; (try dsimp only at hX); go_simp <;> with_reducible rfl
            try simp only [List.getElem_toArray, List.getElem_cons_succ, List.getElem_cons_zero, Act.put, List.setIfInBounds_toArray, List.set_cons_zero, List.set_cons_succ]
            refine wpAnyH_done (by kernel_rfl) ?_ _
            go_wp2
            go_roundw
            case rel => exact ⟨k + 1 + 1, by omega, by go_num, hst, hbel.trans (hHeld.mono hbel.size)⟩
            case measure => simp [intOf]; omega
          · have hst : Kept (edgesOk r n l = false) := ⟨edgesOk_at hlt (by rw [hC1.out]; exact decide_eq_false hneg)⟩
            have hneg2 : 0 ≤ c := by omega
            clear hneg
            go_wp2
            refine wp_region_held_drew (S := fun X => Below wr.heap.size wr X) (by kernel_rfl) ((Below.refl wr.heap.size wr).drew) (fun hHeld => ?_)
            refine wpAnyH_take (i := 0) (v := ?v96) rfl (by kernel_rfl) (by kernel_rfl) (by kernel_rfl) (fun _ _ _ h => h) (Or.inl ⟨by rfl, ?hy96⟩) (by assumption) ?rest96
            case hy96 => intro X hX; (try dsimp only at hX); obtain ⟨q1, q2, q3⟩ := (BG.out.keep hX).cells; have t1 := (hX.cell (p := ⟨b, off + (k + 1) * 3, none⟩) hbW1).trans E1.out; have t2 := (hX.cell (p := ⟨b, off + (k + 1) * 3 + 1, none⟩) hbW1).trans E2.out; have t3 := (hX.cell (p := ⟨b, off + (k + 1) * 3 + 2, none⟩) hbW1).trans E3.out; have u1 := (hX.cell (p := ⟨b, off + k * 3, none⟩) hbW1).trans D1.out; have u2 := (hX.cell (p := ⟨b, off + k * 3 + 1, none⟩) hbW1).trans D2.out; have u3 := (hX.cell (p := ⟨b, off + k * 3 + 2, none⟩) hbW1).trans D3.out; go_simp <;> with_reducible rfl
            try simp only [List.getElem_toArray, List.getElem_cons_zero, Act.put, List.setIfInBounds_toArray, List.set_cons_zero, List.set_cons_succ]
            refine wpAnyH_take (i := 1) (v := ?v97) rfl (by kernel_rfl) (by kernel_rfl) (by kernel_rfl) (fun _ _ _ h => h) (Or.inl ⟨by rfl, ?hy97⟩) (by assumption) ?rest97
            case hy97 => intro X hX; (try dsimp only at hX); go_simp <;> with_reducible rfl
            try simp only [List.getElem_toArray, List.getElem_cons_succ, List.getElem_cons_zero, Act.put, List.setIfInBounds_toArray, List.set_cons_zero, List.set_cons_succ]
            refine wpAnyH_take (i := 2) (v := ?v98) rfl (by kernel_rfl) (by kernel_rfl) (by kernel_rfl) (fun _ _ _ h => h) (Or.inl ⟨by rfl, ?hy98⟩) (by assumption) ?rest98
            case hy98 => intro X hX; (try dsimp only at hX); obtain ⟨q1, q2, q3⟩ := (BG.out.keep hX).cells; have t1 := (hX.cell (p := ⟨b, off + (k + 1) * 3, none⟩) hbW1).trans E1.out; have t2 := (hX.cell (p := ⟨b, off + (k + 1) * 3 + 1, none⟩) hbW1).trans E2.out; have t3 := (hX.cell (p := ⟨b, off + (k + 1) * 3 + 2, none⟩) hbW1).trans E3.out; have u1 := (hX.cell (p := ⟨b, off + k * 3, none⟩) hbW1).trans D1.out; have u2 := (hX.cell (p := ⟨b, off + k * 3 + 1, none⟩) hbW1).trans D2.out; have u3 := (hX.cell (p := ⟨b, off + k * 3 + 2, none⟩) hbW1).trans D3.out; go_simp <;> with_reducible rfl
            try simp only [List.getElem_toArray, List.getElem_cons_succ, List.getElem_cons_zero, Act.put, List.setIfInBounds_toArray, List.set_cons_zero, List.set_cons_succ]
            refine wpAnyH_take (i := 3) (v := ?v99) rfl (by kernel_rfl) (by kernel_rfl) (by kernel_rfl) (fun _ _ _ h => h) (Or.inl ⟨by rfl, ?hy99⟩) (by assumption) ?rest99
            case hy99 => intro X hX; (try dsimp only at hX); go_simp <;> with_reducible rfl
            try simp only [List.getElem_toArray, List.getElem_cons_succ, List.getElem_cons_zero, Act.put, List.setIfInBounds_toArray, List.set_cons_zero, List.set_cons_succ]
            refine wpAnyH_take (i := 4) (v := ?v100) rfl (by kernel_rfl) (by kernel_rfl) (by kernel_rfl) (fun _ _ _ h => h) (Or.inl ⟨by rfl, ?hy100⟩) (by assumption) ?rest100
            case hy100 => intro X hX; (try dsimp only at hX); obtain ⟨q1, q2, q3⟩ := (BG.out.keep hX).cells; have t1 := (hX.cell (p := ⟨b, off + (k + 1) * 3, none⟩) hbW1).trans E1.out; have t2 := (hX.cell (p := ⟨b, off + (k + 1) * 3 + 1, none⟩) hbW1).trans E2.out; have t3 := (hX.cell (p := ⟨b, off + (k + 1) * 3 + 2, none⟩) hbW1).trans E3.out; have u1 := (hX.cell (p := ⟨b, off + k * 3, none⟩) hbW1).trans D1.out; have u2 := (hX.cell (p := ⟨b, off + k * 3 + 1, none⟩) hbW1).trans D2.out; have u3 := (hX.cell (p := ⟨b, off + k * 3 + 2, none⟩) hbW1).trans D3.out; go_simp <;> with_reducible rfl
            try simp only [List.getElem_toArray, List.getElem_cons_succ, List.getElem_cons_zero, Act.put, List.setIfInBounds_toArray, List.set_cons_zero, List.set_cons_succ]
            refine wpAnyH_take (i := 5) (v := ?v101) rfl (by kernel_rfl) (by kernel_rfl) (by kernel_rfl) (fun _ _ _ h => h) (Or.inl ⟨by rfl, ?hy101⟩) (by assumption) ?rest101
            case hy101 => intro X hX; (try dsimp only at hX); obtain ⟨q1, q2, q3⟩ := (BG.out.keep hX).cells; have t1 := (hX.cell (p := ⟨b, off + (k + 1) * 3, none⟩) hbW1).trans E1.out; have t2 := (hX.cell (p := ⟨b, off + (k + 1) * 3 + 1, none⟩) hbW1).trans E2.out; have t3 := (hX.cell (p := ⟨b, off + (k + 1) * 3 + 2, none⟩) hbW1).trans E3.out; have u1 := (hX.cell (p := ⟨b, off + k * 3, none⟩) hbW1).trans D1.out; have u2 := (hX.cell (p := ⟨b, off + k * 3 + 1, none⟩) hbW1).trans D2.out; have u3 := (hX.cell (p := ⟨b, off + k * 3 + 2, none⟩) hbW1).trans D3.out; go_simp <;> with_reducible rfl
            try simp only [List.getElem_toArray, List.getElem_cons_succ, List.getElem_cons_zero, Act.put, List.setIfInBounds_toArray, List.set_cons_zero, List.set_cons_succ]
            refine wpAnyH_ready (rs := [6]) (by kernel_rfl) (by simp) ?_
            refine AllReadyH.cons rfl (fun K hK => ?_) AllReadyH.nil
            go_simp
            go_at_call 43
            refine (HA.out _).mono ?_
            rintro e w2 ⟨rfl, hb2⟩
            (try go_simp)
            refine hK.out _ _ (hHeld.trans (hb2.mono hHeld.size)) (fun hHeld2 => ?_)
            replace hHeld := hHeld2
            clear hHeld2
            clear hK K
            try simp only [List.getElem_toArray, List.getElem_cons_succ, List.getElem_cons_zero, Act.put, List.setIfInBounds_toArray, List.set_cons_zero, List.set_cons_succ]
            refine wpAnyH_take (i := 7) (v := ?v102) rfl (by kernel_rfl) (by kernel_rfl) (by kernel_rfl) (fun _ _ _ h => h) (Or.inl ⟨by rfl, ?hy102⟩) (by assumption) ?rest102
            case hy102 => intro X hX; (try dsimp only at hX); go_simp <;> with_reducible rfl
            try simp only [List.getElem_toArray, List.getElem_cons_succ, List.getElem_cons_zero, Act.put, List.setIfInBounds_toArray, List.set_cons_zero, List.set_cons_succ]
            refine wpAnyH_take (i := 8) (v := ?v103) rfl (by kernel_rfl) (by kernel_rfl) (by kernel_rfl) (fun _ _ _ h => h) (Or.inl ⟨by rfl, ?hy103⟩) (by assumption) ?rest103
            case hy103 => intro X hX; (try dsimp only at hX); go_simp <;> with_reducible rfl
            try simp only [List.getElem_toArray, List.getElem_cons_succ, List.getElem_cons_zero, Act.put, List.setIfInBounds_toArray, List.set_cons_zero, List.set_cons_succ]
            refine wpAnyH_take (i := 9) (v := ?v104) rfl (by kernel_rfl) (by kernel_rfl) (by kernel_rfl) (fun _ _ _ h => h) (Or.inl ⟨by rfl, ?hy104⟩) (by assumption) ?rest104
            case hy104 => intro X hX; (try dsimp only at hX); go_simp <;> with_reducible rfl
            try simp only [List.getElem_toArray, List.getElem_cons_succ, List.getElem_cons_zero, Act.put, List.setIfInBounds_toArray, List.set_cons_zero, List.set_cons_succ]
            refine wpAnyH_take (i := 10) (v := ?v105) rfl (by kernel_rfl) (by kernel_rfl) (by kernel_rfl) (fun _ _ _ h => h) (Or.inl ⟨by rfl, ?hy105⟩) (by assumption) ?rest105
            case hy105 => intro X hX; (try dsimp only at hX); go_simp <;> with_reducible rfl
            try simp only [List.getElem_toArray, List.getElem_cons_succ, List.getElem_cons_zero, Act.put, List.setIfInBounds_toArray, List.set_cons_zero, List.set_cons_succ]
            refine wpAnyH_take (i := 11) (v := ?v106) rfl (by kernel_rfl) (by kernel_rfl) (by kernel_rfl) (fun _ _ _ h => h) (Or.inl ⟨by rfl, ?hy106⟩) (by assumption) ?rest106
            case hy106 => intro X hX; (try dsimp only at hX); go_simp <;> with_reducible rfl
            try simp only [List.getElem_toArray, List.getElem_cons_succ, List.getElem_cons_zero, Act.put, List.setIfInBounds_toArray, List.set_cons_zero, List.set_cons_succ]
            refine wpAnyH_take (i := 12) (v := ?v107) rfl (by kernel_rfl) (by kernel_rfl) (by kernel_rfl) (fun _ _ _ h => h) (Or.inl ⟨by rfl, ?hy107⟩) (by assumption) ?rest107
            case hy107 => intro X hX; (try dsimp only at hX); go_simp <;> with_reducible rfl
            try simp only [List.getElem_toArray, List.getElem_cons_succ, List.getElem_cons_zero, Act.put, List.setIfInBounds_toArray, List.set_cons_zero, List.set_cons_succ]
            refine wpAnyH_take (i := 13) (v := ?v108) rfl (by kernel_rfl) (by kernel_rfl) (by kernel_rfl) (fun _ _ _ h => h) (Or.inl ⟨by rfl, ?hy108⟩) (by assumption) ?rest108
            case hy108 => intro X hX; (try dsimp only at hX); obtain ⟨q1, q2, q3⟩ := (BG.out.keep hX).cells; have t1 := (hX.cell (p := ⟨b, off + (k + 1) * 3, none⟩) hbW1).trans E1.out; have t2 := (hX.cell (p := ⟨b, off + (k + 1) * 3 + 1, none⟩) hbW1).trans E2.out; have t3 := (hX.cell (p := ⟨b, off + (k + 1) * 3 + 2, none⟩) hbW1).trans E3.out; have u1 := (hX.cell (p := ⟨b, off + k * 3, none⟩) hbW1).trans D1.out; have u2 := (hX.cell (p := ⟨b, off + k * 3 + 1, none⟩) hbW1).trans D2.out; have u3 := (hX.cell (p := ⟨b, off + k * 3 + 2, none⟩) hbW1).trans D3.out; go_simp <;> with_reducible rfl
            try simp only [List.getElem_toArray, List.getElem_cons_succ, List.getElem_cons_zero, Act.put, List.setIfInBounds_toArray, List.set_cons_zero, List.set_cons_succ]
            refine wpAnyH_take (i := 14) (v := ?v109) rfl (by kernel_rfl) (by kernel_rfl) (by kernel_rfl) (fun _ _ _ h => h) (Or.inl ⟨by rfl, ?hy109⟩) (by assumption) ?rest109
            case hy109 => intro X hX; (try dsimp only at hX); go_simp <;> with_reducible rfl
            try simp only [List.getElem_toArray, List.getElem_cons_succ, List.getElem_cons_zero, Act.put, List.setIfInBounds_toArray, List.set_cons_zero, List.set_cons_succ]
            refine wpAnyH_take (i := 15) (v := ?v110) rfl (by kernel_rfl) (by kernel_rfl) (by kernel_rfl) (fun _ _ _ h => h) (Or.inl ⟨by rfl, ?hy110⟩) (by assumption) ?rest110
            case hy110 => intro X hX; (try dsimp only at hX); go_simp <;> with_reducible rfl
            try simp only [List.getElem_toArray, List.getElem_cons_succ, List.getElem_cons_zero, Act.put, List.setIfInBounds_toArray, List.set_cons_zero, List.set_cons_succ]
            refine wpAnyH_take (i := 16) (v := ?v111) rfl (by kernel_rfl) (by kernel_rfl) (by kernel_rfl) (fun _ _ _ h => h) (Or.inl ⟨by rfl, ?hy111⟩) (by assumption) ?rest111
            case hy111 => intro X hX; (try dsimp only at hX); obtain ⟨q1, q2, q3⟩ := (BG.out.keep hX).cells; have t1 := (hX.cell (p := ⟨b, off + (k + 1) * 3, none⟩) hbW1).trans E1.out; have t2 := (hX.cell (p := ⟨b, off + (k + 1) * 3 + 1, none⟩) hbW1).trans E2.out; have t3 := (hX.cell (p := ⟨b, off + (k + 1) * 3 + 2, none⟩) hbW1).trans E3.out; have u1 := (hX.cell (p := ⟨b, off + k * 3, none⟩) hbW1).trans D1.out; have u2 := (hX.cell (p := ⟨b, off + k * 3 + 1, none⟩) hbW1).trans D2.out; have u3 := (hX.cell (p := ⟨b, off + k * 3 + 2, none⟩) hbW1).trans D3.out; go_simp <;> with_reducible rfl
            try simp only [List.getElem_toArray, List.getElem_cons_succ, List.getElem_cons_zero, Act.put, List.setIfInBounds_toArray, List.set_cons_zero, List.set_cons_succ]
            refine wpAnyH_take (i := 17) (v := ?v112) rfl (by kernel_rfl) (by kernel_rfl) (by kernel_rfl) (fun _ _ _ h => h) (Or.inl ⟨by rfl, ?hy112⟩) (by assumption) ?rest112
            case hy112 => intro X hX; (try dsimp only at hX); obtain ⟨q1, q2, q3⟩ := (BG.out.keep hX).cells; have t1 := (hX.cell (p := ⟨b, off + (k + 1) * 3, none⟩) hbW1).trans E1.out; have t2 := (hX.cell (p := ⟨b, off + (k + 1) * 3 + 1, none⟩) hbW1).trans E2.out; have t3 := (hX.cell (p := ⟨b, off + (k + 1) * 3 + 2, none⟩) hbW1).trans E3.out; have u1 := (hX.cell (p := ⟨b, off + k * 3, none⟩) hbW1).trans D1.out; have u2 := (hX.cell (p := ⟨b, off + k * 3 + 1, none⟩) hbW1).trans D2.out; have u3 := (hX.cell (p := ⟨b, off + k * 3 + 2, none⟩) hbW1).trans D3.out; go_simp <;> with_reducible rfl
            try simp only [List.getElem_toArray, List.getElem_cons_succ, List.getElem_cons_zero, Act.put, List.setIfInBounds_toArray, List.set_cons_zero, List.set_cons_succ]
            refine wpAnyH_take (i := 18) (v := ?v113) rfl (by kernel_rfl) (by kernel_rfl) (by kernel_rfl) (fun _ _ _ h => h) (Or.inl ⟨by rfl, ?hy113⟩) (by assumption) ?rest113
            case hy113 => intro X hX; (try dsimp only at hX); go_simp <;> with_reducible rfl
            try simp only [List.getElem_toArray, List.getElem_cons_succ, List.getElem_cons_zero, Act.put, List.setIfInBounds_toArray, List.set_cons_zero, List.set_cons_succ]
            refine wpAnyH_take (i := 19) (v := ?v114) rfl (by kernel_rfl) (by kernel_rfl) (by kernel_rfl) (fun _ _ _ h => h) (Or.inl ⟨by rfl, ?hy114⟩) (by assumption) ?rest114
            case hy114 => intro X hX; (try dsimp only at hX); obtain ⟨q1, q2, q3⟩ := (BG.out.keep hX).cells; have t1 := (hX.cell (p := ⟨b, off + (k + 1) * 3, none⟩) hbW1).trans E1.out; have t2 := (hX.cell (p := ⟨b, off + (k + 1) * 3 + 1, none⟩) hbW1).trans E2.out; have t3 := (hX.cell (p := ⟨b, off + (k + 1) * 3 + 2, none⟩) hbW1).trans E3.out; have u1 := (hX.cell (p := ⟨b, off + k * 3, none⟩) hbW1).trans D1.out; have u2 := (hX.cell (p := ⟨b, off + k * 3 + 1, none⟩) hbW1).trans D2.out; have u3 := (hX.cell (p := ⟨b, off + k * 3 + 2, none⟩) hbW1).trans D3.out; go_simp <;> with_reducible rfl
            try simp only [List.getElem_toArray, List.getElem_cons_succ, List.getElem_cons_zero, Act.put, List.setIfInBounds_toArray, List.set_cons_zero, List.set_cons_succ]
            refine wpAnyH_take (i := 20) (v := ?v115) rfl (by kernel_rfl) (by kernel_rfl) (by kernel_rfl) (fun _ _ _ h => h) (Or.inl ⟨by rfl, ?hy115⟩) (by assumption) ?rest115
            case hy115 => intro X hX; (try dsimp only at hX); go_simp <;> with_reducible rfl
            try simp only [List.getElem_toArray, List.getElem_cons_succ, List.getElem_cons_zero, Act.put, List.setIfInBounds_toArray, List.set_cons_zero, List.set_cons_succ]
            refine wpAnyH_take (i := 21) (v := ?v116) rfl (by kernel_rfl) (by kernel_rfl) (by kernel_rfl) (fun _ _ _ h => h) (Or.inl ⟨by rfl, ?hy116⟩) (by assumption) ?rest116
            case hy116 => intro X hX; (try dsimp only at hX); obtain ⟨q1, q2, q3⟩ := (BG.out.keep hX).cells; have t1 := (hX.cell (p := ⟨b, off + (k + 1) * 3, none⟩) hbW1).trans E1.out; have t2 := (hX.cell (p := ⟨b, off + (k + 1) * 3 + 1, none⟩) hbW1).trans E2.out; have t3 := (hX.cell (p := ⟨b, off + (k + 1) * 3 + 2, none⟩) hbW1).trans E3.out; have u1 := (hX.cell (p := ⟨b, off + k * 3, none⟩) hbW1).trans D1.out; have u2 := (hX.cell (p := ⟨b, off + k * 3 + 1, none⟩) hbW1).trans D2.out; have u3 := (hX.cell (p := ⟨b, off + k * 3 + 2, none⟩) hbW1).trans D3.out; go_simp <;> with_reducible rfl
            try simp only [List.getElem_toArray, List.getElem_cons_succ, List.getElem_cons_zero, Act.put, List.setIfInBounds_toArray, List.set_cons_zero, List.set_cons_succ]
            refine wpAnyH_take (i := 22) (v := ?v117) rfl (by kernel_rfl) (by kernel_rfl) (by kernel_rfl) (fun _ _ _ h => h) (Or.inl ⟨by rfl, ?hy117⟩) (by assumption) ?rest117
            case hy117 => intro X hX; (try dsimp only at hX); obtain ⟨q1, q2, q3⟩ := (BG.out.keep hX).cells; have t1 := (hX.cell (p := ⟨b, off + (k + 1) * 3, none⟩) hbW1).trans E1.out; have t2 := (hX.cell (p := ⟨b, off + (k + 1) * 3 + 1, none⟩) hbW1).trans E2.out; have t3 := (hX.cell (p := ⟨b, off + (k + 1) * 3 + 2, none⟩) hbW1).trans E3.out; have u1 := (hX.cell (p := ⟨b, off + k * 3, none⟩) hbW1).trans D1.out; have u2 := (hX.cell (p := ⟨b, off + k * 3 + 1, none⟩) hbW1).trans D2.out; have u3 := (hX.cell (p := ⟨b, off + k * 3 + 2, none⟩) hbW1).trans D3.out; go_simp <;> with_reducible rfl
            try simp only [List.getElem_toArray, List.getElem_cons_succ, List.getElem_cons_zero, Act.put, List.setIfInBounds_toArray, List.set_cons_zero, List.set_cons_succ]
            refine wpAnyH_ready (rs := [23]) (by kernel_rfl) (by simp) ?_
            refine AllReadyH.cons rfl (fun K hK => ?_) AllReadyH.nil
            go_simp
            go_at_call 33
            refine (HC.out _).mono ?_
            rintro e w3 ⟨rfl, hb3⟩
            (try go_simp)
            refine hK.out _ _ (hHeld.trans (hb3.mono hHeld.size)) (fun hHeld2 => ?_)
            replace hHeld := hHeld2
            clear hHeld2
            clear hK K
            try simp only [List.getElem_toArray, List.getElem_cons_succ, List.getElem_cons_zero, Act.put, List.setIfInBounds_toArray, List.set_cons_zero, List.set_cons_succ]
            refine wpAnyH_take (i := 24) (v := ?v118) rfl (by kernel_rfl) (by kernel_rfl) (by kernel_rfl) (fun _ _ _ h => h) (Or.inl ⟨by rfl, ?hy118⟩) (by assumption) ?rest118
            case hy118 => intro X hX; (try dsimp only at hX); go_simp <;> with_reducible rfl
            try simp only [List.getElem_toArray, List.getElem_cons_succ, List.getElem_cons_zero, Act.put, List.setIfInBounds_toArray, List.set_cons_zero, List.set_cons_succ]
            refine wpAnyH_take (i := 25) (v := ?v119) rfl (by kernel_rfl) (by kernel_rfl) (by kernel_rfl) (fun _ _ _ h => h) (Or.inl ⟨by rfl, ?hy119⟩) (by assumption) ?rest119
            case hy119 => intro X hX; (try dsimp only at hX); go_simp <;> with_reducible rfl
            try simp only [List.getElem_toArray, List.getElem_cons_succ, List.getElem_cons_zero, Act.put, List.setIfInBounds_toArray, List.set_cons_zero, List.set_cons_succ]
            refine wpAnyH_take (i := 26) (v := ?v120) rfl (by kernel_rfl) (by kernel_rfl) (by kernel_rfl) (fun _ _ _ h => h) (Or.inl ⟨by rfl, ?hy120⟩) (by assumption) ?rest120
            case hy120 => intro X hX; (try dsimp only at hX); go_simp <;> with_reducible rfl
            try simp only [List.getElem_toArray, List.getElem_cons_succ, List.getElem_cons_zero, Act.put, List.setIfInBounds_toArray, List.set_cons_zero, List.set_cons_succ]
            refine wpAnyH_done (by kernel_rfl) ?_ _
            go_wp2
            go_ret
            rw [isG_bad hst.out]
            exact ⟨rfl, hBw.trans (hHeld.mono hBw.size)⟩
    · obtain rfl : k = l.length := by omega
      have hst : Kept (edgesOk r n l = true) := ⟨edgesOk_all hall.out⟩
      by_cases h1 : 1 ≤ r ∧ r ≤ 3
      case neg =>
        have hr2 : r < 1 ∨ 3 < r := by omega
        have hz : Kept (isG r n l = false) := ⟨isG_r h1⟩
        clear h1
        go_wp2_with fail
        refine (l1In_no hr2 _).mono ?_
        rintro e w' ⟨rfl, rfl⟩
        go_wp2
        go_ret
        rw [hz.out]
        exact ⟨rfl, hBw⟩
      have HR := Lib.hid h1
      clear h1
      by_cases h2 : 1 ≤ n ∧ n ≤ 40
      case neg =>
        have hn2 : n < 1 ∨ 40 < n := by omega
        have hz : Kept (isG r n l = false) := ⟨isG_n h2⟩
        clear h2
        go_wp2_with fail
        refine (l1In_yes HR.out.1 HR.out.2 _).mono ?_
        rintro e w' ⟨rfl, rfl⟩
        go_wp2_with fail
        refine (l1In_no hn2 _).mono ?_
        rintro e w' ⟨rfl, rfl⟩
        go_wp2
        go_ret
        rw [hz.out]
        exact ⟨rfl, hBw⟩
      have HN := Lib.hid h2
      clear h2
      by_cases h3 : l.length ≤ 120
      · have h4 : (l.length : Int) ≤ 120 := by omega
        have hz : Kept (isG r n l = true) := ⟨by rw [isG_ok HR.out HN.out h3, hst.out]⟩
        go_wp2_with fail
        refine (l1In_yes HR.out.1 HR.out.2 _).mono ?_
        rintro e w' ⟨rfl, rfl⟩
        go_wp2_with fail
        refine (l1In_yes HN.out.1 HN.out.2 _).mono ?_
        rintro e w' ⟨rfl, rfl⟩
        go_wp2
        go_ret
        rw [hz.out]
        exact ⟨rfl, hBw⟩
      · have h4 : decide (((l.length : Nat) : Int) ≤ 120) = false := decide_eq_false (by omega)
        have hz : Kept (isG r n l = false) := ⟨isG_l h3⟩
        go_wp2_with fail
        refine (l1In_yes HR.out.1 HR.out.2 _).mono ?_
        rintro e w' ⟨rfl, rfl⟩
        go_wp2_with fail
        refine (l1In_yes HN.out.1 HN.out.2 _).mono ?_
        rintro e w' ⟨rfl, rfl⟩
        go_wp2
        go_ret
        rw [hz.out]
        exact ⟨rfl, hBw⟩
end Go.Proofs.YtpebiacdkfpnpaaGreat
