/- Contracts of PowerWord. Conditions: words of at most 2^20 letters. -/
import Derived.Test.YtbghnllflfcfhaaWordC
import Derived.Test.YtbghnllflfcfhaaWithin
namespace Go.Proofs.Ytbghnllflfcfhaa
open Go.RowKit

theorem elemII : Elem Try.prog 55 22 (.slice none 0 0) 1 24 := ⟨Try.underlying55, by kernel_rfl, rfl, by decide, by decide⟩
/-- The power of a word; the empty word beyond 24. -/
def powW (l : List Int) (k : Int) : List Int := match decide (-24 ≤ k ∧ k ≤ 24), decide (k < 0) with
  | true, true => red (List.replicate k.natAbs (invW l)).flatten
  | true, false => red (List.replicate k.natAbs l).flatten
  | false, _ => []
theorem powW_out {l : List Int} {k : Int} (h : k < -24 ∨ 24 < k) : powW l k = [] := by
  have : decide (-24 ≤ k ∧ k ≤ 24) = false := by simp; omega
  simp [powW, this]
theorem powW_nat {l : List Int} {n : Nat} (h : n ≤ 24) : powW l n = red (List.replicate n l).flatten := by
  have h1 : decide (-24 ≤ (n : Int) ∧ (n : Int) ≤ 24) = true := by simp; omega
  have h2 : decide ((n : Int) < 0) = false := by simp
  simp only [powW, h1, h2, Int.natAbs_natCast]
theorem powW_neg {l : List Int} {n : Nat} (h : n ≤ 24) (h0 : 0 < n) : powW l (-(n : Int)) = red (List.replicate n (invW l)).flatten := by
  have h1 : decide (-24 ≤ -(n : Int) ∧ -(n : Int) ≤ 24) = true := by simp; omega
  have h2 : decide (-(n : Int) < 0) = true := by simp; omega
  simp only [powW, h1, h2, Int.natAbs_neg, Int.natAbs_natCast]
theorem powW_i64 {l : List Int} (k : Int) (h : ∀ x ∈ l, I64 x) : ∀ x ∈ powW l k, I64 x := by
  intro x hx
  unfold powW at hx
  split at hx
  · have := red_mem hx
    simp only [List.mem_flatten, List.mem_replicate] at this
    obtain ⟨m, ⟨_, hm⟩, hy⟩ := this
    rw [hm] at hy
    exact invW_i64 h x hy
  · have := red_mem hx
    simp only [List.mem_flatten, List.mem_replicate] at this
    obtain ⟨m, ⟨_, hm⟩, hy⟩ := this
    rw [hm] at hy
    exact h x hy
  · cases hx
theorem rep_length (n : Nat) (l : List Int) : (List.replicate n l).flatten.length = n * l.length := by
  induction n with
  | zero => simp
  | succ n ih => rw [List.replicate_succ, List.flatten_cons, List.length_append, ih, Nat.succ_mul]; omega
theorem powW_length (l : List Int) (k : Int) : (powW l k).length ≤ 24 * l.length := by
  unfold powW
  split
  · rename_i h _
    have h1 := red_length (List.replicate k.natAbs (invW l)).flatten
    rw [rep_length, invW_length] at h1
    have h2 : k.natAbs ≤ 24 := by simp at h; omega
    exact Nat.le_trans h1 (Nat.mul_le_mul_right _ h2)
  · rename_i h _
    have h1 := red_length (List.replicate k.natAbs l).flatten
    rw [rep_length] at h1
    have h2 : k.natAbs ≤ 24 := by simp at h; omega
    exact Nat.le_trans h1 (Nat.mul_le_mul_right _ h2)
  · simp
theorem rows2_rep {w : World} {B g n cap : Nat} {v : Value} {l : List Int} (ho : w.ownsRow B 22 1 (.slice (some ⟨g, 0, none⟩) n cap) n (List.replicate n v)) (h : Ints w v l) :
    Rows2 w (.slice (some ⟨g, 0, none⟩) n cap) (List.replicate n l) := by
  have hp := ownsRow_parts ho
  refine ⟨g, 0, cap, by simp, by simpa using hp.2.2.1, hp.2.1, fun i hi => ⟨v, ?_, by simpa using h⟩⟩
  have hi' : i < n := by simpa using hi
  rw [Nat.zero_add, ho.cellAt i (by omega), List.getElem?_replicate, if_pos hi']
set_option maxHeartbeats 1600000 in
theorem powerWord_any (v : Value) (l : List Int) (k : Int) (w : World) (h : Ints w v l) (hn : l.length ≤ 1048576) :
    Calls Try.prog 23 #[v, .int .i64 k] w (RetI w (powW l k)) := by
  obtain ⟨b1, off1, cap1, rfl, hb1, hcap1⟩ := h.form
  by_cases hin : -24 ≤ k ∧ k ≤ 24
  case neg =>
    have hin' : k < -24 ∨ 24 < k := by omega
    rw [powW_out hin']
    go_enter Try.func23, Try.ntmps23
    go_wp2_with (go_at_call 73; refine (within_no hin' _).mono ?_; rintro e w' ⟨rfl, rfl⟩)
    go_ret
    exact RetI.mk (by simp) (World.ownsRow_made _ _ _ (Nat.le_refl _) (by decide) rfl) (by simp) ((Below.refl _ _).alloc (Nat.le_refl _) _)
  obtain ⟨hl, hh⟩ := hin
  have hB := Below.refl w.heap.size w
  by_cases hk : k < 0
  case neg =>
    obtain ⟨n, rfl⟩ : ∃ n : Nat, k = (n : Int) := ⟨k.toNat, by omega⟩
    have h24 : n ≤ 24 := by omega
    clear hl hh hk
    go_enter Try.func23, Try.ntmps23
    go_wp2_with (go_at_call 73; refine (within_yes (by omega) (by omega) _).mono ?_; rintro e w' ⟨rfl, rfl⟩)
    go_loopw [5, 6] (fun out i wr => ∃ (j g1 cap2 : Nat), j ≤ n ∧ i = .int .i64 j ∧ out = .slice (some ⟨g1, 0, none⟩) j cap2 ∧ wr.ownsRow w.heap.size 22 1 (.slice (some ⟨g1, 0, none⟩) j cap2) j (List.replicate j (Value.slice (some ⟨b1, off1, none⟩) l.length cap1)) ∧ Below w.heap.size w wr)
      (fun _ i _ => n - (intOf i).toNat)
    case atStart => exact ⟨0, _, 0, by omega, rfl, rfl, World.ownsRow_made _ _ _ (Nat.le_refl _) (by decide) rfl, (Below.refl _ _).alloc (Nat.le_refl _) _⟩
    case round =>
      obtain ⟨j, g1, cap2, hj, rfl, rfl, hown, hbel⟩ := hrel
      have hg1 : w.heap.size ≤ g1 := (ownsRow_parts hown).1
      by_cases hlt : j < n
      · have hkl : (j : Int) < (n : Int) := by omega
        have hrep : List.replicate (j + 1) (Value.slice (some ⟨b1, off1, none⟩) l.length cap1) = List.replicate j (Value.slice (some ⟨b1, off1, none⟩) l.length cap1) ++ [(Value.slice (some ⟨b1, off1, none⟩) l.length cap1)] := List.replicate_succ'
        have hrk := Lib.hid hrep
        clear hrep
        go_wp2_with (at_builtin; refine wpl_push elemII rfl (.tmp 23) (.tmp 25) rfl rfl (hown.alloc _) rfl (heap_alloc_new _ _) rfl (by omega) ?_; intro g' cap' w1 hown' hgrow hat)
        have hb1 := below_push hbel hgrow hg1 (Nat.le_refl _)
        rw [← hrk.out] at hown'
        clear hrk
        go_roundw
        case rel => exact ⟨j + 1, g', cap', by omega, by go_num, rfl, hown', hb1⟩
        case measure => simp [intOf]; omega
      · obtain rfl : j = n := by omega
        have hR := rows2_rep hown (h.keep hbel)
        have hc := product_any _ _ _ hR (by simp; omega) (by rw [rep_length]; first | (rw [invW_length]; exact Nat.le_trans (Nat.mul_le_mul h24 hn) (by decide)) | exact Nat.le_trans (Nat.mul_le_mul h24 hn) (by decide))
        go_wp2_with fail
        refine hc.mono ?_
        rintro e w5 ⟨v5, rfl, hr⟩
        go_wp2
        go_ret
        rw [powW_nat h24]
        exact RetI.from hbel ⟨v5, rfl, hr⟩
  obtain ⟨n, rfl⟩ : ∃ n : Nat, k = -(n : Int) := ⟨(-k).toNat, by omega⟩
  have h24 : n ≤ 24 := by omega
  have h0 : 0 < n := by omega
  clear hl hh
  have hX := powW_neg (l := l) h24 h0
  have HX := Lib.hid hX
  clear hX
  go_enter Try.func23, Try.ntmps23
  go_wp2_with (first | (go_at_call 73; refine (within_yes (by omega) (by omega) _).mono ?_; rintro e w' ⟨rfl, rfl⟩))
  refine (invertWord_any _ _ _ h (by omega)).mono ?_
  rintro e w3 ⟨v3, rfl, o3, hb⟩
  obtain ⟨g3, c3, rfl, _⟩ := id o3
  have i3 := o3.ints
  clear o3
  go_wp2
  go_loopw [5, 6] (fun out i wr => ∃ (j g1 cap2 : Nat), j ≤ n ∧ i = .int .i64 j ∧ out = .slice (some ⟨g1, 0, none⟩) j cap2 ∧ wr.ownsRow w3.heap.size 22 1 (.slice (some ⟨g1, 0, none⟩) j cap2) j (List.replicate j (Value.slice (some ⟨g3, 0, none⟩) (invW l).length c3)) ∧ Below w3.heap.size w3 wr)
    (fun _ i _ => n - (intOf i).toNat)
  case atStart => exact ⟨0, _, 0, by omega, rfl, rfl, World.ownsRow_made _ _ _ (Nat.le_refl _) (by decide) rfl, (Below.refl _ _).alloc (Nat.le_refl _) _⟩
  case round =>
    obtain ⟨j, g1, cap2, hj, rfl, rfl, hown, hbel⟩ := hrel
    have hg1 : w3.heap.size ≤ g1 := (ownsRow_parts hown).1
    by_cases hlt : j < n
    · have hkl : (j : Int) < (n : Int) := by omega
      have hrep : List.replicate (j + 1) (Value.slice (some ⟨g3, 0, none⟩) (invW l).length c3) = List.replicate j (Value.slice (some ⟨g3, 0, none⟩) (invW l).length c3) ++ [(Value.slice (some ⟨g3, 0, none⟩) (invW l).length c3)] := List.replicate_succ'
      have hrk := Lib.hid hrep
      clear hrep
      go_wp2_with (at_builtin; refine wpl_push elemII rfl (.tmp 23) (.tmp 25) rfl rfl (hown.alloc _) rfl (heap_alloc_new _ _) rfl (by omega) ?_; intro g' cap' w1 hown' hgrow hat)
      have hb1 := below_push hbel hgrow hg1 (Nat.le_refl _)
      rw [← hrk.out] at hown'
      clear hrk
      go_roundw
      case rel => exact ⟨j + 1, g', cap', by omega, by go_num, rfl, hown', hb1⟩
      case measure => simp [intOf]; omega
    · obtain rfl : j = n := by omega
      have hR := rows2_rep hown (i3.keep hbel)
      have hc := product_any _ _ _ hR (by simp; omega) (by rw [rep_length]; first | (rw [invW_length]; exact Nat.le_trans (Nat.mul_le_mul h24 hn) (by decide)) | exact Nat.le_trans (Nat.mul_le_mul h24 hn) (by decide))
      go_wp2_with fail
      refine hc.mono ?_
      rintro e w5 ⟨v5, rfl, hr⟩
      go_wp2
      go_ret
      rw [HX.out]
      exact RetI.from hb (RetI.from hbel ⟨v5, rfl, hr⟩)
theorem neg_i64_least : powW [] 0 = [] := rfl
set_option maxHeartbeats 1600000 in
theorem powerWordS_any (v : Value) (l : List Int) (k : Int) (w : World) (h : Ints w v l) (hk : I64 k) (hn : l.length ≤ 1048576) :
    Calls Try.prog 24 #[v, .int .i64 k] w (RetI w (powW l k)) := by
  obtain ⟨b1, off1, cap1, rfl, hb1, hcap1⟩ := h.form
  obtain ⟨hk1, hk2⟩ := hk
  by_cases hk0 : k < 0
  case neg =>
    obtain ⟨n, rfl⟩ : ∃ n : Nat, k = (n : Int) := ⟨k.toNat, by omega⟩
    have HX := Lib.hid (fun h24 : n ≤ 24 => powW_nat (l := l) h24)
    have HO := Lib.hid (fun h24 : 24 < n => powW_out (l := l) (k := (n : Int)) (by omega))
    have hng : wrap64 (-(n : Int)) = -(n : Int) := by unfold wrap64; omega
    clear hk0 hk1
    go_enter Try.func24, Try.ntmps24
    go_wp2
    have hown0 : (w.alloc (Obj.cells #[] 3)).ownsRow w.heap.size 3 1 (.slice (some ⟨w.heap.size, 0, none⟩) 0 0) 0 [] := World.ownsRow_made _ _ _ (Nat.le_refl _) (by decide) rfl
    have hB := (Below.refl w.heap.size w).alloc (Nat.le_refl _) (Obj.cells #[] 3)
    go_loopw [5, 6] (fun out i wr => ∃ (j m g1 cap2 : Nat), j ≤ n ∧ j ≤ 24 ∧ i = .int .i64 j ∧ m ≤ j * 1048576 ∧ out = .slice (some ⟨g1, 0, none⟩) m cap2 ∧ Kept (m = (List.replicate j l).flatten.length) ∧ wr.ownsRow w.heap.size 3 1 (.slice (some ⟨g1, 0, none⟩) m cap2) m (intsV (List.replicate j l).flatten) ∧ Below w.heap.size w wr)
      (fun _ i _ => 24 - (intOf i).toNat)
    case atStart => exact ⟨0, 0, w.heap.size, 0, by omega, by omega, rfl, by omega, rfl, ⟨rfl⟩, hown0, hB⟩
    case round =>
      obtain ⟨j, m, g1, cap2, hj, hj24, rfl, hm, rfl, hmk, hown, hbel⟩ := hrel
      have hg1 : w.heap.size ≤ g1 := (ownsRow_parts hown).1
      have hcap2 : m ≤ cap2 := (ownsRow_parts hown).2.2.1
      by_cases hlt : j < n
      · have hkl : (j : Int) < (n : Int) := by omega
        by_cases hj2 : j < 24
        · have hj3 : (j : Int) < 24 := by omega
          have hI : Ints wr (Value.slice (some ⟨b1, off1, none⟩) l.length cap1) l := h.keep hbel
          have hmm : m + l.length ≤ (j + 1) * 1048576 := by omega
          have hmc : m + l.length ≤ 1099511627776 := by omega
          go_wp2_with (at_builtin; refine wpl_app elemI rfl (.tmp 26) (.tmp 27) rfl rfl hown rfl (by simp [intsV]) hI.news (intsV_one _) hmc ?_; intro g' cap' w1 hown' hgrow hat)
          have hb1 := below_grown hbel hgrow hbel.size hg1
          have hrep : (List.replicate (j + 1) l).flatten = (List.replicate j l).flatten ++ l := by rw [List.replicate_succ']; simp
          rw [← intsV_append, ← hrep] at hown'
          have hmk' : Kept (m + l.length = (List.replicate (j + 1) l).flatten.length) := ⟨by rw [hrep, List.length_append, ← hmk.out]⟩
          clear hrep
          go_roundw
          case rel => exact ⟨j + 1, m + l.length, g', cap', by omega, by omega, by go_num, hmm, rfl, hmk', hown', hb1⟩
          case measure => simp [intOf]; omega
        · obtain rfl : j = 24 := by omega
          have ho := HO.out (by omega)
          have hoK := Lib.hid ho
          clear ho
          go_wp2
          go_ret
          rw [hoK.out]
          exact RetI.mk (by simp) (World.ownsRow_made _ _ _ hbel.size (by decide) rfl) (by simp) (hbel.alloc hbel.size _)
      · obtain rfl : j = n := by omega
        have hI : Ints wr (.slice (some ⟨g1, 0, none⟩) m cap2) (List.replicate j l).flatten := by
          have := OwnI.ints (B := w.heap.size) (w := wr) (v := .slice (some ⟨g1, 0, none⟩) m cap2) (l := (List.replicate j l).flatten) ⟨g1, cap2, by rw [← hmk.out], by rw [← hmk.out]; exact hown, fun x hx => by
            simp only [List.mem_flatten, List.mem_replicate] at hx
            obtain ⟨u, ⟨_, hu⟩, hy⟩ := hx
            rw [hu] at hy
            exact h.range x hy⟩
          exact this
        have hc := reduceLettersS_any _ _ _ hI (by rw [← hmk.out]; omega)
        go_wp2_with fail
        refine hc.mono ?_
        rintro e w5 ⟨v5, rfl, hr⟩
        go_wp2
        go_ret
        rw [HX.out hj24]
        exact RetI.from hbel ⟨v5, rfl, hr⟩
  by_cases hleast : k = -9223372036854775808
  · have HX : powW l k = [] := powW_out (by omega)
    rw [HX]
    have hwl : wrap64 9223372036854775808 = -9223372036854775808 := by unfold wrap64; omega
    clear HX hk1 hk2 hk0
    subst hleast
    go_enter Try.func24, Try.ntmps24
    go_wp2_with fail
    refine (invertWordS_any _ _ _ (h.keep ((Below.refl _ _).alloc (Nat.le_refl _) _)) (by omega)).mono ?_
    rintro e w3 ⟨v3, rfl, o3, hb⟩
    have hown0 : w3.ownsRow w.heap.size 3 1 (.slice (some ⟨w.heap.size, 0, none⟩) 0 0) 0 [] := ownsRow_keep (World.ownsRow_made _ _ _ (Nat.le_refl _) (by decide) rfl) hb
    have hB : Below w.heap.size w w3 := ((Below.refl w.heap.size w).alloc (Nat.le_refl _) (Obj.cells #[] 3)).trans (hb.mono (by simp))
    go_wp2
    refine wp_loop_rounds 1 ?_
    rw [rounds_succ]
    go_wp2_with fail
    have hI : Ints w3 (.slice (some ⟨w.heap.size, 0, none⟩) 0 0) [] := OwnI.ints (B := w.heap.size) ⟨_, _, rfl, hown0, by simp⟩
    refine (reduceLettersS_any _ _ _ hI (by simp)).mono ?_
    rintro e w5 ⟨v5, rfl, hr⟩
    go_wp2
    go_ret
    exact RetI.from hB ⟨v5, rfl, hr⟩
  obtain ⟨n, rfl⟩ : ∃ n : Nat, k = -(n : Int) := ⟨(-k).toNat, by omega⟩
  have h0 : 0 < n := by omega
  have hnb : (n : Int) ≤ 9223372036854775807 := by omega
  have HX := Lib.hid (fun h24 : n ≤ 24 => powW_neg (l := l) h24 h0)
  have HO := Lib.hid (fun h24 : 24 < n => powW_out (l := l) (k := -(n : Int)) (by omega))
  clear hleast hk1 hk2
  go_enter Try.func24, Try.ntmps24
  go_wp2_with fail
  refine (invertWordS_any _ _ _ (h.keep ((Below.refl _ _).alloc (Nat.le_refl _) _)) (by omega)).mono ?_
  rintro e w3 ⟨v3, rfl, o3, hb⟩
  have hown0 : w3.ownsRow w.heap.size 3 1 (.slice (some ⟨w.heap.size, 0, none⟩) 0 0) 0 [] := ownsRow_keep (World.ownsRow_made _ _ _ (Nat.le_refl _) (by decide) rfl) hb
  have hB : Below w.heap.size w w3 := ((Below.refl w.heap.size w).alloc (Nat.le_refl _) (Obj.cells #[] 3)).trans (hb.mono (by simp))
  have hne0 : ∀ g, v3.ownBlock = some g → g ≠ w.heap.size := by
    obtain ⟨gg, h1, h2, h3⟩ := o3.block
    intro g hg
    rw [h1] at hg
    cases hg
    simp at h2
    omega
  replace o3 := o3.base (show w.heap.size ≤ _ by simp)
  obtain ⟨g3, c3, rfl, _⟩ := id o3
  replace hne0 := hne0 g3 rfl
  clear hb
  go_wp2
  go_loopw [5, 6] (fun out i wr => ∃ (j m g1 cap2 : Nat), j ≤ n ∧ j ≤ 24 ∧ i = .int .i64 j ∧ m ≤ j * 1048576 ∧ out = .slice (some ⟨g1, 0, none⟩) m cap2 ∧ Kept (m = (List.replicate j (invW l)).flatten.length) ∧ wr.ownsRow w.heap.size 3 1 (.slice (some ⟨g1, 0, none⟩) m cap2) m (intsV (List.replicate j (invW l)).flatten) ∧ Below w.heap.size w wr ∧ OwnI wr w.heap.size (Value.slice (some ⟨g3, 0, none⟩) (invW l).length c3) (invW l) ∧ Kept (g3 ≠ g1))
    (fun _ i _ => 24 - (intOf i).toNat)
  case atStart => exact ⟨0, 0, w.heap.size, 0, by omega, by omega, rfl, by omega, rfl, ⟨rfl⟩, hown0, hB, o3, ⟨hne0⟩⟩
  case round =>
    obtain ⟨j, m, g1, cap2, hj, hj24, rfl, hm, rfl, hmk, hown, hbel, o3, hne⟩ := hrel
    have hg1 : w.heap.size ≤ g1 := (ownsRow_parts hown).1
    have hcap2 : m ≤ cap2 := (ownsRow_parts hown).2.2.1
    by_cases hlt : j < n
    · have hkl : (j : Int) < (n : Int) := by omega
      by_cases hj2 : j < 24
      · have hj3 : (j : Int) < 24 := by omega
        have hI : Ints wr (Value.slice (some ⟨g3, 0, none⟩) (invW l).length c3) (invW l) := o3.ints
        have hmm : m + (invW l).length ≤ (j + 1) * 1048576 := by rw [invW_length]; omega
        have hmc : m + (invW l).length ≤ 1099511627776 := by omega
        go_wp2_with (at_builtin; refine wpl_app elemI rfl (.tmp 26) (.tmp 27) rfl rfl hown rfl (by simp [intsV]) hI.news (intsV_one _) hmc ?_; intro g' cap' w1 hown' hgrow hat)
        have hb1 := below_grown hbel hgrow hbel.size hg1
        have hrep : (List.replicate (j + 1) (invW l)).flatten = (List.replicate j (invW l)).flatten ++ (invW l) := by rw [List.replicate_succ']; simp
        rw [← intsV_append, ← hrep] at hown'
        have hmk' : Kept (m + (invW l).length = (List.replicate (j + 1) (invW l)).flatten.length) := ⟨by rw [hrep, List.length_append, ← hmk.out]⟩
        have hne' : Kept (g3 ≠ g') := ⟨by
          obtain ⟨gg, h1, h2, h3⟩ := o3.block
          replace h1 : g3 = gg := by simpa [Value.ownBlock] using h1
          have := hne.out
          rcases hat with rfl | rfl <;> omega⟩
        have o3' := o3.grown hgrow (by intro h; cases h; exact hne.out rfl)
        clear hrep
        go_roundw
        case rel => exact ⟨j + 1, m + (invW l).length, g', cap', by omega, by omega, by go_num, hmm, rfl, hmk', hown', hb1, o3', hne'⟩
        case measure => simp [intOf]; omega
      · obtain rfl : j = 24 := by omega
        have ho := HO.out (by omega)
        have hoK := Lib.hid ho
        clear ho
        go_wp2
        go_ret
        rw [hoK.out]
        exact RetI.mk (by simp) (World.ownsRow_made _ _ _ hbel.size (by decide) rfl) (by simp) (hbel.alloc hbel.size _)
    · obtain rfl : j = n := by omega
      have hI : Ints wr (.slice (some ⟨g1, 0, none⟩) m cap2) (List.replicate j (invW l)).flatten := by
        have := OwnI.ints (B := w.heap.size) (w := wr) (v := .slice (some ⟨g1, 0, none⟩) m cap2) (l := (List.replicate j (invW l)).flatten) ⟨g1, cap2, by rw [← hmk.out], by rw [← hmk.out]; exact hown, fun x hx => by
          simp only [List.mem_flatten, List.mem_replicate] at hx
          obtain ⟨u, ⟨_, hu⟩, hy⟩ := hx
          rw [hu] at hy
          exact invW_i64 h.range x hy⟩
        exact this
      have hc := reduceLettersS_any _ _ _ hI (by rw [← hmk.out]; omega)
      go_wp2_with fail
      refine hc.mono ?_
      rintro e w5 ⟨v5, rfl, hr⟩
      go_wp2
      go_ret
      rw [HX.out hj24]
      exact RetI.from hbel ⟨v5, rfl, hr⟩
end Go.Proofs.Ytbghnllflfcfhaa
