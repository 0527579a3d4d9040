/- Contracts of the small functions on numbers and bytes: within, l1In, l1Digit, EncodeHex, DecodeFixed, EncodeVarint, EncodeFixed. Conditions: strings of at most 1048576 bytes. -/
import Derived.Test.YtpdakognheolnaaRows
import Derived.Test.YtpdakognheolnaaBase
namespace Go.Proofs.Ytpdakognheolnaa
open Go.RowKit

theorem elemB : Elem Try.prog 50 5 (.int .u8 0) 1 1 := ⟨Try.underlying50, by kernel_rfl, rfl, by decide, by decide⟩

theorem within_any (x lo hi : Int) (w : World) : Calls Try.prog 45 #[.int .i64 x, .int .i64 lo, .int .i64 hi] w fun e w' => e = .returned (.bool (decide (lo ≤ x ∧ x ≤ hi))) ∧ w = w' := by
  by_cases h1 : lo ≤ x
  · by_cases h2 : x ≤ hi
    · have e1 : decide (lo ≤ x ∧ x ≤ hi) = true := by simp [h1, h2]
      rw [e1]
      go_enter Try.func45, Try.ntmps45
      go_wp2
      go_ret
      exact ⟨rfl, rfl⟩
    · have e1 : decide (lo ≤ x ∧ x ≤ hi) = false := by simp [h2]
      rw [e1]
      go_enter Try.func45, Try.ntmps45
      go_wp2
      go_ret
      exact ⟨rfl, rfl⟩
  · have e1 : decide (lo ≤ x ∧ x ≤ hi) = false := by simp [h1]
    rw [e1]
    go_enter Try.func45, Try.ntmps45
    go_wp2
    go_ret
    exact ⟨rfl, rfl⟩
theorem l1In_any (x lo hi : Int) (w : World) : Calls Try.prog 44 #[.int .i64 x, .int .i64 lo, .int .i64 hi] w fun e w' => e = .returned (.bool (decide (lo ≤ x ∧ x ≤ hi))) ∧ w = w' := by
  by_cases h1 : lo ≤ x
  · by_cases h2 : x ≤ hi
    · have e1 : decide (lo ≤ x ∧ x ≤ hi) = true := by simp [h1, h2]
      rw [e1]
      go_enter Try.func44, Try.ntmps44
      go_wp2
      go_ret
      exact ⟨rfl, rfl⟩
    · have e1 : decide (lo ≤ x ∧ x ≤ hi) = false := by simp [h2]
      rw [e1]
      go_enter Try.func44, Try.ntmps44
      go_wp2
      go_ret
      exact ⟨rfl, rfl⟩
  · have e1 : decide (lo ≤ x ∧ x ≤ hi) = false := by simp [h1]
    rw [e1]
    go_enter Try.func44, Try.ntmps44
    go_wp2
    go_ret
    exact ⟨rfl, rfl⟩
/-- The two together: what is asked, under its answer. -/
theorem within_yes {x lo hi : Int} (h1 : lo ≤ x) (h2 : x ≤ hi) (w : World) : Calls Try.prog 45 #[.int .i64 x, .int .i64 lo, .int .i64 hi] w fun e w' => e = .returned (.bool true) ∧ w = w' := by
  have e1 : decide (lo ≤ x ∧ x ≤ hi) = true := by simp [h1, h2]
  rw [← e1]; exact within_any x lo hi w
theorem within_no {x lo hi : Int} (h : x < lo ∨ hi < x) (w : World) : Calls Try.prog 45 #[.int .i64 x, .int .i64 lo, .int .i64 hi] w fun e w' => e = .returned (.bool false) ∧ w = w' := by
  have e1 : decide (lo ≤ x ∧ x ≤ hi) = false := by simp; omega
  rw [← e1]; exact within_any x lo hi w
theorem l1In_yes {x lo hi : Int} (h1 : lo ≤ x) (h2 : x ≤ hi) (w : World) : Calls Try.prog 44 #[.int .i64 x, .int .i64 lo, .int .i64 hi] w fun e w' => e = .returned (.bool true) ∧ w = w' := by
  have e1 : decide (lo ≤ x ∧ x ≤ hi) = true := by simp [h1, h2]
  rw [← e1]; exact l1In_any x lo hi w
theorem l1In_no {x lo hi : Int} (h : x < lo ∨ hi < x) (w : World) : Calls Try.prog 44 #[.int .i64 x, .int .i64 lo, .int .i64 hi] w fun e w' => e = .returned (.bool false) ∧ w = w' := by
  have e1 : decide (lo ≤ x ∧ x ≤ hi) = false := by simp; omega
  rw [← e1]; exact l1In_any x lo hi w

/-! ### EncodeVarint -/
def vi (n : Nat) : List UInt8 := if n < 128 then [UInt8.ofNat n] else UInt8.ofNat (128 + n % 128) :: vi (n / 128)
  termination_by n
  decreasing_by omega
theorem vi_small {n : Nat} (h : n < 128) : vi n = [UInt8.ofNat n] := by rw [vi, if_pos h]
theorem vi_big {n : Nat} (h : 128 ≤ n) : vi n = UInt8.ofNat (128 + n % 128) :: vi (n / 128) := by rw [vi, if_neg (by omega)]
theorem u8_cell (n : Nat) (h : n < 256) : Value.int .u8 (n : Int) = Value.int .u8 ((UInt8.ofNat n).toNat : Int) := by
  rw [UInt8.toNat_ofNat', Nat.mod_eq_of_lt h]
theorem bytesV_one (n : Nat) (h : n < 256) : [Value.int .u8 (n : Int)] = bytesV [UInt8.ofNat n] := by
  rw [u8_cell n h]; rfl

theorem vi_step {k m n : Nat} (h : k * 2 ^ m ≤ n) (hk : 128 ≤ k) (hn : n ≤ 562949953421311) : (k / 128) * 2 ^ (m + 1) ≤ n ∧ m + 1 ≤ 49 := by
  have h1 : (k / 128) * 2 ^ (m + 1) ≤ n := by
    refine Nat.le_trans ?_ h
    rw [Nat.pow_succ, ← Nat.mul_assoc, Nat.mul_right_comm]
    exact Nat.mul_le_mul_right _ (by omega)
  refine ⟨h1, ?_⟩
  have h2 : 2 ^ (m + 1) ≤ n := Nat.le_trans (Nat.le_mul_of_pos_left _ (by omega)) h1
  have h3 : 2 ^ (m + 1) < 2 ^ 50 := by omega
  have := (Nat.pow_lt_pow_iff_right (a := 2) (by decide)).1 h3
  omega

set_option maxHeartbeats 400000 in
theorem encodeVarint_ok (n : Nat) (hn : n ≤ 562949953421311) (w : World) : Calls Try.prog 20 #[.int .i64 n] w fun e w' => e = .returned (.string ⟨(vi n).toArray⟩) ∧ Below w.heap.size w w' := by
  go_enter Try.func20, Try.ntmps20
  go_wp2_with (go_at_call 45; refine (within_yes (by omega) (by omega) _).mono ?_; rintro e w' ⟨rfl, rfl⟩)
  go_loopw [0, 3] (fun i out wr => ∃ (k g cap : Nat) (l : List UInt8), k ≤ n ∧ l.length ≤ 49 ∧ Kept (k * 2 ^ l.length ≤ n) ∧ i = .int .i64 k ∧ out = .slice (some ⟨g, 0, none⟩) l.length cap ∧ wr.ownsRow w.heap.size 5 1 (.slice (some ⟨g, 0, none⟩) l.length cap) l.length (bytesV l) ∧ Kept (l ++ vi k = vi n) ∧ Below w.heap.size w wr)
    (fun i _ _ => (intOf i).toNat)
  case atStart => exact ⟨n, _, 0, [], Nat.le_refl _, by simp, ⟨by simp⟩, rfl, rfl, World.ownsRow_made _ _ _ (Nat.le_refl _) (by decide) rfl, ⟨rfl⟩, (Below.refl _ _).alloc (Nat.le_refl _) _⟩
  case round =>
    obtain ⟨k, g, cap, l, hk, hl49, hkl, rfl, rfl, hown, hvi, hbel⟩ := hrel
    have hg : w.heap.size ≤ g := (ownsRow_parts hown).1
    have e1 := i64_and127' k
    have e2 := i64_or128 ((k : Int) % 128) (by omega) (by omega)
    by_cases hlt : k < 128
    · go_wp2_with (at_builtin; refine wpl_push elemB rfl (.tmp 19) (.tmp 22) rfl rfl (hown.alloc _) rfl (heap_alloc_new _ _) rfl (by omega) ?_; intro g' cap' w1 hown1 hgrow1 hat; rw [bytesV_one k (by omega), ← bytesV_append, ← vi_small hlt, hvi.out] at hown1; have hconv := run_str_of_row (P := Try.prog) (src := 50) (dst := 9) Try.underlying50 Try.underlying5 Try.underlying9 hown1)
      go_ret
      exact ⟨rfl, below_push hbel hgrow1 hg (Nat.le_refl _)⟩
    · go_wp2_with (at_builtin; refine wpl_push elemB rfl (.tmp 10) (.tmp 15) rfl rfl (hown.alloc _) rfl (heap_alloc_new _ _) rfl (by omega) ?_; intro g' cap' w1 hown1 hgrow1 hat)
      have hb1 := below_push hbel hgrow1 hg (Nat.le_refl _)
      clear hgrow1 hat
      go_wp2
      go_roundw
      case rel =>
        have hvs := vi_step hkl.out (by omega) hn
        refine ⟨k / 128, g', cap', l ++ [UInt8.ofNat (128 + k % 128)], by omega, by simpa using hvs.2, ⟨by simpa using hvs.1⟩, by go_num, by simp, ?_, ?_, hb1⟩
        · rw [bytesV_append, ← bytesV_one _ (by omega)]
          have ec : (((128 + k % 128 : Nat)) : Int) = (k : Int) % 128 + 128 := by omega
          rw [ec]
          simpa using hown1
        · have hv := hvi.out
          rw [vi_big (by omega : 128 ≤ k)] at hv
          exact ⟨by simpa using hv⟩
      case measure => simp [intOf]; omega

set_option maxHeartbeats 400000 in
theorem encodeVarintS_ok (n : Nat) (hn : n ≤ 562949953421311) (w : World) : Calls Try.prog 19 #[.int .i64 n] w fun e w' => e = .returned (.string ⟨(vi n).toArray⟩) ∧ Below w.heap.size w w' := by
  go_enter Try.func19, Try.ntmps19
  go_wp2_with (go_at_call 44; refine (l1In_yes (by omega) (by omega) _).mono ?_; rintro e w' ⟨rfl, rfl⟩)
  go_loopw [0, 3] (fun i out wr => ∃ (k g cap : Nat) (l : List UInt8), k ≤ n ∧ l.length ≤ 49 ∧ Kept (k * 2 ^ l.length ≤ n) ∧ i = .int .i64 k ∧ out = .slice (some ⟨g, 0, none⟩) l.length cap ∧ wr.ownsRow w.heap.size 5 1 (.slice (some ⟨g, 0, none⟩) l.length cap) l.length (bytesV l) ∧ Kept (l ++ vi k = vi n) ∧ Below w.heap.size w wr)
    (fun i _ _ => (intOf i).toNat)
  case atStart => exact ⟨n, _, 0, [], Nat.le_refl _, by simp, ⟨by simp⟩, rfl, rfl, World.ownsRow_made _ _ _ (Nat.le_refl _) (by decide) rfl, ⟨rfl⟩, (Below.refl _ _).alloc (Nat.le_refl _) _⟩
  case round =>
    obtain ⟨k, g, cap, l, hk, hl49, hkl, rfl, rfl, hown, hvi, hbel⟩ := hrel
    have hg : w.heap.size ≤ g := (ownsRow_parts hown).1

    by_cases hlt : k < 128
    · have hd : decide ((128 : Int) ≤ (k : Int)) = false := by simp; omega
      go_wp2_with (at_builtin; refine wpl_push elemB rfl (.tmp 19) (.tmp 22) rfl rfl (hown.alloc _) rfl (heap_alloc_new _ _) rfl (by omega) ?_; intro g' cap' w1 hown1 hgrow1 hat; rw [bytesV_one k (by omega), ← bytesV_append, ← vi_small hlt, hvi.out] at hown1; have hconv := run_str_of_row (P := Try.prog) (src := 50) (dst := 9) Try.underlying50 Try.underlying5 Try.underlying9 hown1)
      go_ret
      exact ⟨rfl, below_push hbel hgrow1 hg (Nat.le_refl _)⟩
    · have hd : decide ((128 : Int) ≤ (k : Int)) = true := by simp; omega
      go_wp2_with (at_builtin; refine wpl_push elemB rfl (.tmp 10) (.tmp 15) rfl rfl (hown.alloc _) rfl (heap_alloc_new _ _) rfl (by omega) ?_; intro g' cap' w1 hown1 hgrow1 hat)
      have hb1 := below_push hbel hgrow1 hg (Nat.le_refl _)
      clear hgrow1 hat
      go_wp2
      go_roundw
      case rel =>
        have hvs := vi_step hkl.out (by omega) hn
        refine ⟨k / 128, g', cap', l ++ [UInt8.ofNat (128 + k % 128)], by omega, by simpa using hvs.2, ⟨by simpa using hvs.1⟩, by go_num, by simp, ?_, ?_, hb1⟩
        · rw [bytesV_append, ← bytesV_one _ (by omega)]
          have ec : (((128 + k % 128 : Nat)) : Int) = 128 + (k : Int) % 128 := by omega
          rw [ec]
          simpa using hown1
        · have hv := hvi.out
          rw [vi_big (by omega : 128 ≤ k)] at hv
          exact ⟨by simpa using hv⟩
      case measure => simp [intOf]; omega

theorem encodeVarint_out (n : Int) (h : n < 0 ∨ 562949953421311 < n) (w : World) : Calls Try.prog 20 #[.int .i64 n] w fun e w' => e = .returned (.string ⟨[].toArray⟩) ∧ w = w' := by
  go_enter Try.func20, Try.ntmps20
  go_wp2_with (go_at_call 45; refine (within_no h _).mono ?_; rintro e w' ⟨rfl, rfl⟩)
  go_ret
  exact ⟨rfl, rfl⟩

theorem encodeVarintS_out (n : Int) (h : n < 0 ∨ 562949953421311 < n) (w : World) : Calls Try.prog 19 #[.int .i64 n] w fun e w' => e = .returned (.string ⟨[].toArray⟩) ∧ w = w' := by
  go_enter Try.func19, Try.ntmps19
  go_wp2_with (go_at_call 44; refine (l1In_no h _).mono ?_; rintro e w' ⟨rfl, rfl⟩)
  go_ret
  exact ⟨rfl, rfl⟩

/-! ### EncodeFixed -/
def encF : Nat → Nat → List UInt8
  | 0, _ => []
  | i + 1, n => UInt8.ofNat (n / 256 ^ i % 256) :: encF i n
theorem encF_length (i n : Nat) : (encF i n).length = i := by
  induction i with
  | zero => rfl
  | succ i ih => simp [encF, ih]
theorem div_step (n i : Nat) : n / 256 ^ i / 256 = n / 256 ^ (i + 1) := by rw [Nat.div_div_eq_div_mul, Nat.pow_succ]
/-- What EncodeFixed gives. -/
def fixedN (n m : Nat) : List UInt8 := if n < 256 ^ m then encF m n else []

theorem pow_wrap (m : Nat) (h1 : 1 ≤ m) (h7 : m ≤ 7) : wrap64 (2 ^ (8 * m)) = ((256 ^ m : Nat) : Int) := by
  have : m = 1 ∨ m = 2 ∨ m = 3 ∨ m = 4 ∨ m = 5 ∨ m = 6 ∨ m = 7 := by omega
  rcases this with rfl | rfl | rfl | rfl | rfl | rfl | rfl <;> decide +kernel
theorem zeros_row (m : Nat) : (madeCells (Value.int IntKind.u8 0).cells (m * 1)).toList = bytesV (List.replicate m 0) := by
  rw [Nat.mul_one]
  refine (toList_madeCells_one (.int .u8 0) m).trans ?_
  simp [bytesV]
set_option maxHeartbeats 400000 in
theorem encodeFixed_in (n m : Nat) (h1 : 1 ≤ m) (h7 : m ≤ 7) (hn : n < 256 ^ m) (hn9 : n ≤ 9223372036854775807) (w : World) : Calls Try.prog 22 #[.int .i64 n, .int .i64 m] w fun e w' => e = .returned (.string ⟨(encF m n).toArray⟩) ∧ Below w.heap.size w w' := by
  obtain ⟨i0, hi, hz0, hz1, hz2⟩ := info_parts elemB.info
  have hd1 : decide ((n : Int) < 0) = false := by simp
  have hd2 : decide (wrap64 (2 ^ (8 * m)) ≤ (n : Int)) = false := by rw [pow_wrap m h1 h7]; exact decide_eq_false (by omega)
  have hnk : Kept (n < 256 ^ m) := ⟨hn⟩
  clear hn
  go_enter Try.func22, Try.ntmps22
  go_wp2_with (first | (go_at_call 45; refine (within_yes (by omega) (by omega) _).mono ?_; rintro e w' ⟨rfl, rfl⟩) | (at_make; refine wpList_make_full _ rfl _ _ 50 rfl w.heap.size 5 i0 (.int .u8 0) 1 Try.underlying50 hi hz0 hz1 _ _ _ _ m rfl rfl rfl rfl (by rw [hz2]; omega) (by unfold maxLen; omega) (Nat.le_refl _) ?_; intro w0 hown0 hgrow0))
  rw [zeros_row] at hown0
  have hb0 : Below w.heap.size w w0 := (Below.refl _ _).grown hgrow0 (Nat.le_refl _) (fun k h => by cases h)
  clear hgrow0 hd1 hd2
  go_loopw [0, 6] (fun x i wr => ∃ (q j y : Nat), q + j = m ∧ i = .int .i64 ((q : Int) - 1) ∧ x = .int .i64 y ∧ y ≤ 9223372036854775807 ∧ Kept (y = n / 256 ^ j) ∧ wr.ownsRow w.heap.size 5 1 (.slice (some ⟨w.heap.size, 0, none⟩) m m) m (bytesV (List.replicate q 0 ++ encF j n)) ∧ Below w.heap.size w wr)
    (fun _ i _ => (intOf i + 1).toNat)
  case atStart => exact ⟨m, 0, n, rfl, rfl, rfl, hn9, ⟨by simp⟩, by simpa [encF] using hown0, hb0⟩
  case round =>
    obtain ⟨q, j, y, hqj, rfl, rfl, hy, hyk, hown, hbel⟩ := hrel
    have hm : Kept (q + j = m) := ⟨hqj⟩
    by_cases hq : 1 ≤ q
    · have hd : decide ((0 : Int) ≤ (q : Int) - 1) = true := by simp; omega
      have e1 := i64_and255 y
      obtain ⟨old, hc⟩ := ownsRow_cell hown (q - 1) (by omega)
      have hf := hown.frozenAt (q - 1)
      go_wp2
      go_roundw
      case rel =>
        obtain ⟨q', rfl⟩ : ∃ q', q = q' + 1 := ⟨q - 1, by omega⟩
        refine ⟨q', j + 1, y / 256, by omega, by go_num, by go_num, by omega, ⟨?_⟩, ?_, hbel.setCell (Nat.le_refl _) _⟩
        · rw [hyk.out, div_step]
        · have hs := (hown.stored q' (.int .u8 ((y % 256 : Nat) : Int))).1
          rw [bytesV_set _ _ _ (by omega)] at hs
          have el : (List.replicate (q' + 1) (0 : UInt8) ++ encF j n).set q' (UInt8.ofNat (y % 256)) = List.replicate q' 0 ++ encF (j + 1) n := by
            rw [List.replicate_succ', List.append_assoc, List.set_append_right _ _ (by simp)]
            simp [encF, hyk.out]
          rw [el] at hs
          exact hs
      case measure => simp [intOf]; omega
    · obtain rfl : q = 0 := by omega
      obtain rfl : j = m := by omega
      have hd : decide ((0 : Int) ≤ -1) = false := by decide
      have hconv := run_str_of_row (P := Try.prog) (src := 50) (dst := 9) Try.underlying50 Try.underlying5 Try.underlying9 hown
      go_wp2
      go_ret
      exact ⟨rfl, hbel⟩
theorem encodeFixed_out (n width : Int) (h : width < 1 ∨ 7 < width ∨ n < 0) (w : World) : Calls Try.prog 22 #[.int .i64 n, .int .i64 width] w fun e w' => e = .returned (.string ⟨[].toArray⟩) ∧ w = w' := by
  by_cases h1 : width < 1 ∨ 7 < width
  · go_enter Try.func22, Try.ntmps22
    go_wp2_with (go_at_call 45; refine (within_no h1 _).mono ?_; rintro e w' ⟨rfl, rfl⟩)
    go_ret
    exact ⟨rfl, rfl⟩
  · have hd : decide (n < 0) = true := decide_eq_true (by omega)
    go_enter Try.func22, Try.ntmps22
    go_wp2_with (go_at_call 45; refine (within_yes (by omega) (by omega) _).mono ?_; rintro e w' ⟨rfl, rfl⟩)
    go_ret
    exact ⟨rfl, rfl⟩
theorem encodeFixed_big (n m : Nat) (h1 : 1 ≤ m) (h7 : m ≤ 7) (hn : 256 ^ m ≤ n) (w : World) : Calls Try.prog 22 #[.int .i64 n, .int .i64 m] w fun e w' => e = .returned (.string ⟨[].toArray⟩) ∧ w = w' := by
  have hd1 : decide ((n : Int) < 0) = false := by simp
  have hd2 : decide (wrap64 (2 ^ (8 * m)) ≤ (n : Int)) = true := by rw [pow_wrap m h1 h7]; exact decide_eq_true (by omega)
  clear hn
  go_enter Try.func22, Try.ntmps22
  go_wp2_with (go_at_call 45; refine (within_yes (by omega) (by omega) _).mono ?_; rintro e w' ⟨rfl, rfl⟩)
  go_ret
  exact ⟨rfl, rfl⟩

theorem encodeFixedS_out (n width : Int) (h : width < 1 ∨ 7 < width ∨ n < 0) (w : World) : Calls Try.prog 21 #[.int .i64 n, .int .i64 width] w fun e w' => e = .returned (.string ⟨[].toArray⟩) ∧ w = w' := by
  by_cases h1 : width < 1 ∨ 7 < width
  · go_enter Try.func21, Try.ntmps21
    go_wp2_with (go_at_call 44; refine (l1In_no h1 _).mono ?_; rintro e w' ⟨rfl, rfl⟩)
    go_ret
    exact ⟨rfl, rfl⟩
  · have hd : decide (n < 0) = true := decide_eq_true (by omega)
    go_enter Try.func21, Try.ntmps21
    go_wp2_with (go_at_call 44; refine (l1In_yes (by omega) (by omega) _).mono ?_; rintro e w' ⟨rfl, rfl⟩)
    go_ret
    exact ⟨rfl, rfl⟩
set_option maxHeartbeats 400000 in
theorem encodeFixedS_in (n m : Nat) (h1 : 1 ≤ m) (h7 : m ≤ 7) (hn9 : n ≤ 9223372036854775807) (w : World) : Calls Try.prog 21 #[.int .i64 n, .int .i64 m] w fun e w' => e = .returned (.string ⟨(fixedN n m).toArray⟩) ∧ Below w.heap.size w w' := by
  have hd1 : decide ((n : Int) < 0) = false := by simp
  go_enter Try.func21, Try.ntmps21
  go_wp2_with (go_at_call 44; refine (l1In_yes (by omega) (by omega) _).mono ?_; rintro e w' ⟨rfl, rfl⟩)
  clear hd1
  go_loopw [0, 5, 6] (fun x out i wr => ∃ (j y : Nat), j ≤ m ∧ i = .int .i64 j ∧ x = .int .i64 y ∧ y ≤ 9223372036854775807 ∧ Kept (y = n / 256 ^ j) ∧ out = .string ⟨(encF j n).toArray⟩ ∧ Below w.heap.size w wr)
    (fun _ _ i _ => m - (intOf i).toNat)
  case atStart => exact ⟨0, n, Nat.zero_le _, rfl, rfl, hn9, ⟨by simp⟩, rfl, Below.refl _ _⟩
  case round =>
    obtain ⟨j, y, hj, rfl, rfl, hy, hyk, rfl, hbel⟩ := hrel
    by_cases hq : j < m
    · have hd : decide ((j : Int) < m) = true := decide_eq_true (by omega)
      have hone := run_str_one (P := Try.prog) (src := 50) (dst := 9) Try.underlying50 Try.underlying5 Try.underlying9 ((y : Int) % 256) (by omega) (by omega) wr
      have hl : (encF j n).length ≤ 7 := by rw [encF_length]; omega
      go_wp2
      go_roundw
      case rel =>
        refine ⟨j + 1, y / 256, by omega, by go_num, by go_num, by omega, ⟨?_⟩, ?_, hbel.alloc hbel.size _⟩
        · rw [hyk.out, div_step]
        · rw [hyk.out]
          exact str_cons _ _
      case measure => simp [intOf]; omega
    · have hjm : Kept (j = m) := ⟨by omega⟩
      have hd : decide ((j : Int) < m) = false := decide_eq_false (by omega)
      by_cases hn : n < 256 ^ m
      · have hy0 : y = 0 := by rw [hyk.out, hjm.out]; exact Nat.div_eq_of_lt hn
        have hk : Kept _ := ⟨hn⟩
        have hd2 : decide (0 < y) = false := decide_eq_false (by omega)
        clear hyk hn hy0
        go_wp2
        go_ret
        exact ⟨ret_str (by simp [fixedN, hk.out, hjm.out]), hbel⟩
      · have hy0 : 0 < y := by rw [hyk.out, hjm.out]; exact Nat.div_pos (by omega) (Nat.pow_pos (by decide))
        have hd2 : decide (0 < y) = true := decide_eq_true (by omega)
        have hk : Kept _ := ⟨hn⟩
        clear hyk hn hy0
        go_wp2
        go_ret
        exact ⟨ret_str (by simp [fixedN, hk.out]), hbel⟩
/-! ### EncodeHex -/
def hexDigit (n : Nat) : UInt8 := if n < 10 then UInt8.ofNat (48 + n) else UInt8.ofNat (87 + n)
def hexL : List UInt8 → List UInt8
  | [] => []
  | b :: l => hexDigit (b.toNat / 16) :: hexDigit (b.toNat % 16) :: hexL l
theorem hexTab : ∀ n : Fin 16, ({ data := #[48, 49, 50, 51, 52, 53, 54, 55, 56, 57, 97, 98, 99, 100, 101, 102] } : ByteArray)[n.val]'(by have := n.isLt; simp [ByteArray.size]) = hexDigit n.val := by decide
theorem hexL_append (l l' : List UInt8) : hexL (l ++ l') = hexL l ++ hexL l' := by
  induction l with
  | nil => rfl
  | cons b l ih => simp [hexL, ih]
theorem hexL_length (l : List UInt8) : (hexL l).length = 2 * l.length := by
  induction l with
  | nil => rfl
  | cons b l ih => simp [hexL, ih]; omega
theorem hexL_snoc (s : ByteArray) (k : Nat) (h : k < s.size) : bytesV (hexL (s.data.toList.take k)) ++ [Value.int .u8 (hexDigit (s[k].toNat / 16)).toNat, Value.int .u8 (hexDigit (s[k].toNat % 16)).toNat] = bytesV (hexL (s.data.toList.take (k + 1))) := by
  rw [take_snoc s k h, hexL_append, bytesV_append]
  rfl
theorem l1Digit_any (x : Int) (h0 : 0 ≤ x) (h1 : x < 16) (w : World) : Calls Try.prog 43 #[.int .i64 x] w fun e w' => e = .returned (.int .u8 (hexDigit x.toNat).toNat) ∧ w = w' := by
  obtain ⟨n, rfl⟩ := Int.eq_ofNat_of_zero_le h0
  have h2 : n < 16 := by omega
  go_enter Try.func43, Try.ntmps43
  go_wp2
  go_ret
  exact ⟨congrArg (fun b : UInt8 => Ending.returned (.int .u8 (b.toNat : Int))) (hexTab ⟨n, h2⟩), rfl⟩
set_option maxHeartbeats 400000 in
theorem encodeHex_any (s : ByteArray) (hs : s.size ≤ 1048576) (w : World) : Calls Try.prog 16 #[.string s] w fun e w' => e = .returned (.string ⟨(hexL s.data.toList).toArray⟩) ∧ Below w.heap.size w w' := by
  obtain ⟨i0, hi, hz0, hz1, hz2⟩ := info_parts elemB.info
  go_enter Try.func16, Try.ntmps16
  go_wp2_with (at_make; refine wpList_make_own _ rfl _ _ 50 rfl w.heap.size 5 i0 (.int .u8 0) 1 Try.underlying50 hi hz0 hz1 _ _ _ (2 * s.size) rfl rfl (by omega) (by rw [hz2]; omega) (by unfold maxLen; omega) (Nat.le_refl _) ?_; intro w0 hown0 hgrow0)
  have hb0 : Below w.heap.size w w0 := (Below.refl _ _).grown hgrow0 (Nat.le_refl _) (fun k h => by cases h)
  go_loopw [3, 4] (fun out i wr => ∃ k g cap : Nat, k ≤ s.size ∧ i = .int .i64 k ∧ out = .slice (some ⟨g, 0, none⟩) (2 * k) cap ∧
     wr.ownsRow w.heap.size 5 1 (.slice (some ⟨g, 0, none⟩) (2 * k) cap) (2*k) (bytesV (hexL (s.data.toList.take k))) ∧ Below w.heap.size w wr) (fun _ i _ => s.size - (intOf i).toNat)
  case atStart => exact ⟨0, _, _, Nat.zero_le _, rfl, rfl, hown0, hb0⟩
  case round =>
    obtain ⟨k, g, cap, hk, rfl, rfl, hown, hbel⟩ := hrel
    by_cases hlt : k < s.size
    · have hsz : s.size ≤ 9223372036854775807 := by omega
      have hkk : k ≤ 1048576 := by omega
      have hb := s[k].toNat_lt
      have ha1 : (0 : Int) ≤ (s[k].toNat : Int) / 16 := by omega
      have ha2 : (s[k].toNat : Int) / 16 < 16 := by omega
      have ha3 : (0 : Int) ≤ (s[k].toNat : Int) % 16 := by omega
      have ha4 : (s[k].toNat : Int) % 16 < 16 := by omega
      have hbt : bits BinOp.and IntKind.u8 (s[k].toNat : Int) 15 = (s[k].toNat : Int) % 16 := u8_and15 _ (by omega) (by omega)
      go_wp2
      go_region_law (refine step_app elemB rfl (.tmp 15) (.tmp 26) rfl rfl (hown.drew.alloc _) rfl (m := 2) rfl (World.news_of_block (heap_alloc_new _ _)) (by simp [Value.oneCell']) (by omega) ?_; intro g' cap' w1 hown1 hgrow1 hat)
      all_goals
        have hg : w.heap.size ≤ g := (ownsRow_parts hown).1
        have hbel1 : Below w.heap.size w w1 := below_grown ((hbel.alloc hbel.size _).drew) hgrow1 (by have := hbel.size; simp; omega) hg
        clear hgrow1 hat
        rw [show (2 * k + 2) = 2 * (k + 1) from by omega] at hown1
        go_wp2
        go_roundw
        case rel =>
          refine ⟨k + 1, g', cap', by omega, by go_num, rfl, ?_, hbel1⟩
          have t1 := hexTab ⟨s[k].toNat / 16, by omega⟩
          have t2 := hexTab ⟨s[k].toNat % 16, by omega⟩
          rw [← hexL_snoc s k hlt, ← t1, ← t2]
          exact hown1
        case measure => simp [intOf]; omega
    · obtain rfl : k = s.size := by omega
      rw [take_all] at hown
      have hconv := run_str_of_row (P := Try.prog) (src := 50) (dst := 9) Try.underlying50 Try.underlying5 Try.underlying9 hown
      go_wp2
      go_ret
      exact ⟨rfl, hbel⟩
set_option maxHeartbeats 800000 in
theorem encodeHexS_any (s : ByteArray) (hs : s.size ≤ 1048576) (w : World) : Calls Try.prog 15 #[.string s] w fun e w' => e = .returned (.string ⟨(hexL s.data.toList).toArray⟩) ∧ Below w.heap.size w w' := by
  go_enter Try.func15, Try.ntmps15
  go_wp2
  go_loopw [3, 4] (fun out i wr => ∃ k g cap : Nat, k ≤ s.size ∧ i = .int .i64 k ∧ out = .slice (some ⟨g, 0, none⟩) (2 * k) cap ∧
     wr.ownsRow w.heap.size 5 1 (.slice (some ⟨g, 0, none⟩) (2 * k) cap) (2*k) (bytesV (hexL (s.data.toList.take k))) ∧ Below w.heap.size w wr) (fun _ i _ => s.size - (intOf i).toNat)
  case atStart => exact ⟨0, _, 0, Nat.zero_le _, rfl, rfl, World.ownsRow_made _ _ _ (Nat.le_refl _) (by decide) rfl, (Below.refl _ _).alloc (Nat.le_refl _) _⟩
  case round =>
    obtain ⟨k, g, cap, hk, rfl, rfl, hown, hbel⟩ := hrel
    by_cases hlt : k < s.size
    · have hsz : s.size ≤ 9223372036854775807 := by omega
      have hkk : k ≤ 1048576 := by omega
      have hb := s[k].toNat_lt
      have ha1 : (0 : Int) ≤ (s[k].toNat : Int) / 16 := by omega
      have ha2 : (s[k].toNat : Int) / 16 < 16 := by omega
      have ha3 : (0 : Int) ≤ (s[k].toNat : Int) % 16 := by omega
      have ha4 : (s[k].toNat : Int) % 16 < 16 := by omega
      have hw1 : IntKind.i64.wrap (s[k].toNat : Int) = (s[k].toNat : Int) := IntWalk.i64_in _ (by omega)
      have hw2 : (s[k].toNat : Int).tdiv 16 = (s[k].toNat : Int) / 16 := Int.tdiv_eq_ediv_of_nonneg (by omega)
      have hw3 : IntKind.i64.wrap ((s[k].toNat : Int) / 16) = (s[k].toNat : Int) / 16 := IntWalk.i64_in _ (by omega)
      have hw4 : (s[k].toNat : Int).tmod 16 = (s[k].toNat : Int) % 16 := Int.tmod_eq_emod_of_nonneg (by omega)
      have hw5 : IntKind.i64.wrap ((s[k].toNat : Int) % 16) = (s[k].toNat : Int) % 16 := IntWalk.i64_in _ (by omega)
      go_wp2
      go_region_law (first | (go_simp; go_at_call 43; refine (l1Digit_any _ (by assumption) (by assumption) _).mono ?_; rintro e w' ⟨rfl, rfl⟩) | (refine step_app elemB rfl (.tmp 12) (.tmp 25) rfl rfl (hown.drew.alloc _) rfl (m := 2) rfl (World.news_of_block (heap_alloc_new _ _)) (by simp [Value.oneCell']) (by omega) ?_; intro g' cap' w1 hown1 hgrow1 hat))
      all_goals
        have hg : w.heap.size ≤ g := (ownsRow_parts hown).1
        have hbel1 : Below w.heap.size w w1 := below_grown ((hbel.alloc hbel.size _).drew) hgrow1 (by have := hbel.size; simp; omega) hg
        clear hgrow1 hat hw1 hw2 hw3 hw4 hw5
        rw [show (2 * k + 2) = 2 * (k + 1) from by omega] at hown1
        go_wp2
        go_roundw
        case rel =>
          refine ⟨k + 1, g', cap', by omega, by go_num, rfl, ?_, hbel1⟩
          rw [← hexL_snoc s k hlt]
          rw [show ((s[k].toNat : Int) / 16).toNat = s[k].toNat / 16 from by omega, show ((s[k].toNat : Int) % 16).toNat = s[k].toNat % 16 from by omega] at hown1
          exact hown1
        case measure => simp [intOf]; omega
    · obtain rfl : k = s.size := by omega
      rw [take_all] at hown
      have hconv := run_str_of_row (P := Try.prog) (src := 50) (dst := 9) Try.underlying50 Try.underlying5 Try.underlying9 hown
      go_wp2
      go_ret
      exact ⟨rfl, hbel⟩

/-! ### DecodeFixed -/
def decF (l : List UInt8) : Nat := l.foldl (fun a b => a * 256 + b.toNat) 0
theorem decF_snoc (l : List UInt8) (b : UInt8) : decF (l ++ [b]) = decF l * 256 + b.toNat := by simp [decF]
theorem decF_lt (l : List UInt8) : decF l < 256 ^ l.length := by
  induction l using snoc_ind with
  | h0 => simp [decF]
  | h1 l b ih =>
    have := b.toNat_lt
    rw [decF_snoc, List.length_append, List.length_singleton, Nat.pow_succ]
    omega
theorem decF_take_lt (l : List UInt8) (k : Nat) (hk : k ≤ 6) : decF (l.take k) < 281474976710656 := by
  refine Nat.lt_of_lt_of_le (decF_lt _) ?_
  refine Nat.le_trans (Nat.pow_le_pow_right (by decide) (List.length_take_le _ _)) ?_
  exact Nat.le_trans (Nat.pow_le_pow_right (by decide) hk) (by decide)

theorem decodeFixed_out (s : ByteArray) (width : Int) (h : width < 1 ∨ 7 < width ∨ (s.size : Int) < width) (w : World) : Calls Try.prog 18 #[.string s, .int .i64 width] w fun e w' => e = .returned (.tuple #[.int .i64 0, .bool false]) ∧ w = w' := by
  by_cases h1 : width < 1 ∨ 7 < width
  · go_enter Try.func18, Try.ntmps18
    go_wp2_with (go_at_call 45; refine (within_no h1 _).mono ?_; rintro e w' ⟨rfl, rfl⟩)
    go_ret2
    exact ⟨rfl, rfl⟩
  · have hd : decide ((s.size : Int) < width) = true := decide_eq_true (by omega)
    go_enter Try.func18, Try.ntmps18
    go_wp2_with (go_at_call 45; refine (within_yes (by omega) (by omega) _).mono ?_; rintro e w' ⟨rfl, rfl⟩)
    go_ret2
    exact ⟨rfl, rfl⟩
theorem decodeFixed_in (s : ByteArray) (n : Nat) (h1 : 1 ≤ n) (h7 : n ≤ 7) (hs : n ≤ s.size) (hz : s.size ≤ 9223372036854775807) (w : World) : Calls Try.prog 18 #[.string s, .int .i64 n] w fun e w' => e = .returned (.tuple #[.int .i64 (decF (s.data.toList.take n)), .bool true]) ∧ w = w' := by
  have e2 : decide (s.size < n) = false := decide_eq_false (by omega)
  go_enter Try.func18, Try.ntmps18
  go_wp2_with (go_at_call 45; refine (within_yes (by omega) (by omega) _).mono ?_; rintro e w' ⟨rfl, rfl⟩)
  go_loop [6, 7] (fun m i => ∃ k : Nat, k ≤ n ∧ i = .int .i64 k ∧ m = .int .i64 (decF (s.data.toList.take k))) (fun _ i => n - (intOf i).toNat)
  case atStart => exact ⟨0, Nat.zero_le _, rfl, rfl⟩
  case round =>
    obtain ⟨k, hk, rfl, rfl⟩ := hrel
    by_cases hlt : k < n
    · have hlt' : k < s.size := by omega
      have hd := decF_take_lt s.data.toList k (by omega)
      have hb := s[k].toNat_lt
      have hj := i64_join8 (decF (s.data.toList.take k)) s[k].toNat (by omega) (by omega)
      go_wp2
      go_round
      case rel => exact ⟨k + 1, by omega, by go_num, by rw [take_snoc s k hlt', decF_snoc]; go_num⟩
      case measure => simp [intOf]; omega
    · go_wp2
      go_ret2
      obtain rfl : k = n := by omega
      exact ⟨rfl, rfl⟩

theorem decodeFixedS_out (s : ByteArray) (width : Int) (h : width < 1 ∨ 7 < width ∨ (s.size : Int) < width) (w : World) : Calls Try.prog 17 #[.string s, .int .i64 width] w fun e w' => e = .returned (.tuple #[.int .i64 0, .bool false]) ∧ w = w' := by
  by_cases h1 : width < 1 ∨ 7 < width
  · go_enter Try.func17, Try.ntmps17
    go_wp2_with (go_at_call 44; refine (l1In_no h1 _).mono ?_; rintro e w' ⟨rfl, rfl⟩)
    go_ret2
    exact ⟨rfl, rfl⟩
  · have hd : decide ((s.size : Int) < width) = true := decide_eq_true (by omega)
    go_enter Try.func17, Try.ntmps17
    go_wp2_with (go_at_call 44; refine (l1In_yes (by omega) (by omega) _).mono ?_; rintro e w' ⟨rfl, rfl⟩)
    go_ret2
    exact ⟨rfl, rfl⟩
theorem decodeFixedS_in (s : ByteArray) (n : Nat) (h1 : 1 ≤ n) (h7 : n ≤ 7) (hs : n ≤ s.size) (hz : s.size ≤ 9223372036854775807) (w : World) : Calls Try.prog 17 #[.string s, .int .i64 n] w fun e w' => e = .returned (.tuple #[.int .i64 (decF (s.data.toList.take n)), .bool true]) ∧ w = w' := by
  have e2 : decide (s.size < n) = false := decide_eq_false (by omega)
  go_enter Try.func17, Try.ntmps17
  go_wp2_with (go_at_call 44; refine (l1In_yes (by omega) (by omega) _).mono ?_; rintro e w' ⟨rfl, rfl⟩)
  go_loop [6, 7] (fun m i => ∃ k : Nat, k ≤ n ∧ i = .int .i64 k ∧ m = .int .i64 (decF (s.data.toList.take k))) (fun _ i => n - (intOf i).toNat)
  case atStart => exact ⟨0, Nat.zero_le _, rfl, rfl⟩
  case round =>
    obtain ⟨k, hk, rfl, rfl⟩ := hrel
    by_cases hlt : k < n
    · have hlt' : k < s.size := by omega
      have hd := decF_take_lt s.data.toList k (by omega)
      have hb := s[k].toNat_lt
      go_wp2
      go_round
      case rel => exact ⟨k + 1, by omega, by go_num, by rw [take_snoc s k hlt', decF_snoc]; go_num⟩
      case measure => simp [intOf]; omega
    · go_wp2
      go_ret2
      obtain rfl : k = n := by omega
      exact ⟨rfl, rfl⟩
end Go.Proofs.Ytpdakognheolnaa
