/- Contracts of DecodeHex. Conditions: strings of at most 1048576 bytes. -/
import Derived.Test.YtpdakognheolnaaNumA
namespace Go.Proofs.Ytpdakognheolnaa
open Go.RowKit

def hexVal (b : UInt8) : Int := if 48 ≤ (b.toNat : Int) ∧ (b.toNat : Int) ≤ 57 then (b.toNat : Int) - 48 else if 97 ≤ (b.toNat : Int) ∧ (b.toNat : Int) ≤ 102 then (b.toNat : Int) - 87 else -1
theorem hexVal_bd (b : UInt8) : -1 ≤ hexVal b ∧ hexVal b ≤ 15 := by unfold hexVal; split <;> (try split) <;> omega
theorem hexVal_digit : ∀ k : Fin 16, hexVal (hexDigit k.val) = k.val := by decide
theorem hexVal_none (b : UInt8) (h : ∀ k, k < 16 → hexDigit k ≠ b) : hexVal b = -1 := by
  unfold hexVal
  split
  · rename_i h1
    exfalso
    refine h (b.toNat - 48) (by omega) ?_
    unfold hexDigit
    rw [if_pos (by omega)]
    apply UInt8.toNat_inj.1
    rw [UInt8.toNat_ofNat']
    omega
  · split
    · rename_i h1
      exfalso
      refine h (b.toNat - 87) (by omega) ?_
      unfold hexDigit
      rw [if_neg (by omega)]
      apply UInt8.toNat_inj.1
      rw [UInt8.toNat_ofNat']
      omega
    · rfl
theorem hexValue_any (b : UInt8) (w : World) : Calls Try.prog 48 #[.int .u8 b.toNat] w fun e w' => e = .returned (.int .i64 (hexVal b)) ∧ w = w' := by
  have hb := b.toNat_lt
  by_cases h1 : 48 ≤ (b.toNat : Int)
  · by_cases h2 : (b.toNat : Int) ≤ 57
    · have e : hexVal b = (b.toNat : Int) - 48 := by unfold hexVal; rw [if_pos ⟨h1, h2⟩]
      rw [e]
      clear e
      go_enter Try.func48, Try.ntmps48
      go_wp2
      go_ret
      exact ⟨rfl, rfl⟩
    · by_cases h3 : 97 ≤ (b.toNat : Int)
      · by_cases h4 : (b.toNat : Int) ≤ 102
        · have e : hexVal b = (b.toNat : Int) - 97 + 10 := by unfold hexVal; rw [if_neg (by omega), if_pos ⟨h3, h4⟩]; omega
          rw [e]
          clear e
          go_enter Try.func48, Try.ntmps48
          go_wp2
          go_ret
          exact ⟨rfl, rfl⟩
        · have e : hexVal b = -1 := by unfold hexVal; rw [if_neg (by omega), if_neg (by omega)]
          rw [e]
          clear e
          go_enter Try.func48, Try.ntmps48
          go_wp2
          go_ret
          exact ⟨rfl, rfl⟩
      · have e : hexVal b = -1 := by unfold hexVal; rw [if_neg (by omega), if_neg (by omega)]
        rw [e]
        clear e
        go_enter Try.func48, Try.ntmps48
        go_wp2
        go_ret
        exact ⟨rfl, rfl⟩
  · have e : hexVal b = -1 := by unfold hexVal; rw [if_neg (by omega), if_neg (by omega)]
    rw [e]
    clear e
    go_enter Try.func48, Try.ntmps48
    go_wp2
    go_ret
    exact ⟨rfl, rfl⟩
theorem l1FromHex_any (b : UInt8) (w : World) : Calls Try.prog 47 #[.int .u8 b.toNat] w fun e w' => e = .returned (.int .i64 (hexVal b)) ∧ w = w' := by
  go_enter Try.func47, Try.ntmps47
  go_wp2
  go_loop [3] (fun i => ∃ k : Nat, k ≤ 16 ∧ i = .int .i64 k ∧ Kept (∀ j, j < k → hexDigit j ≠ b)) (fun i => 16 - (intOf i).toNat)
  case atStart => exact ⟨0, by omega, rfl, ⟨by omega⟩⟩
  case round =>
    obtain ⟨k, hk, rfl, hno⟩ := hrel
    by_cases hlt : k < 16
    · by_cases he : hexDigit k = b
      · have heq : (((hexDigit ((k : Int)).toNat).toNat : Int) == (b.toNat : Int)) = true := by simp [he]
        go_wp2_with (go_at_call 43; refine (l1Digit_any _ (by omega) (by omega) _).mono ?_; rintro e w' ⟨rfl, rfl⟩)
        go_ret
        exact ⟨ret_int (by rw [← he]; exact (hexVal_digit ⟨k, hlt⟩).symm), rfl⟩
      · have hne : (hexDigit k).toNat ≠ b.toNat := fun h => he (UInt8.toNat_inj.1 h)
        have heq : (((hexDigit k).toNat : Int) == (b.toNat : Int)) = false := by simp; omega
        have hek : Kept _ := ⟨he⟩
        clear he hne
        go_wp2_with (go_at_call 43; refine (l1Digit_any _ (by omega) (by omega) _).mono ?_; rintro e w' ⟨rfl, rfl⟩)
        go_round
        case rel =>
          refine ⟨k + 1, by omega, by go_num, ⟨fun j hj => ?_⟩⟩
          by_cases hjk : j = k
          · subst hjk; exact hek.out
          · exact hno.out j (by omega)
        case measure => simp [intOf]; omega
    · obtain rfl : k = 16 := by omega
      go_wp2
      go_ret
      exact ⟨ret_int (hexVal_none b hno.out).symm, rfl⟩

/-! ### What DecodeHex gives -/
def unhex : List UInt8 → Option (List UInt8)
  | [] => some []
  | [_] => none
  | a :: b :: r => if hexVal a < 0 ∨ hexVal b < 0 then none else (unhex r).map (UInt8.ofNat (16 * (hexVal a).toNat + (hexVal b).toNat) :: ·)
def decHexV (L : List UInt8) : Value := match unhex L with
  | some l => .tuple #[.string ⟨l.toArray⟩, .bool true]
  | none => .tuple #[.string ⟨[].toArray⟩, .bool false]
theorem unhex_odd : ∀ (n : Nat) (L : List UInt8), L.length = 2 * n + 1 → unhex L = none := by
  intro n
  induction n with
  | zero => intro L h; match L, h with | [a], _ => rfl
  | succ n ih =>
    intro L h
    match L, h with
    | a :: b :: r, h =>
      unfold unhex
      split
      · rfl
      · rw [ih r (by simp at h; omega)]; rfl
theorem drop_two (s : ByteArray) (k : Nat) (h : 2 * k + 1 < s.size) : s.data.toList.drop (2 * k) = s[2 * k] :: s[2 * k + 1] :: s.data.toList.drop (2 * (k + 1)) := by
  rw [List.drop_eq_getElem_cons (by simp; omega), List.drop_eq_getElem_cons (by simp; omega)]
  rfl

theorem decodeHex_odd (s : ByteArray) (hs : s.size ≤ 1048576) (ho : s.size % 2 = 1) (w : World) : Calls Try.prog 29 #[.string s] w fun e w' => e = .returned (decHexV s.data.toList) ∧ Below w.heap.size w w' := by
  have e : decHexV s.data.toList = .tuple #[.string ⟨[].toArray⟩, .bool false] := by
    unfold decHexV
    rw [unhex_odd (s.size / 2) _ (by simp; omega)]
  rw [e]
  clear e
  have ho' : (s.size : Int) % 2 = 1 := by omega
  clear ho
  go_enter Try.func29, Try.ntmps29
  go_wp2
  go_ret2
  exact ⟨rfl, Below.refl _ _⟩
theorem decodeHexS_odd (s : ByteArray) (hs : s.size ≤ 1048576) (ho : s.size % 2 = 1) (w : World) : Calls Try.prog 28 #[.string s] w fun e w' => e = .returned (decHexV s.data.toList) ∧ Below w.heap.size w w' := by
  have e : decHexV s.data.toList = .tuple #[.string ⟨[].toArray⟩, .bool false] := by
    unfold decHexV
    rw [unhex_odd (s.size / 2) _ (by simp; omega)]
  rw [e]
  clear e
  have ho' : (s.size : Int) % 2 = 1 := by omega
  clear ho
  go_enter Try.func28, Try.ntmps28
  go_wp2
  go_ret2
  exact ⟨rfl, (Below.refl _ _).alloc (Nat.le_refl _) _⟩
set_option maxHeartbeats 1600000 in
theorem decodeHexS_even (s : ByteArray) (n : Nat) (hn : s.size = 2 * n) (hs : n ≤ 524288) (w : World) : Calls Try.prog 28 #[.string s] w fun e w' => e = .returned (decHexV s.data.toList) ∧ Below w.heap.size w w' := by
  have ho' : (s.size : Int) % 2 = 0 := by omega
  have hnk : Kept _ := ⟨hn⟩
  have hn1 : s.size ≤ 2 * n := by omega
  have hn2 : 2 * n ≤ s.size := by omega
  clear hn
  go_enter Try.func28, Try.ntmps28
  go_wp2
  clear ho'
  go_loopw [4, 5, 6, 7] (fun out i _ _ wr => ∃ (k g cap : Nat) (l : List UInt8), k ≤ n ∧ l.length = k ∧ i = .int .i64 (2 * (k : Int)) ∧ out = .slice (some ⟨g, 0, none⟩) k cap ∧ wr.ownsRow w.heap.size 5 1 (.slice (some ⟨g, 0, none⟩) k cap) k (bytesV l) ∧ Kept (unhex s.data.toList = (unhex (s.data.toList.drop (2 * k))).map (l ++ ·)) ∧ Below w.heap.size w wr)
    (fun _ i _ _ _ => 2 * n - (intOf i).toNat)
  case atStart => exact ⟨0, _, 0, [], Nat.zero_le _, rfl, rfl, rfl, World.ownsRow_made _ _ _ (Nat.le_refl _) (by decide) rfl, ⟨by simp⟩, (Below.refl _ _).alloc (Nat.le_refl _) _⟩
  case round =>
    obtain ⟨k, g, cap, l, hk, hl, rfl, rfl, hown, hun, hbel⟩ := hrel
    have hg : w.heap.size ≤ g := (ownsRow_parts hown).1
    by_cases hlt : k < n
    · have hi0 : (0 : Int) ≤ 2 * (k : Int) := by omega
      have hi1 : 2 * (k : Int) < s.size := by omega
      have hi2 : 2 * (k : Int) + 1 < s.size := by omega
      have hbx := hexVal_bd s[2 * k]
      have hby := hexVal_bd s[2 * k + 1]
      have hdr := drop_two s k (by omega)
      by_cases hx : hexVal s[2 * k] < 0
      · have hnone : Kept (unhex s.data.toList = none) := ⟨by rw [hun.out, hdr, unhex, if_pos (.inl hx)]; rfl⟩
        clear hun hdr
        go_wp2_with (go_at_call 47; refine (l1FromHex_any _ _).mono ?_; rintro e w' ⟨rfl, rfl⟩)
        go_ret2
        exact ⟨by unfold decHexV; rw [hnone.out]; rfl, hbel⟩
      · by_cases hy : hexVal s[2 * k + 1] < 0
        · have hnone : Kept (unhex s.data.toList = none) := ⟨by rw [hun.out, hdr, unhex, if_pos (.inr hy)]; rfl⟩
          clear hun hdr
          go_wp2_with (go_at_call 47; refine (l1FromHex_any _ _).mono ?_; rintro e w' ⟨rfl, rfl⟩)
          go_ret2
          exact ⟨by unfold decHexV; rw [hnone.out]; rfl, hbel⟩
        · obtain ⟨p, hp⟩ := Int.eq_ofNat_of_zero_le (show 0 ≤ hexVal s[2 * k] by omega)
          obtain ⟨q, hq⟩ := Int.eq_ofNat_of_zero_le (show 0 ≤ hexVal s[2 * k + 1] by omega)
          have hstep : Kept (unhex s.data.toList = (unhex (s.data.toList.drop (2 * (k + 1)))).map ((l ++ [UInt8.ofNat (16 * p + q)]) ++ ·)) := ⟨by
            rw [hun.out, hdr, unhex, if_neg (by omega), hp, hq]
            simp [Option.map_map, Function.comp_def]⟩
          have hp15 : p ≤ 15 := by omega
          have hq15 : q ≤ 15 := by omega
          clear hun hdr hbx hby hx hy
          go_wp2_with (first | (go_at_call 47; refine (l1FromHex_any _ _).mono ?_; rintro e w' ⟨rfl, rfl⟩) | (at_builtin; refine wpl_push elemB rfl (.tmp 34) (.tmp 40) rfl rfl (hown.alloc _) rfl (heap_alloc_new _ _) rfl (by omega) ?_; intro g' cap' w1 hown1 hgrow1 hat))
          have hb1 := below_push hbel hgrow1 hg (Nat.le_refl _)
          clear hgrow1 hat
          go_wp2
          go_roundw
          case rel =>
            refine ⟨k + 1, g', cap', l ++ [UInt8.ofNat (16 * p + q)], by omega, by simp [hl], by go_num, rfl, ?_, hstep, hb1⟩
            rw [bytesV_append, ← bytesV_one _ (by omega)]
            exact hown1
          case measure => simp [intOf]; omega
    · have hkn : Kept (k = n) := ⟨by omega⟩
      have hi1 : decide (2 * (k : Int) < s.size) = false := decide_eq_false (by omega)
      have hfin : Kept (unhex s.data.toList = some l) := ⟨by
        rw [hun.out, hkn.out, ← hnk.out, List.drop_of_length_le (by simp)]
        simp [unhex]⟩
      have hconv := run_str_of_row (P := Try.prog) (src := 50) (dst := 9) Try.underlying50 Try.underlying5 Try.underlying9 hown
      clear hun hk hlt
      go_wp2
      go_ret2
      exact ⟨by unfold decHexV; rw [hfin.out]; rfl, hbel⟩
theorem i64_join4 (a b : Nat) (ha : a ≤ 15) (hb : b ≤ 15) : bits .or .i64 ((a : Int) * 16) (b : Int) = (a : Int) * 16 + b := by
  have e : ((a : Int) * 16) = ((2 ^ 4 * a : Nat) : Int) := by omega
  rw [e, i64_or_nat _ _ (by omega) (by omega), ← Nat.two_pow_add_eq_or_of_lt (by omega : b < 2 ^ 4)]
  omega
set_option maxHeartbeats 1600000 in
theorem decodeHex_even (s : ByteArray) (n : Nat) (hn : s.size = 2 * n) (hs : n ≤ 524288) (w : World) : Calls Try.prog 29 #[.string s] w fun e w' => e = .returned (decHexV s.data.toList) ∧ Below w.heap.size w w' := by
  have ho' : (s.size : Int) % 2 = 0 := by omega
  have hnk : Kept _ := ⟨hn⟩
  have hn1 : s.size ≤ 2 * n := by omega
  have hn2 : 2 * n ≤ s.size := by omega
  clear hn
  obtain ⟨i0, hi, hz0, hz1, hz2⟩ := info_parts elemB.info
  have hdiv : (s.size : Int) / 2 = n := by omega
  go_enter Try.func29, Try.ntmps29
  go_wp2_with (at_make; refine wpList_make_own _ rfl _ _ 50 rfl w.heap.size 5 i0 (.int .u8 0) 1 Try.underlying50 hi hz0 hz1 _ _ _ n rfl rfl (by omega) (by rw [hz2]; omega) (by unfold maxLen; omega) (Nat.le_refl _) ?_; intro w0 hown0 hgrow0)
  have hb0 : Below w.heap.size w w0 := (Below.refl _ _).grown hgrow0 (Nat.le_refl _) (fun k h => by cases h)
  clear ho' hgrow0 hdiv
  go_loopw [4, 5, 6, 7] (fun out i _ _ wr => ∃ (k g cap : Nat) (l : List UInt8), k ≤ n ∧ l.length = k ∧ i = .int .i64 (2 * (k : Int)) ∧ out = .slice (some ⟨g, 0, none⟩) k cap ∧ wr.ownsRow w.heap.size 5 1 (.slice (some ⟨g, 0, none⟩) k cap) k (bytesV l) ∧ Kept (unhex s.data.toList = (unhex (s.data.toList.drop (2 * k))).map (l ++ ·)) ∧ Below w.heap.size w wr)
    (fun _ i _ _ _ => 2 * n - (intOf i).toNat)
  case atStart => exact ⟨0, _, n, [], Nat.zero_le _, rfl, rfl, rfl, hown0, ⟨by simp⟩, hb0⟩
  case round =>
    obtain ⟨k, g, cap, l, hk, hl, rfl, rfl, hown, hun, hbel⟩ := hrel
    have hg : w.heap.size ≤ g := (ownsRow_parts hown).1
    by_cases hlt : k < n
    · have hw1 : IntKind.i64.wrap (2 * (k : Int) + 1) = 2 * (k : Int) + 1 := IntWalk.i64_in _ (by omega)
      have hw2 : (2 * (k : Int) + 1).toNat = 2 * k + 1 := by omega
      have hw3 : (2 * (k : Int)).toNat = 2 * k := by omega
      have hi3 : (0 : Int) ≤ 2 * (k : Int) + 1 := by omega
      have hi0 : (0 : Int) ≤ 2 * (k : Int) := by omega
      have hi1 : 2 * (k : Int) < s.size := by omega
      have hi2 : 2 * (k : Int) + 1 < s.size := by omega
      have hbx := hexVal_bd s[2 * k]
      have hby := hexVal_bd s[2 * k + 1]
      have hdr := drop_two s k (by omega)
      by_cases hx : hexVal s[2 * k] < 0
      · have hnone : Kept (unhex s.data.toList = none) := ⟨by rw [hun.out, hdr, unhex, if_pos (.inl hx)]; rfl⟩
        clear hun hdr
        go_wp2
        go_quiet ((go_at_call 48; exact quiet (hexValue_any _)))
        go_wp2
        go_ret2
        exact ⟨by unfold decHexV; rw [hnone.out]; rfl, below_drewN _ hbel⟩
      · by_cases hy : hexVal s[2 * k + 1] < 0
        · have hnone : Kept (unhex s.data.toList = none) := ⟨by rw [hun.out, hdr, unhex, if_pos (.inr hy)]; rfl⟩
          clear hun hdr
          go_wp2
          go_quiet ((go_at_call 48; exact quiet (hexValue_any _)))
          go_wp2
          go_ret2
          exact ⟨by unfold decHexV; rw [hnone.out]; rfl, below_drewN _ hbel⟩
        · obtain ⟨p, hp⟩ := Int.eq_ofNat_of_zero_le (show 0 ≤ hexVal s[2 * k] by omega)
          obtain ⟨q, hq⟩ := Int.eq_ofNat_of_zero_le (show 0 ≤ hexVal s[2 * k + 1] by omega)
          have hstep : Kept (unhex s.data.toList = (unhex (s.data.toList.drop (2 * (k + 1)))).map ((l ++ [UInt8.ofNat (16 * p + q)]) ++ ·)) := ⟨by
            rw [hun.out, hdr, unhex, if_neg (by omega), hp, hq]
            simp [Option.map_map, Function.comp_def]⟩
          have hp15 : p ≤ 15 := by omega
          have hq15 : q ≤ 15 := by omega
          have hjn := i64_join4 p q hp15 hq15
          clear hun hdr hbx hby hx hy
          go_wp2
          go_quiet ((go_at_call 48; exact quiet (hexValue_any _)))
          go_wp2_with (first | (at_builtin; refine wpl_push elemB rfl (.tmp 37) (.tmp 43) rfl rfl ((ownsRow_drewN nq hown).alloc _) rfl (heap_alloc_new _ _) rfl (by omega) ?_; intro g' cap' w1 hown1 hgrow1 hat))
          have hb1 := below_push (below_drewN nq hbel) hgrow1 hg (Nat.le_refl _)
          clear hgrow1 hat
          go_wp2
          go_roundw
          case rel =>
            refine ⟨k + 1, g', cap', l ++ [UInt8.ofNat (16 * p + q)], by omega, by simp [hl], by go_num, rfl, ?_, hstep, hb1⟩
            rw [bytesV_append, ← bytesV_one _ (by omega), show ((16 * p + q : Nat) : Int) = (p : Int) * 16 + q from by omega]
            exact hown1
          case measure => simp [intOf]; omega
    · have hkn : Kept (k = n) := ⟨by omega⟩
      have hi1 : decide (2 * (k : Int) < s.size) = false := decide_eq_false (by omega)
      have hfin : Kept (unhex s.data.toList = some l) := ⟨by
        rw [hun.out, hkn.out, ← hnk.out, List.drop_of_length_le (by simp)]
        simp [unhex]⟩
      have hconv := run_str_of_row (P := Try.prog) (src := 50) (dst := 9) Try.underlying50 Try.underlying5 Try.underlying9 hown
      clear hun hk hlt
      go_wp2
      go_ret2
      exact ⟨by unfold decHexV; rw [hfin.out]; rfl, hbel⟩
end Go.Proofs.Ytpdakognheolnaa
