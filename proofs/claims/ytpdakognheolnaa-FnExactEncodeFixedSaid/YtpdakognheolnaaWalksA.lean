/- The walks of the laws on EncodeHex, DecodeFixed, EncodeVarint, EncodeFixed and the constants. Conditions: none. -/
import Derived.Test.YtpdakognheolnaaNumA
namespace Go.Proofs.Ytpdakognheolnaa
open Go.RowKit

theorem walkFnExactConstants (w : World) : Calls Try.prog 3 #[] w fun e w' => e = .returned (.bool true) ∧ Below w.heap.size w w' := by
  go_enter Try.func3, Try.ntmps3
  go_wp2
  go_ret
  exact ⟨rfl, Below.refl _ _⟩

theorem walkFnExactEncodeHex (s : ByteArray) (_h : s.size ≤ maxLen) (w : World) : Calls Try.prog 4 #[.string s] w fun e w' => e = .returned (.bool true) ∧ Below w.heap.size w w' := by
  by_cases hs : s.size ≤ 1048576
  · have hd : decide ((1048576 : Int) < s.size) = false := decide_eq_false (by omega)
    go_enter Try.func4, Try.ntmps4
    go_wp2_with fail
    refine (encodeHexS_any s hs _).mono ?_
    rintro e w1 ⟨rfl, hb1⟩
    go_wp2_with fail
    refine (encodeHex_any s hs _).mono ?_
    rintro e w2 ⟨rfl, hb2⟩
    go_wp2
    go_ret
    exact ⟨rfl, hb1.trans (hb2.mono hb1.size)⟩
  · have hd : decide ((1048576 : Int) < s.size) = true := decide_eq_true (by omega)
    go_enter Try.func4, Try.ntmps4
    go_wp2
    go_ret
    exact ⟨rfl, Below.refl _ _⟩

theorem walkFnExactDecodeFixed (s : ByteArray) (_h : s.size ≤ maxLen) (m : Int) (_wf : (Lit.int .i64 m).wf = true) (w : World) : Calls Try.prog 5 #[.string s, .int .i64 m] w fun e w' => e = .returned (.bool true) ∧ Below w.heap.size w w' := by
  by_cases hs : s.size ≤ 1048576
  · have hd : decide ((1048576 : Int) < s.size) = false := decide_eq_false (by omega)
    by_cases hm : m < 1 ∨ 7 < m ∨ (s.size : Int) < m
    · go_enter Try.func5, Try.ntmps5
      go_wp2_with fail
      refine (decodeFixedS_out s m hm _).mono ?_
      rintro e w1 ⟨rfl, rfl⟩
      go_wp2_with fail
      refine (decodeFixed_out s m hm _).mono ?_
      rintro e w2 ⟨rfl, rfl⟩
      go_wp2
      go_ret
      exact ⟨rfl, Below.refl _ _⟩
    · obtain ⟨n, rfl⟩ := Int.eq_ofNat_of_zero_le (show 0 ≤ m by omega)
      go_enter Try.func5, Try.ntmps5
      go_wp2_with fail
      refine (decodeFixedS_in s n (by omega) (by omega) (by omega) (by omega) _).mono ?_
      rintro e w1 ⟨rfl, rfl⟩
      go_wp2_with fail
      refine (decodeFixed_in s n (by omega) (by omega) (by omega) (by omega) _).mono ?_
      rintro e w2 ⟨rfl, rfl⟩
      go_wp2
      go_ret
      exact ⟨rfl, Below.refl _ _⟩
  · have hd : decide ((1048576 : Int) < s.size) = true := decide_eq_true (by omega)
    go_enter Try.func5, Try.ntmps5
    go_wp2
    go_ret
    exact ⟨rfl, Below.refl _ _⟩

theorem walkFnExactEncodeVarint (n : Int) (_wf : (Lit.int .i64 n).wf = true) (w : World) : Calls Try.prog 6 #[.int .i64 n] w fun e w' => e = .returned (.bool true) ∧ Below w.heap.size w w' := by
  by_cases hn : n < 0 ∨ 562949953421311 < n
  · go_enter Try.func6, Try.ntmps6
    go_wp2_with fail
    refine (encodeVarintS_out n hn _).mono ?_
    rintro e w1 ⟨rfl, rfl⟩
    go_wp2_with fail
    refine (encodeVarint_out n hn _).mono ?_
    rintro e w2 ⟨rfl, rfl⟩
    go_wp2
    go_ret
    exact ⟨rfl, Below.refl _ _⟩
  · obtain ⟨n, rfl⟩ := Int.eq_ofNat_of_zero_le (show 0 ≤ n by omega)
    go_enter Try.func6, Try.ntmps6
    go_wp2_with fail
    refine (encodeVarintS_ok n (by omega) _).mono ?_
    rintro e w1 ⟨rfl, hb1⟩
    go_wp2_with fail
    refine (encodeVarint_ok n (by omega) _).mono ?_
    rintro e w2 ⟨rfl, hb2⟩
    go_wp2
    go_ret
    exact ⟨rfl, hb1.trans (hb2.mono hb1.size)⟩

theorem walkFnExactEncodeFixed (n : Int) (hwf : (Lit.int .i64 n).wf = true) (m : Int) (_wf : (Lit.int .i64 m).wf = true) (w : World) : Calls Try.prog 7 #[.int .i64 n, .int .i64 m] w fun e w' => e = .returned (.bool true) ∧ Below w.heap.size w w' := by
  have hb : n ≤ 9223372036854775807 := by
    simp [Lit.wf, IntKind.min, IntKind.max, IntKind.signed, IntKind.bits] at hwf
    omega
  by_cases hn : m < 1 ∨ 7 < m ∨ n < 0
  · go_enter Try.func7, Try.ntmps7
    go_wp2_with fail
    refine (encodeFixedS_out n m hn _).mono ?_
    rintro e w1 ⟨rfl, rfl⟩
    go_wp2_with fail
    refine (encodeFixed_out n m hn _).mono ?_
    rintro e w2 ⟨rfl, rfl⟩
    go_wp2
    go_ret
    exact ⟨rfl, Below.refl _ _⟩
  · obtain ⟨n, rfl⟩ := Int.eq_ofNat_of_zero_le (show 0 ≤ n by omega)
    obtain ⟨m, rfl⟩ := Int.eq_ofNat_of_zero_le (show 0 ≤ m by omega)
    by_cases hlt : n < 256 ^ m
    · have hf : fixedN n m = encF m n := by simp [fixedN, hlt]
      go_enter Try.func7, Try.ntmps7
      go_wp2_with fail
      refine (encodeFixedS_in n m (by omega) (by omega) (by omega) _).mono ?_
      rintro e w1 ⟨rfl, hb1⟩
      rw [hf]
      go_wp2_with fail
      refine (encodeFixed_in n m (by omega) (by omega) hlt (by omega) _).mono ?_
      rintro e w2 ⟨rfl, hb2⟩
      go_wp2
      go_ret
      exact ⟨rfl, hb1.trans (hb2.mono hb1.size)⟩
    · have hf : fixedN n m = [] := by simp [fixedN, hlt]
      go_enter Try.func7, Try.ntmps7
      go_wp2_with fail
      refine (encodeFixedS_in n m (by omega) (by omega) (by omega) _).mono ?_
      rintro e w1 ⟨rfl, hb1⟩
      rw [hf]
      go_wp2_with fail
      refine (encodeFixed_big n m (by omega) (by omega) (by omega) _).mono ?_
      rintro e w2 ⟨rfl, rfl⟩
      go_wp2
      go_ret
      exact ⟨rfl, hb1⟩
end Go.Proofs.Ytpdakognheolnaa
