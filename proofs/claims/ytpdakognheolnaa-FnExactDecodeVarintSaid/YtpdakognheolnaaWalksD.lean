/- The walk of the law on DecodeVarint. Conditions: none. -/
import Derived.Test.YtpdakognheolnaaNumE
namespace Go.Proofs.Ytpdakognheolnaa
open Go.RowKit
theorem decGo_form (L : List UInt8) : ∀ (f k : Nat), ∃ n m : Nat, decGo L f k = .tuple #[.int .i64 n, .int .i64 m]
  | 0, _ => ⟨0, 0, rfl⟩
  | f + 1, k => by
    cases h : hit L k with
    | true => exact ⟨_, _, decGo_hit h⟩
    | false => rw [decGo_miss h]; exact decGo_form L f (k + 1)
theorem walkFnExactDecodeVarint (s : ByteArray) (_h : s.size ≤ maxLen) (w : World) : Calls Try.prog 11 #[.string s] w fun e w' => e = .returned (.bool true) ∧ Below w.heap.size w w' := by
  by_cases hs : s.size ≤ 1048576
  · have hd : decide ((1048576 : Int) < s.size) = false := decide_eq_false (by omega)
    obtain ⟨n, m, hv⟩ : ∃ n m : Nat, decVV s.data.toList = .tuple #[.int .i64 n, .int .i64 m] := decGo_form _ _ _
    have c1 := decodeVarintS_any s hs
    have c2 := decodeVarint_any s hs
    rw [hv] at c1 c2
    have C1 := Lib.hid c1
    have C2 := Lib.hid c2
    clear c1 c2 hv
    go_enter Try.func11, Try.ntmps11
    go_wp2_with fail
    refine (C1.out _).mono ?_
    rintro e w1 ⟨rfl, hb1⟩
    go_wp2_with fail
    refine (C2.out _).mono ?_
    rintro e w2 ⟨rfl, hb2⟩
    go_wp2
    go_ret
    exact ⟨rfl, hb1.trans (hb2.mono hb1.size)⟩
  · have hd : decide ((1048576 : Int) < s.size) = true := decide_eq_true (by omega)
    go_enter Try.func11, Try.ntmps11
    go_wp2
    go_ret
    exact ⟨rfl, Below.refl _ _⟩
end Go.Proofs.Ytpdakognheolnaa
