/- The walk of the law on ParseInt. Conditions: none. -/
import Derived.Test.YtpdakognheolnaaPIntA
namespace Go.Proofs.Ytpdakognheolnaa
open Go.RowKit
theorem walkFnExactParseInt (s : ByteArray) (_h : s.size ≤ maxLen) (w : World) : Calls Try.prog 12 #[.string s] w fun e w' => e = .returned (.bool true) ∧ Below w.heap.size w w' := by
  by_cases hs : s.size ≤ 1048576
  · have hd : decide ((1048576 : Int) < s.size) = false := decide_eq_false (by omega)
    obtain ⟨n, hn⟩ : ∃ n, parseIV s.data.toList = n := ⟨_, rfl⟩
    obtain ⟨v, hv⟩ : ∃ v, parseIOk s.data.toList = v := ⟨_, rfl⟩
    have c1 := parseIntS_any s hs
    have c2 := parseInt_any s hs
    rw [hn, hv] at c1 c2
    have C1 := Lib.hid c1
    have C2 := Lib.hid c2
    clear c1 c2 hn hv
    go_enter Try.func12, Try.ntmps12
    go_wp2_with fail
    refine (C1.out _).mono ?_
    rintro e w1 ⟨rfl, hb1⟩
    go_wp2_with fail
    refine (C2.out _).mono ?_
    rintro e w2 ⟨rfl, hb2⟩
    cases v
    all_goals
      go_wp2
      go_ret
      exact ⟨rfl, hb1.trans (hb2.mono hb1.size)⟩
  · have hd : decide ((1048576 : Int) < s.size) = true := decide_eq_true (by omega)
    go_enter Try.func12, Try.ntmps12
    go_wp2
    go_ret
    exact ⟨rfl, Below.refl _ _⟩
end Go.Proofs.Ytpdakognheolnaa
