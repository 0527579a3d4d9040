/- The walks of the laws on FormatInt and DecodeHex. Conditions: none. -/
import Derived.Test.YtpdakognheolnaaNumC
import Derived.Test.YtpdakognheolnaaNumD
namespace Go.Proofs.Ytpdakognheolnaa
open Go.RowKit
theorem i64_bounds {x : Int} (h : (Lit.int .i64 x).wf = true) : -9223372036854775808 ≤ x ∧ x ≤ 9223372036854775807 := by
  simp [Lit.wf, IntKind.min, IntKind.max, IntKind.signed, IntKind.bits] at h
  omega
theorem walkFnExactFormatInt (n : Int) (wf : (Lit.int .i64 n).wf = true) (w : World) : Calls Try.prog 9 #[.int .i64 n] w fun e w' => e = .returned (.bool true) ∧ Below w.heap.size w w' := by
  obtain ⟨h1, h2⟩ := i64_bounds wf
  go_enter Try.func9, Try.ntmps9
  go_wp2_with fail
  refine (formatIntS_any n h1 h2 _).mono ?_
  rintro e w1 ⟨rfl, hb1⟩
  go_wp2_with fail
  refine (formatInt_any n h1 h2 _).mono ?_
  rintro e w2 ⟨rfl, hb2⟩
  go_wp2
  go_ret
  exact ⟨rfl, hb1.trans (hb2.mono hb1.size)⟩
theorem decHexV_form (L : List UInt8) : ∃ (l : List UInt8) (b : Bool), decHexV L = .tuple #[.string ⟨l.toArray⟩, .bool b] := by
  unfold decHexV
  cases unhex L with
  | none => exact ⟨[], false, rfl⟩
  | some l => exact ⟨l, true, rfl⟩
theorem walkFnExactDecodeHex (s : ByteArray) (_h : s.size ≤ maxLen) (w : World) : Calls Try.prog 10 #[.string s] w fun e w' => e = .returned (.bool true) ∧ Below w.heap.size w w' := by
  by_cases hs : s.size ≤ 1048576
  · have hd : decide ((1048576 : Int) < s.size) = false := decide_eq_false (by omega)
    obtain ⟨l, b, hv⟩ := decHexV_form s.data.toList
    have c1 : ∀ w, Calls Try.prog 28 #[.string s] w fun e w' => e = .returned (.tuple #[.string ⟨l.toArray⟩, .bool b]) ∧ Below w.heap.size w w' := fun w => by
      rw [← hv]
      by_cases ho : s.size % 2 = 1
      · exact decodeHexS_odd s hs ho w
      · exact decodeHexS_even s (s.size / 2) (by omega) (by omega) w
    have c2 : ∀ w, Calls Try.prog 29 #[.string s] w fun e w' => e = .returned (.tuple #[.string ⟨l.toArray⟩, .bool b]) ∧ Below w.heap.size w w' := fun w => by
      rw [← hv]
      by_cases ho : s.size % 2 = 1
      · exact decodeHex_odd s hs ho w
      · exact decodeHex_even s (s.size / 2) (by omega) (by omega) w
    have C1 := Lib.hid c1
    have C2 := Lib.hid c2
    clear c1 c2 hv
    go_enter Try.func10, Try.ntmps10
    go_wp2_with fail
    refine (C1.out _).mono ?_
    rintro e w1 ⟨rfl, hb1⟩
    go_wp2_with fail
    refine (C2.out _).mono ?_
    rintro e w2 ⟨rfl, hb2⟩
    go_wp2
    go_ret
    exact ⟨rfl, hb1.trans (hb2.mono hb1.size)⟩
  · have hd : decide ((1048576 : Int) < s.size) = true := decide_eq_true (by omega)
    go_enter Try.func10, Try.ntmps10
    go_wp2
    go_ret
    exact ⟨rfl, Below.refl _ _⟩
end Go.Proofs.Ytpdakognheolnaa
