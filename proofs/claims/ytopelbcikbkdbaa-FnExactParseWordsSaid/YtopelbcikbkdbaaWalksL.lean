/- The walk of the law on ParseWords. Conditions: none. -/
import Derived.Test.YtopelbcikbkdbaaListE
namespace Go.Proofs.Ytopelbcikbkdbaa
open Go.RowKit

set_option maxHeartbeats 3200000 in
theorem walkFnExactParseWords (a0 : Int) (_ : (Lit.int .i64 a0).wf = true) (a1 : ByteArray) (_ : a1.size ≤ maxLen) (w : World) :
    Calls Try.prog 7 #[.int .i64 a0, .string a1] w fun e w' => e = .returned (.bool true) ∧ Below w.heap.size w w' := by
  by_cases c1 : a1.size ≤ 1048576
  case neg =>
    have c1' : 1048576 < a1.size := by omega
    go_enter Try.func7, Try.ntmps7
    go_wp2
    go_ret
    exact ⟨rfl, Below.refl _ _⟩
  obtain ⟨R, hR⟩ : ∃ R, R = pWs a0 a1.data.toList := ⟨_, rfl⟩
  obtain ⟨V, hV⟩ : ∃ V, V = pOk a0 a1.data.toList := ⟨_, rfl⟩
  have hsh := pWs_short a0 a1.data.toList
  have cS := fun W => parseWordsS_any a0 a1 W c1
  have cI := fun W => parseWords_any a0 a1 W c1
  rw [← hR] at hsh
  rw [← hR, ← hV] at cS cI
  have CS := Lib.hid cS
  have CI := Lib.hid cI
  have hn : R.length ≤ 1048576 := by omega
  have ht : totL R ≤ 1048576 := by omega
  obtain ⟨T, hT⟩ : ∃ T, T = totL R := ⟨_, rfl⟩
  have HT := Lib.hid hT
  have hT4 : T ≤ 40 := by omega
  clear cS cI hR hV hsh hT
  go_enter Try.func7, Try.ntmps7
  go_wp2_with fail
  refine (CS.out _).mono ?_
  rintro e w1 ⟨v_w, rfl, o_w, hb1⟩
  have rw1 := o_w.rows
  have hB1 := hb1
  go_wp2_with fail
  refine (CI.out _).mono ?_
  rintro e w2 ⟨v_g, rfl, o_g, hb2⟩
  have rw2 := rw1.keep hb2
  have rg2 := o_g.rows
  have hB2 := hB1.trans (hb2.mono hB1.size)
  have q1 : Below w1.heap.size w1 w2 := hb2
  clear hb1 hb2
  go_wp2_with fail
  refine (eqIntSS_any _ _ R _ rg2 rw2 hn ht).mono ?_
  rintro e w3 ⟨rfl, hb3⟩
  have o_g3 := o_g.keep hb3
  have hB3 := hB2.trans (hb3.mono hB2.size)
  have q3 := q1.trans (hb3.mono q1.size)
  clear rw2 rg2 hb3
  go_wp2_with fail
  refine (markIntSS_any v_g R w1.heap.size 1 w3 o_g3 (by omega) (by omega) hn q3.size).mono ?_
  rintro e w4 ⟨rfl, o_g4, hb4⟩
  rw [← HT.out]
  have q4 := q3.trans hb4
  have hB4 := hB3.trans (hb4.mono hB1.size)
  clear o_g3 hb4
  go_wp2_with fail
  refine (heldIntSS_any v_g R 1 w4 o_g4.rows (by omega) (by omega) hn).mono ?_
  rintro e w5 ⟨rfl, rfl⟩
  rw [← HT.out]
  go_wp2_with fail
  refine (CI.out _).mono ?_
  rintro e w6 ⟨v_h, rfl, o_h, hb6⟩
  have o_g6 := o_g4.keep hb6
  have q6 := q4.trans (hb6.mono q4.size)
  have hB6 := hB4.trans (hb6.mono hB4.size)
  have rw6 := rw1.keep q6
  have rh6 := o_h.rows
  clear o_g4 hb6
  go_wp2_with fail
  refine (eqIntSS_any _ _ R _ rh6 rw6 hn ht).mono ?_
  rintro e w7 ⟨rfl, hb7⟩
  have o_g7 := o_g6.keep hb7
  have hB7 := hB6.trans (hb7.mono hB6.size)
  go_wp2_with fail
  refine (heldIntSS_any v_g R 1 w7 o_g7.rows (by omega) (by omega) hn).mono ?_
  rintro e w8 ⟨rfl, rfl⟩
  rw [← HT.out]
  go_wp2
  go_ret
  exact ⟨rfl, hB7⟩
end Go.Proofs.Ytopelbcikbkdbaa
