/- The walk of the law FnIntegerEncodings. Conditions: none. -/
import Derived.Test.YtpdakognheolnaaCode
import Derived.Test.YtpdakognheolnaaNumC
import Derived.Test.YtpdakognheolnaaNumLaw
namespace Go.Proofs.Ytpdakognheolnaa
open Go.RowKit

theorem decHex_is (T : List UInt8) (hT : T.length ≤ 40) (w : World) : Calls Try.prog 29 #[.string ⟨(hexL T).toArray⟩] w (RetV w (.tuple #[.string ⟨T.toArray⟩, .bool true])) := by
  have hl := hexL_length T
  have h := decodeHex_even ⟨(hexL T).toArray⟩ T.length (by simp [ByteArray.size, hl]) (by omega) w
  have e : decHexV (hexL T) = .tuple #[.string ⟨T.toArray⟩, .bool true] := by unfold decHexV; rw [unhex_hex]
  exact h.mono (by rintro e' w' ⟨rfl, hb⟩; exact ⟨congrArg Ending.returned e, hb⟩)
theorem varint_cases (n : Int) (T : List UInt8) (hn : I64 n) (hT : T.length ≤ 40) : ∃ (L : List UInt8) (x k : Int), L.length ≤ 7 ∧
    Kept (∀ W, Calls Try.prog 20 #[.int .i64 n] W (RetV W (.string ⟨L.toArray⟩))) ∧ Kept (∀ W, Calls Try.prog 31 #[.string ⟨(L ++ T).toArray⟩] W (RetV W (.tuple #[.int .i64 x, .int .i64 k]))) ∧
    ((L.isEmpty = true ∧ n < 0) ∨ (L.isEmpty = true ∧ 0 ≤ n ∧ 562949953421311 < n) ∨ (L.isEmpty = false ∧ 0 ≤ n ∧ n ≤ 562949953421311 ∧ x = n ∧ k = (L.length : Int))) := by
  by_cases h : n < 0 ∨ 562949953421311 < n
  · obtain ⟨x, k, e⟩ := decVV_form T
    refine ⟨[], x, k, by simp, ⟨fun W => (encodeVarint_out n h W).mono (by rintro e' w' ⟨rfl, rfl⟩; exact ⟨rfl, Below.refl _ _⟩)⟩, ⟨fun W => (decodeVarint_any ⟨T.toArray⟩ (by simp [ByteArray.size]; omega) W).mono (by rintro e' w' ⟨rfl, hb⟩; exact ⟨congrArg Ending.returned e, hb⟩)⟩, ?_⟩
    rcases h with h | h
    · exact .inl ⟨rfl, h⟩
    · exact .inr (.inl ⟨rfl, by omega, h⟩)
  · obtain ⟨m, rfl⟩ := Int.eq_ofNat_of_zero_le (show 0 ≤ n by omega)
    have hm : m ≤ 562949953421311 := by omega
    have h7 := vi_length 6 m (by have : (128 : Nat) ^ 7 = 562949953421312 := by decide
                                 omega)
    obtain ⟨a, b, ev, _, _⟩ := vi_shape m
    refine ⟨vi m, (m : Int), ((vi m).length : Int), h7, ⟨fun W => encodeVarint_ok m hm W⟩, ⟨fun W => (decodeVarint_any ⟨(vi m ++ T).toArray⟩ (by simp [ByteArray.size]; omega) W).mono (by rintro e' w' ⟨rfl, hb⟩; exact ⟨congrArg Ending.returned (dec_vi m T hm), hb⟩)⟩, .inr (.inr ⟨by rw [ev]; simp, by omega, by omega, rfl, rfl⟩)⟩
theorem fixed_cases (v y : Int) (T : List UInt8) (hv : I64 v) (hy : -1 ≤ y ∧ y ≤ 8) (hT : T.length ≤ 40) : ∃ (L M : List UInt8) (x : Int) (B : Bool), L.length ≤ 7 ∧
    Kept (∀ W, Calls Try.prog 22 #[.int .i64 v, .int .i64 y] W (RetV W (.string ⟨L.toArray⟩))) ∧ Kept (∀ W, Calls Try.prog 18 #[.string ⟨(L ++ T).toArray⟩, .int .i64 y] W (RetV W (.tuple #[.int .i64 x, .bool B]))) ∧
    Kept (∀ W, Calls Try.prog 21 #[.int .i64 v, .int .i64 y] W (RetV W (.string ⟨M.toArray⟩))) ∧
    ((L.isEmpty = true ∧ M.isEmpty = true) ∨ (L.isEmpty = false ∧ M.isEmpty = false ∧ B = true ∧ x = v ∧ y = (L.length : Int))) := by
  have hsome : ∃ (x : Int) (B : Bool), ∀ W, Calls Try.prog 18 #[.string ⟨T.toArray⟩, .int .i64 y] W (RetV W (.tuple #[.int .i64 x, .bool B])) := by
    by_cases h : y < 1 ∨ 7 < y ∨ (((⟨T.toArray⟩ : ByteArray).size : Nat) : Int) < y
    · exact ⟨0, false, fun W => (decodeFixed_out ⟨T.toArray⟩ y h W).mono (by rintro e' w' ⟨rfl, rfl⟩; exact ⟨rfl, Below.refl _ _⟩)⟩
    · obtain ⟨m, rfl⟩ := Int.eq_ofNat_of_zero_le (show 0 ≤ y by omega)
      exact ⟨_, true, fun W => (decodeFixed_in ⟨T.toArray⟩ m (by omega) (by omega) (by omega) (by simp [ByteArray.size]; omega) W).mono (by rintro e' w' ⟨rfl, rfl⟩; exact ⟨rfl, Below.refl _ _⟩)⟩
  obtain ⟨x, B, hsome⟩ := hsome
  by_cases h : y < 1 ∨ 7 < y ∨ v < 0
  · exact ⟨[], [], x, B, by simp, ⟨fun W => (encodeFixed_out v y h W).mono (by rintro e' w' ⟨rfl, rfl⟩; exact ⟨rfl, Below.refl _ _⟩)⟩, ⟨hsome⟩, ⟨fun W => (encodeFixedS_out v y h W).mono (by rintro e' w' ⟨rfl, rfl⟩; exact ⟨rfl, Below.refl _ _⟩)⟩, .inl ⟨rfl, rfl⟩⟩
  obtain ⟨m, rfl⟩ := Int.eq_ofNat_of_zero_le (show 0 ≤ y by omega)
  obtain ⟨n, rfl⟩ := Int.eq_ofNat_of_zero_le (show 0 ≤ v by omega)
  have h9 : n ≤ 9223372036854775807 := by have := hv.2; omega
  have hs := encodeFixedS_in n m (by omega) (by omega) h9
  by_cases hlt : n < 256 ^ m
  · have e : fixedN n m = encF m n := by unfold fixedN; rw [if_pos hlt]
    rw [e] at hs
    have hl := encF_length m n
    have hemp : (encF m n).isEmpty = false := by
      cases hh : encF m n with
      | nil => rw [hh] at hl; simp at hl; omega
      | cons a l => rfl
    have hd : decF ((encF m n ++ T).take m) = n := by
      rw [List.take_append_of_le_length (by omega), List.take_of_length_le (by omega), decF_enc, Nat.mod_eq_of_lt hlt]
    refine ⟨encF m n, encF m n, (n : Int), true, by omega, ⟨fun W => encodeFixed_in n m (by omega) (by omega) hlt h9 W⟩, ⟨fun W => (decodeFixed_in ⟨(encF m n ++ T).toArray⟩ m (by omega) (by omega) (by simp [ByteArray.size]; omega) (by simp [ByteArray.size]; omega) W).mono (by
      rintro e' w' ⟨rfl, rfl⟩
      refine ⟨?_, Below.refl _ _⟩
      rw [show (⟨(encF m n ++ T).toArray⟩ : ByteArray).data.toList = encF m n ++ T from rfl, hd])⟩, ⟨fun W => hs W⟩, .inr ⟨hemp, hemp, rfl, rfl, by omega⟩⟩
  · have e : fixedN n m = [] := by unfold fixedN; rw [if_neg hlt]
    rw [e] at hs
    exact ⟨[], [], x, B, by simp, ⟨fun W => (encodeFixed_big n m (by omega) (by omega) (by omega) W).mono (by rintro e' w' ⟨rfl, rfl⟩; exact ⟨rfl, Below.refl _ _⟩)⟩, ⟨hsome⟩, ⟨fun W => hs W⟩, .inl ⟨rfl, rfl⟩⟩
theorem int_cases (v : Int) (hv : I64 v) : ∃ (D : List UInt8) (u : Int) (Q : Bool),
    Kept (∀ W, Calls Try.prog 27 #[.int .i64 v] W (RetV W (.string ⟨D.toArray⟩))) ∧ Kept (∀ W, Calls Try.prog 33 #[.string ⟨D.toArray⟩] W (RetV W (.tuple #[.int .i64 u, .bool Q]))) ∧
    Kept (∀ W, Calls Try.prog 26 #[.int .i64 v] W (RetV W (.string ⟨D.toArray⟩))) ∧
    ((Q = true ∧ u = v ∧ -1000000000 < v ∧ v < 1000000000) ∨ (Q = false ∧ ¬ -1000000000 < v) ∨ (Q = false ∧ -1000000000 < v ∧ ¬ v < 1000000000)) := by
  have hp := parse_fmtI v
  have hsz : (⟨(fmtI v).toArray⟩ : ByteArray).size ≤ 1048576 := by
    have : (fmtI v).length ≤ 20 := by
      have h19 := dig_length 19 v.natAbs (by have : (10 : Nat) ^ 19 = 10000000000000000000 := by decide
                                             have := hv.1; have := hv.2; omega)
      unfold fmtI
      split
      · simp
      · split
        · simp; omega
        · omega
    simp [ByteArray.size]; omega
  refine ⟨fmtI v, parseIV (fmtI v), parseIOk (fmtI v), ⟨fun W => formatInt_any v hv.1 hv.2 W⟩, ⟨fun W => parseInt_any ⟨(fmtI v).toArray⟩ hsz W⟩, ⟨fun W => formatIntS_any v hv.1 hv.2 W⟩, ?_⟩
  by_cases h : -1000000000 < v ∧ v < 1000000000
  · have h1 : parseIOk (fmtI v) = true := by rw [hp.1, decide_eq_true h]
    exact .inl ⟨h1, hp.2 h1, h.1, h.2⟩
  · have h1 : parseIOk (fmtI v) = false := by rw [hp.1, decide_eq_false h]
    by_cases h2 : -1000000000 < v
    · exact .inr (.inr ⟨h1, h2, fun h3 => h ⟨h2, h3⟩⟩)
    · exact .inr (.inl ⟨h1, h2⟩)

set_option maxRecDepth 20000 in
set_option maxHeartbeats 3200000 in
theorem walkFnIntegerEncodings (w : World) (A : Option Addr) (len cap : Nat) (zs : List Int) (hz : IsRow .u8 w A len cap zs) :
    Calls Try.prog 14 #[.slice A len cap] w fun e w' => e = .returned (.bool true) ∧ Below w.heap.size w w' := by
  by_cases c0 : (len : Int) ≤ 1048576
  case neg =>
    go_enter Try.func14, Try.ntmps14
    go_wp2_with fail
    refine (big_over A len cap _ (by omega)).mono ?_
    rintro e w1 ⟨rfl, hb⟩
    go_wp2
    go_ret
    exact ⟨rfl, hb⟩
  have hl : len ≤ 1048576 := by omega
  have hC := codeArg_of_row hz
  have hcap := row_cap hz
  have hB := Below.refl w.heap.size w
  clear hz
  go_enter Try.func14, Try.ntmps14
  go_wp2_with fail
  refine (big_fits A len cap _ c0).mono ?_
  rintro e w1 ⟨rfl, hb⟩
  replace hC := hC.keep hb
  replace hB := hB.trans (hb.mono hB.size)
  clear hb
  go_wp2_with fail
  refine (drawEncodeVarint_any A len cap _ hC hl).mono ?_
  rintro e w2 ⟨n, rfl, hn, hb⟩
  replace hC := hC.keep hb
  replace hB := hB.trans (hb.mono hB.size)
  clear hb
  go_wp2_with fail
  refine (drawEncodeHex_any A len cap _ hC hl).mono ?_
  rintro e w3 ⟨s, rfl, hs, hb⟩
  replace hC := hC.keep hb
  replace hB := hB.trans (hb.mono hB.size)
  clear hb
  obtain ⟨T, rfl⟩ : ∃ T : List UInt8, s = ⟨T.toArray⟩ := ⟨s.data.toList, rfl⟩
  have nT : T.length ≤ 40 := by simpa [ByteArray.size] using hs
  clear hs
  obtain ⟨L, x, k, nL, EV, DV, h1⟩ := varint_cases n T hn nT
  have hadd := fun W => run_add_lists (P := Try.prog) L T (by omega) W
  clear hn
  have hhl := hexL_length T
  have hm2 : wrap64 (2 * (T.length : Int)) = 2 * (T.length : Int) := by unfold wrap64; omega
  clear hhl hm2
  go_wp2_with fail
  refine (EV.out _).mono ?_
  rintro e w4 ⟨rfl, hb⟩
  replace hC := hC.keep hb
  replace hB := hB.trans (hb.mono hB.size)
  clear hb
  go_wp2_with fail
  refine (DV.out _).mono ?_
  rintro e w5 ⟨rfl, hb⟩
  replace hC := hC.keep hb
  replace hB := hB.trans (hb.mono hB.size)
  clear hb
  rcases h1 with ⟨h11, h12⟩ | ⟨h11, h12, h13⟩ | ⟨h11, h12, h13, rfl, rfl⟩
  · go_wp2_with fail
    refine (drawEncodeFixed_any A len cap _ hC hl).mono ?_
    rintro e w6 ⟨v, y, rfl, hv, hy, hb⟩
    replace hC := hC.keep hb
    replace hB := hB.trans (hb.mono hB.size)
    clear hb
    obtain ⟨F, M, z, G, nF, EF, DF, ES, h2⟩ := fixed_cases v y T hv hy nT
    obtain ⟨D, u, Q, DI, DP, DS, h3⟩ := int_cases v hv
    have hadd2 := fun W => run_add_lists (P := Try.prog) F T (by omega) W
    clear hv
    go_wp2_with fail
    refine (EF.out _).mono ?_
    rintro e w7 ⟨rfl, hb⟩
    replace hC := hC.keep hb
    replace hB := hB.trans (hb.mono hB.size)
    clear hb
    go_wp2_with fail
    refine (DF.out _).mono ?_
    rintro e w8 ⟨rfl, hb⟩
    replace hC := hC.keep hb
    replace hB := hB.trans (hb.mono hB.size)
    clear hb
    rcases h2 with ⟨h21, h22⟩ | ⟨h21, h22, rfl, rfl, rfl⟩
    · go_wp2_with fail
      refine (ES.out _).mono ?_
      rintro e w9 ⟨rfl, hb⟩
      replace hC := hC.keep hb
      replace hB := hB.trans (hb.mono hB.size)
      clear hb
      rcases h3 with ⟨rfl, rfl, h31, h32⟩ | ⟨rfl, h31⟩ | ⟨rfl, h31, h32⟩
      · go_wp2_with fail
        refine (encodeHex_any ⟨T.toArray⟩ (by simp [ByteArray.size]; omega) _).mono ?_
        rintro e w10 ⟨rfl, hb⟩
        replace hC := hC.keep hb
        replace hB := hB.trans (hb.mono hB.size)
        clear hb
        go_wp2_with fail
        refine (decHex_is T (by omega) _).mono ?_
        rintro e w11 ⟨rfl, hb⟩
        replace hC := hC.keep hb
        replace hB := hB.trans (hb.mono hB.size)
        clear hb
        go_wp2_with fail
        refine (DI.out _).mono ?_
        rintro e w12 ⟨rfl, hb⟩
        replace hC := hC.keep hb
        replace hB := hB.trans (hb.mono hB.size)
        clear hb
        go_wp2_with fail
        refine (DP.out _).mono ?_
        rintro e w13 ⟨rfl, hb⟩
        replace hC := hC.keep hb
        replace hB := hB.trans (hb.mono hB.size)
        clear hb
        have hlen : ((hexL T).length : Int) = 2 * (T.length : Int) := by have := hexL_length T; omega
        go_wp2_with fail
        refine (DS.out _).mono ?_
        rintro e w14 ⟨rfl, hb⟩
        replace hC := hC.keep hb
        replace hB := hB.trans (hb.mono hB.size)
        clear hb
        go_wp2
        go_ret
        exact ⟨rfl, hB⟩
      · go_wp2_with fail
        refine (encodeHex_any ⟨T.toArray⟩ (by simp [ByteArray.size]; omega) _).mono ?_
        rintro e w10 ⟨rfl, hb⟩
        replace hC := hC.keep hb
        replace hB := hB.trans (hb.mono hB.size)
        clear hb
        go_wp2_with fail
        refine (decHex_is T (by omega) _).mono ?_
        rintro e w11 ⟨rfl, hb⟩
        replace hC := hC.keep hb
        replace hB := hB.trans (hb.mono hB.size)
        clear hb
        go_wp2_with fail
        refine (DI.out _).mono ?_
        rintro e w12 ⟨rfl, hb⟩
        replace hC := hC.keep hb
        replace hB := hB.trans (hb.mono hB.size)
        clear hb
        go_wp2_with fail
        refine (DP.out _).mono ?_
        rintro e w13 ⟨rfl, hb⟩
        replace hC := hC.keep hb
        replace hB := hB.trans (hb.mono hB.size)
        clear hb
        have hlen : ((hexL T).length : Int) = 2 * (T.length : Int) := by have := hexL_length T; omega
        go_wp2_with fail
        refine (DS.out _).mono ?_
        rintro e w14 ⟨rfl, hb⟩
        replace hC := hC.keep hb
        replace hB := hB.trans (hb.mono hB.size)
        clear hb
        go_wp2
        go_ret
        exact ⟨rfl, hB⟩
      · go_wp2_with fail
        refine (encodeHex_any ⟨T.toArray⟩ (by simp [ByteArray.size]; omega) _).mono ?_
        rintro e w10 ⟨rfl, hb⟩
        replace hC := hC.keep hb
        replace hB := hB.trans (hb.mono hB.size)
        clear hb
        go_wp2_with fail
        refine (decHex_is T (by omega) _).mono ?_
        rintro e w11 ⟨rfl, hb⟩
        replace hC := hC.keep hb
        replace hB := hB.trans (hb.mono hB.size)
        clear hb
        go_wp2_with fail
        refine (DI.out _).mono ?_
        rintro e w12 ⟨rfl, hb⟩
        replace hC := hC.keep hb
        replace hB := hB.trans (hb.mono hB.size)
        clear hb
        go_wp2_with fail
        refine (DP.out _).mono ?_
        rintro e w13 ⟨rfl, hb⟩
        replace hC := hC.keep hb
        replace hB := hB.trans (hb.mono hB.size)
        clear hb
        have hlen : ((hexL T).length : Int) = 2 * (T.length : Int) := by have := hexL_length T; omega
        go_wp2_with fail
        refine (DS.out _).mono ?_
        rintro e w14 ⟨rfl, hb⟩
        replace hC := hC.keep hb
        replace hB := hB.trans (hb.mono hB.size)
        clear hb
        have hd := decide_eq_false (Int.not_lt.2 h32)
        go_wp2
        go_ret
        exact ⟨rfl, hB⟩
    · go_wp2_with fail
      refine (ES.out _).mono ?_
      rintro e w9 ⟨rfl, hb⟩
      replace hC := hC.keep hb
      replace hB := hB.trans (hb.mono hB.size)
      clear hb
      rcases h3 with ⟨rfl, rfl, h31, h32⟩ | ⟨rfl, h31⟩ | ⟨rfl, h31, h32⟩
      · go_wp2_with fail
        refine (encodeHex_any ⟨T.toArray⟩ (by simp [ByteArray.size]; omega) _).mono ?_
        rintro e w10 ⟨rfl, hb⟩
        replace hC := hC.keep hb
        replace hB := hB.trans (hb.mono hB.size)
        clear hb
        go_wp2_with fail
        refine (decHex_is T (by omega) _).mono ?_
        rintro e w11 ⟨rfl, hb⟩
        replace hC := hC.keep hb
        replace hB := hB.trans (hb.mono hB.size)
        clear hb
        go_wp2_with fail
        refine (DI.out _).mono ?_
        rintro e w12 ⟨rfl, hb⟩
        replace hC := hC.keep hb
        replace hB := hB.trans (hb.mono hB.size)
        clear hb
        go_wp2_with fail
        refine (DP.out _).mono ?_
        rintro e w13 ⟨rfl, hb⟩
        replace hC := hC.keep hb
        replace hB := hB.trans (hb.mono hB.size)
        clear hb
        have hlen : ((hexL T).length : Int) = 2 * (T.length : Int) := by have := hexL_length T; omega
        go_wp2_with fail
        refine (DS.out _).mono ?_
        rintro e w14 ⟨rfl, hb⟩
        replace hC := hC.keep hb
        replace hB := hB.trans (hb.mono hB.size)
        clear hb
        go_wp2
        go_ret
        exact ⟨rfl, hB⟩
      · go_wp2_with fail
        refine (encodeHex_any ⟨T.toArray⟩ (by simp [ByteArray.size]; omega) _).mono ?_
        rintro e w10 ⟨rfl, hb⟩
        replace hC := hC.keep hb
        replace hB := hB.trans (hb.mono hB.size)
        clear hb
        go_wp2_with fail
        refine (decHex_is T (by omega) _).mono ?_
        rintro e w11 ⟨rfl, hb⟩
        replace hC := hC.keep hb
        replace hB := hB.trans (hb.mono hB.size)
        clear hb
        go_wp2_with fail
        refine (DI.out _).mono ?_
        rintro e w12 ⟨rfl, hb⟩
        replace hC := hC.keep hb
        replace hB := hB.trans (hb.mono hB.size)
        clear hb
        go_wp2_with fail
        refine (DP.out _).mono ?_
        rintro e w13 ⟨rfl, hb⟩
        replace hC := hC.keep hb
        replace hB := hB.trans (hb.mono hB.size)
        clear hb
        have hlen : ((hexL T).length : Int) = 2 * (T.length : Int) := by have := hexL_length T; omega
        go_wp2_with fail
        refine (DS.out _).mono ?_
        rintro e w14 ⟨rfl, hb⟩
        replace hC := hC.keep hb
        replace hB := hB.trans (hb.mono hB.size)
        clear hb
        go_wp2
        go_ret
        exact ⟨rfl, hB⟩
      · go_wp2_with fail
        refine (encodeHex_any ⟨T.toArray⟩ (by simp [ByteArray.size]; omega) _).mono ?_
        rintro e w10 ⟨rfl, hb⟩
        replace hC := hC.keep hb
        replace hB := hB.trans (hb.mono hB.size)
        clear hb
        go_wp2_with fail
        refine (decHex_is T (by omega) _).mono ?_
        rintro e w11 ⟨rfl, hb⟩
        replace hC := hC.keep hb
        replace hB := hB.trans (hb.mono hB.size)
        clear hb
        go_wp2_with fail
        refine (DI.out _).mono ?_
        rintro e w12 ⟨rfl, hb⟩
        replace hC := hC.keep hb
        replace hB := hB.trans (hb.mono hB.size)
        clear hb
        go_wp2_with fail
        refine (DP.out _).mono ?_
        rintro e w13 ⟨rfl, hb⟩
        replace hC := hC.keep hb
        replace hB := hB.trans (hb.mono hB.size)
        clear hb
        have hlen : ((hexL T).length : Int) = 2 * (T.length : Int) := by have := hexL_length T; omega
        go_wp2_with fail
        refine (DS.out _).mono ?_
        rintro e w14 ⟨rfl, hb⟩
        replace hC := hC.keep hb
        replace hB := hB.trans (hb.mono hB.size)
        clear hb
        have hd := decide_eq_false (Int.not_lt.2 h32)
        go_wp2
        go_ret
        exact ⟨rfl, hB⟩
  · go_wp2_with fail
    refine (drawEncodeFixed_any A len cap _ hC hl).mono ?_
    rintro e w6 ⟨v, y, rfl, hv, hy, hb⟩
    replace hC := hC.keep hb
    replace hB := hB.trans (hb.mono hB.size)
    clear hb
    obtain ⟨F, M, z, G, nF, EF, DF, ES, h2⟩ := fixed_cases v y T hv hy nT
    obtain ⟨D, u, Q, DI, DP, DS, h3⟩ := int_cases v hv
    have hadd2 := fun W => run_add_lists (P := Try.prog) F T (by omega) W
    clear hv
    go_wp2_with fail
    refine (EF.out _).mono ?_
    rintro e w7 ⟨rfl, hb⟩
    replace hC := hC.keep hb
    replace hB := hB.trans (hb.mono hB.size)
    clear hb
    go_wp2_with fail
    refine (DF.out _).mono ?_
    rintro e w8 ⟨rfl, hb⟩
    replace hC := hC.keep hb
    replace hB := hB.trans (hb.mono hB.size)
    clear hb
    rcases h2 with ⟨h21, h22⟩ | ⟨h21, h22, rfl, rfl, rfl⟩
    · go_wp2_with fail
      refine (ES.out _).mono ?_
      rintro e w9 ⟨rfl, hb⟩
      replace hC := hC.keep hb
      replace hB := hB.trans (hb.mono hB.size)
      clear hb
      rcases h3 with ⟨rfl, rfl, h31, h32⟩ | ⟨rfl, h31⟩ | ⟨rfl, h31, h32⟩
      · go_wp2_with fail
        refine (encodeHex_any ⟨T.toArray⟩ (by simp [ByteArray.size]; omega) _).mono ?_
        rintro e w10 ⟨rfl, hb⟩
        replace hC := hC.keep hb
        replace hB := hB.trans (hb.mono hB.size)
        clear hb
        go_wp2_with fail
        refine (decHex_is T (by omega) _).mono ?_
        rintro e w11 ⟨rfl, hb⟩
        replace hC := hC.keep hb
        replace hB := hB.trans (hb.mono hB.size)
        clear hb
        go_wp2_with fail
        refine (DI.out _).mono ?_
        rintro e w12 ⟨rfl, hb⟩
        replace hC := hC.keep hb
        replace hB := hB.trans (hb.mono hB.size)
        clear hb
        go_wp2_with fail
        refine (DP.out _).mono ?_
        rintro e w13 ⟨rfl, hb⟩
        replace hC := hC.keep hb
        replace hB := hB.trans (hb.mono hB.size)
        clear hb
        have hlen : ((hexL T).length : Int) = 2 * (T.length : Int) := by have := hexL_length T; omega
        go_wp2_with fail
        refine (DS.out _).mono ?_
        rintro e w14 ⟨rfl, hb⟩
        replace hC := hC.keep hb
        replace hB := hB.trans (hb.mono hB.size)
        clear hb
        go_wp2
        go_ret
        exact ⟨rfl, hB⟩
      · go_wp2_with fail
        refine (encodeHex_any ⟨T.toArray⟩ (by simp [ByteArray.size]; omega) _).mono ?_
        rintro e w10 ⟨rfl, hb⟩
        replace hC := hC.keep hb
        replace hB := hB.trans (hb.mono hB.size)
        clear hb
        go_wp2_with fail
        refine (decHex_is T (by omega) _).mono ?_
        rintro e w11 ⟨rfl, hb⟩
        replace hC := hC.keep hb
        replace hB := hB.trans (hb.mono hB.size)
        clear hb
        go_wp2_with fail
        refine (DI.out _).mono ?_
        rintro e w12 ⟨rfl, hb⟩
        replace hC := hC.keep hb
        replace hB := hB.trans (hb.mono hB.size)
        clear hb
        go_wp2_with fail
        refine (DP.out _).mono ?_
        rintro e w13 ⟨rfl, hb⟩
        replace hC := hC.keep hb
        replace hB := hB.trans (hb.mono hB.size)
        clear hb
        have hlen : ((hexL T).length : Int) = 2 * (T.length : Int) := by have := hexL_length T; omega
        go_wp2_with fail
        refine (DS.out _).mono ?_
        rintro e w14 ⟨rfl, hb⟩
        replace hC := hC.keep hb
        replace hB := hB.trans (hb.mono hB.size)
        clear hb
        go_wp2
        go_ret
        exact ⟨rfl, hB⟩
      · go_wp2_with fail
        refine (encodeHex_any ⟨T.toArray⟩ (by simp [ByteArray.size]; omega) _).mono ?_
        rintro e w10 ⟨rfl, hb⟩
        replace hC := hC.keep hb
        replace hB := hB.trans (hb.mono hB.size)
        clear hb
        go_wp2_with fail
        refine (decHex_is T (by omega) _).mono ?_
        rintro e w11 ⟨rfl, hb⟩
        replace hC := hC.keep hb
        replace hB := hB.trans (hb.mono hB.size)
        clear hb
        go_wp2_with fail
        refine (DI.out _).mono ?_
        rintro e w12 ⟨rfl, hb⟩
        replace hC := hC.keep hb
        replace hB := hB.trans (hb.mono hB.size)
        clear hb
        go_wp2_with fail
        refine (DP.out _).mono ?_
        rintro e w13 ⟨rfl, hb⟩
        replace hC := hC.keep hb
        replace hB := hB.trans (hb.mono hB.size)
        clear hb
        have hlen : ((hexL T).length : Int) = 2 * (T.length : Int) := by have := hexL_length T; omega
        go_wp2_with fail
        refine (DS.out _).mono ?_
        rintro e w14 ⟨rfl, hb⟩
        replace hC := hC.keep hb
        replace hB := hB.trans (hb.mono hB.size)
        clear hb
        have hd := decide_eq_false (Int.not_lt.2 h32)
        go_wp2
        go_ret
        exact ⟨rfl, hB⟩
    · go_wp2_with fail
      refine (ES.out _).mono ?_
      rintro e w9 ⟨rfl, hb⟩
      replace hC := hC.keep hb
      replace hB := hB.trans (hb.mono hB.size)
      clear hb
      rcases h3 with ⟨rfl, rfl, h31, h32⟩ | ⟨rfl, h31⟩ | ⟨rfl, h31, h32⟩
      · go_wp2_with fail
        refine (encodeHex_any ⟨T.toArray⟩ (by simp [ByteArray.size]; omega) _).mono ?_
        rintro e w10 ⟨rfl, hb⟩
        replace hC := hC.keep hb
        replace hB := hB.trans (hb.mono hB.size)
        clear hb
        go_wp2_with fail
        refine (decHex_is T (by omega) _).mono ?_
        rintro e w11 ⟨rfl, hb⟩
        replace hC := hC.keep hb
        replace hB := hB.trans (hb.mono hB.size)
        clear hb
        go_wp2_with fail
        refine (DI.out _).mono ?_
        rintro e w12 ⟨rfl, hb⟩
        replace hC := hC.keep hb
        replace hB := hB.trans (hb.mono hB.size)
        clear hb
        go_wp2_with fail
        refine (DP.out _).mono ?_
        rintro e w13 ⟨rfl, hb⟩
        replace hC := hC.keep hb
        replace hB := hB.trans (hb.mono hB.size)
        clear hb
        have hlen : ((hexL T).length : Int) = 2 * (T.length : Int) := by have := hexL_length T; omega
        go_wp2_with fail
        refine (DS.out _).mono ?_
        rintro e w14 ⟨rfl, hb⟩
        replace hC := hC.keep hb
        replace hB := hB.trans (hb.mono hB.size)
        clear hb
        go_wp2
        go_ret
        exact ⟨rfl, hB⟩
      · go_wp2_with fail
        refine (encodeHex_any ⟨T.toArray⟩ (by simp [ByteArray.size]; omega) _).mono ?_
        rintro e w10 ⟨rfl, hb⟩
        replace hC := hC.keep hb
        replace hB := hB.trans (hb.mono hB.size)
        clear hb
        go_wp2_with fail
        refine (decHex_is T (by omega) _).mono ?_
        rintro e w11 ⟨rfl, hb⟩
        replace hC := hC.keep hb
        replace hB := hB.trans (hb.mono hB.size)
        clear hb
        go_wp2_with fail
        refine (DI.out _).mono ?_
        rintro e w12 ⟨rfl, hb⟩
        replace hC := hC.keep hb
        replace hB := hB.trans (hb.mono hB.size)
        clear hb
        go_wp2_with fail
        refine (DP.out _).mono ?_
        rintro e w13 ⟨rfl, hb⟩
        replace hC := hC.keep hb
        replace hB := hB.trans (hb.mono hB.size)
        clear hb
        have hlen : ((hexL T).length : Int) = 2 * (T.length : Int) := by have := hexL_length T; omega
        go_wp2_with fail
        refine (DS.out _).mono ?_
        rintro e w14 ⟨rfl, hb⟩
        replace hC := hC.keep hb
        replace hB := hB.trans (hb.mono hB.size)
        clear hb
        go_wp2
        go_ret
        exact ⟨rfl, hB⟩
      · go_wp2_with fail
        refine (encodeHex_any ⟨T.toArray⟩ (by simp [ByteArray.size]; omega) _).mono ?_
        rintro e w10 ⟨rfl, hb⟩
        replace hC := hC.keep hb
        replace hB := hB.trans (hb.mono hB.size)
        clear hb
        go_wp2_with fail
        refine (decHex_is T (by omega) _).mono ?_
        rintro e w11 ⟨rfl, hb⟩
        replace hC := hC.keep hb
        replace hB := hB.trans (hb.mono hB.size)
        clear hb
        go_wp2_with fail
        refine (DI.out _).mono ?_
        rintro e w12 ⟨rfl, hb⟩
        replace hC := hC.keep hb
        replace hB := hB.trans (hb.mono hB.size)
        clear hb
        go_wp2_with fail
        refine (DP.out _).mono ?_
        rintro e w13 ⟨rfl, hb⟩
        replace hC := hC.keep hb
        replace hB := hB.trans (hb.mono hB.size)
        clear hb
        have hlen : ((hexL T).length : Int) = 2 * (T.length : Int) := by have := hexL_length T; omega
        go_wp2_with fail
        refine (DS.out _).mono ?_
        rintro e w14 ⟨rfl, hb⟩
        replace hC := hC.keep hb
        replace hB := hB.trans (hb.mono hB.size)
        clear hb
        have hd := decide_eq_false (Int.not_lt.2 h32)
        go_wp2
        go_ret
        exact ⟨rfl, hB⟩
  · go_wp2_with fail
    refine (drawEncodeFixed_any A len cap _ hC hl).mono ?_
    rintro e w6 ⟨v, y, rfl, hv, hy, hb⟩
    replace hC := hC.keep hb
    replace hB := hB.trans (hb.mono hB.size)
    clear hb
    obtain ⟨F, M, z, G, nF, EF, DF, ES, h2⟩ := fixed_cases v y T hv hy nT
    obtain ⟨D, u, Q, DI, DP, DS, h3⟩ := int_cases v hv
    have hadd2 := fun W => run_add_lists (P := Try.prog) F T (by omega) W
    clear hv
    go_wp2_with fail
    refine (EF.out _).mono ?_
    rintro e w7 ⟨rfl, hb⟩
    replace hC := hC.keep hb
    replace hB := hB.trans (hb.mono hB.size)
    clear hb
    go_wp2_with fail
    refine (DF.out _).mono ?_
    rintro e w8 ⟨rfl, hb⟩
    replace hC := hC.keep hb
    replace hB := hB.trans (hb.mono hB.size)
    clear hb
    rcases h2 with ⟨h21, h22⟩ | ⟨h21, h22, rfl, rfl, rfl⟩
    · go_wp2_with fail
      refine (ES.out _).mono ?_
      rintro e w9 ⟨rfl, hb⟩
      replace hC := hC.keep hb
      replace hB := hB.trans (hb.mono hB.size)
      clear hb
      rcases h3 with ⟨rfl, rfl, h31, h32⟩ | ⟨rfl, h31⟩ | ⟨rfl, h31, h32⟩
      · go_wp2_with fail
        refine (encodeHex_any ⟨T.toArray⟩ (by simp [ByteArray.size]; omega) _).mono ?_
        rintro e w10 ⟨rfl, hb⟩
        replace hC := hC.keep hb
        replace hB := hB.trans (hb.mono hB.size)
        clear hb
        go_wp2_with fail
        refine (decHex_is T (by omega) _).mono ?_
        rintro e w11 ⟨rfl, hb⟩
        replace hC := hC.keep hb
        replace hB := hB.trans (hb.mono hB.size)
        clear hb
        go_wp2_with fail
        refine (DI.out _).mono ?_
        rintro e w12 ⟨rfl, hb⟩
        replace hC := hC.keep hb
        replace hB := hB.trans (hb.mono hB.size)
        clear hb
        go_wp2_with fail
        refine (DP.out _).mono ?_
        rintro e w13 ⟨rfl, hb⟩
        replace hC := hC.keep hb
        replace hB := hB.trans (hb.mono hB.size)
        clear hb
        have hlen : ((hexL T).length : Int) = 2 * (T.length : Int) := by have := hexL_length T; omega
        go_wp2_with fail
        refine (DS.out _).mono ?_
        rintro e w14 ⟨rfl, hb⟩
        replace hC := hC.keep hb
        replace hB := hB.trans (hb.mono hB.size)
        clear hb
        go_wp2
        go_ret
        exact ⟨rfl, hB⟩
      · go_wp2_with fail
        refine (encodeHex_any ⟨T.toArray⟩ (by simp [ByteArray.size]; omega) _).mono ?_
        rintro e w10 ⟨rfl, hb⟩
        replace hC := hC.keep hb
        replace hB := hB.trans (hb.mono hB.size)
        clear hb
        go_wp2_with fail
        refine (decHex_is T (by omega) _).mono ?_
        rintro e w11 ⟨rfl, hb⟩
        replace hC := hC.keep hb
        replace hB := hB.trans (hb.mono hB.size)
        clear hb
        go_wp2_with fail
        refine (DI.out _).mono ?_
        rintro e w12 ⟨rfl, hb⟩
        replace hC := hC.keep hb
        replace hB := hB.trans (hb.mono hB.size)
        clear hb
        go_wp2_with fail
        refine (DP.out _).mono ?_
        rintro e w13 ⟨rfl, hb⟩
        replace hC := hC.keep hb
        replace hB := hB.trans (hb.mono hB.size)
        clear hb
        have hlen : ((hexL T).length : Int) = 2 * (T.length : Int) := by have := hexL_length T; omega
        go_wp2_with fail
        refine (DS.out _).mono ?_
        rintro e w14 ⟨rfl, hb⟩
        replace hC := hC.keep hb
        replace hB := hB.trans (hb.mono hB.size)
        clear hb
        go_wp2
        go_ret
        exact ⟨rfl, hB⟩
      · go_wp2_with fail
        refine (encodeHex_any ⟨T.toArray⟩ (by simp [ByteArray.size]; omega) _).mono ?_
        rintro e w10 ⟨rfl, hb⟩
        replace hC := hC.keep hb
        replace hB := hB.trans (hb.mono hB.size)
        clear hb
        go_wp2_with fail
        refine (decHex_is T (by omega) _).mono ?_
        rintro e w11 ⟨rfl, hb⟩
        replace hC := hC.keep hb
        replace hB := hB.trans (hb.mono hB.size)
        clear hb
        go_wp2_with fail
        refine (DI.out _).mono ?_
        rintro e w12 ⟨rfl, hb⟩
        replace hC := hC.keep hb
        replace hB := hB.trans (hb.mono hB.size)
        clear hb
        go_wp2_with fail
        refine (DP.out _).mono ?_
        rintro e w13 ⟨rfl, hb⟩
        replace hC := hC.keep hb
        replace hB := hB.trans (hb.mono hB.size)
        clear hb
        have hlen : ((hexL T).length : Int) = 2 * (T.length : Int) := by have := hexL_length T; omega
        go_wp2_with fail
        refine (DS.out _).mono ?_
        rintro e w14 ⟨rfl, hb⟩
        replace hC := hC.keep hb
        replace hB := hB.trans (hb.mono hB.size)
        clear hb
        have hd := decide_eq_false (Int.not_lt.2 h32)
        go_wp2
        go_ret
        exact ⟨rfl, hB⟩
    · go_wp2_with fail
      refine (ES.out _).mono ?_
      rintro e w9 ⟨rfl, hb⟩
      replace hC := hC.keep hb
      replace hB := hB.trans (hb.mono hB.size)
      clear hb
      rcases h3 with ⟨rfl, rfl, h31, h32⟩ | ⟨rfl, h31⟩ | ⟨rfl, h31, h32⟩
      · go_wp2_with fail
        refine (encodeHex_any ⟨T.toArray⟩ (by simp [ByteArray.size]; omega) _).mono ?_
        rintro e w10 ⟨rfl, hb⟩
        replace hC := hC.keep hb
        replace hB := hB.trans (hb.mono hB.size)
        clear hb
        go_wp2_with fail
        refine (decHex_is T (by omega) _).mono ?_
        rintro e w11 ⟨rfl, hb⟩
        replace hC := hC.keep hb
        replace hB := hB.trans (hb.mono hB.size)
        clear hb
        go_wp2_with fail
        refine (DI.out _).mono ?_
        rintro e w12 ⟨rfl, hb⟩
        replace hC := hC.keep hb
        replace hB := hB.trans (hb.mono hB.size)
        clear hb
        go_wp2_with fail
        refine (DP.out _).mono ?_
        rintro e w13 ⟨rfl, hb⟩
        replace hC := hC.keep hb
        replace hB := hB.trans (hb.mono hB.size)
        clear hb
        have hlen : ((hexL T).length : Int) = 2 * (T.length : Int) := by have := hexL_length T; omega
        go_wp2_with fail
        refine (DS.out _).mono ?_
        rintro e w14 ⟨rfl, hb⟩
        replace hC := hC.keep hb
        replace hB := hB.trans (hb.mono hB.size)
        clear hb
        go_wp2
        go_ret
        exact ⟨rfl, hB⟩
      · go_wp2_with fail
        refine (encodeHex_any ⟨T.toArray⟩ (by simp [ByteArray.size]; omega) _).mono ?_
        rintro e w10 ⟨rfl, hb⟩
        replace hC := hC.keep hb
        replace hB := hB.trans (hb.mono hB.size)
        clear hb
        go_wp2_with fail
        refine (decHex_is T (by omega) _).mono ?_
        rintro e w11 ⟨rfl, hb⟩
        replace hC := hC.keep hb
        replace hB := hB.trans (hb.mono hB.size)
        clear hb
        go_wp2_with fail
        refine (DI.out _).mono ?_
        rintro e w12 ⟨rfl, hb⟩
        replace hC := hC.keep hb
        replace hB := hB.trans (hb.mono hB.size)
        clear hb
        go_wp2_with fail
        refine (DP.out _).mono ?_
        rintro e w13 ⟨rfl, hb⟩
        replace hC := hC.keep hb
        replace hB := hB.trans (hb.mono hB.size)
        clear hb
        have hlen : ((hexL T).length : Int) = 2 * (T.length : Int) := by have := hexL_length T; omega
        go_wp2_with fail
        refine (DS.out _).mono ?_
        rintro e w14 ⟨rfl, hb⟩
        replace hC := hC.keep hb
        replace hB := hB.trans (hb.mono hB.size)
        clear hb
        go_wp2
        go_ret
        exact ⟨rfl, hB⟩
      · go_wp2_with fail
        refine (encodeHex_any ⟨T.toArray⟩ (by simp [ByteArray.size]; omega) _).mono ?_
        rintro e w10 ⟨rfl, hb⟩
        replace hC := hC.keep hb
        replace hB := hB.trans (hb.mono hB.size)
        clear hb
        go_wp2_with fail
        refine (decHex_is T (by omega) _).mono ?_
        rintro e w11 ⟨rfl, hb⟩
        replace hC := hC.keep hb
        replace hB := hB.trans (hb.mono hB.size)
        clear hb
        go_wp2_with fail
        refine (DI.out _).mono ?_
        rintro e w12 ⟨rfl, hb⟩
        replace hC := hC.keep hb
        replace hB := hB.trans (hb.mono hB.size)
        clear hb
        go_wp2_with fail
        refine (DP.out _).mono ?_
        rintro e w13 ⟨rfl, hb⟩
        replace hC := hC.keep hb
        replace hB := hB.trans (hb.mono hB.size)
        clear hb
        have hlen : ((hexL T).length : Int) = 2 * (T.length : Int) := by have := hexL_length T; omega
        go_wp2_with fail
        refine (DS.out _).mono ?_
        rintro e w14 ⟨rfl, hb⟩
        replace hC := hC.keep hb
        replace hB := hB.trans (hb.mono hB.size)
        clear hb
        have hd := decide_eq_false (Int.not_lt.2 h32)
        go_wp2
        go_ret
        exact ⟨rfl, hB⟩
end Go.Proofs.Ytpdakognheolnaa
