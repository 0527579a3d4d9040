/- Draws of numbers and texts; what the walk of a law on a code needs. Conditions: codes of at most 2^20 bytes. -/
import Derived.Test.YtpdakognheolnaaDrawT
namespace Go.Proofs.Ytpdakognheolnaa
open Go.RowKit

theorem big_fits (A : Option Addr) (len cap : Nat) (w : World) (h : (len : Int) ≤ 1048576) : Calls Try.prog 39 #[.slice A len cap] w fun e w' => e = .returned (.bool false) ∧ Below w.heap.size w w' := by
  go_enter Try.func39, Try.ntmps39
  go_wp2
  go_ret
  exact ⟨congrArg (fun b => Ending.returned (.bool b)) (decide_eq_false (by omega)), Below.refl _ _⟩
theorem big_over (A : Option Addr) (len cap : Nat) (w : World) (h : ¬ (len : Int) ≤ 1048576) : Calls Try.prog 39 #[.slice A len cap] w fun e w' => e = .returned (.bool true) ∧ Below w.heap.size w w' := by
  have h1 : (1048576 : Int) < (len : Int) := by omega
  go_enter Try.func39, Try.ntmps39
  go_wp2
  go_ret
  exact ⟨rfl, Below.refl _ _⟩
theorem codeArg_of_row {w : World} {A : Option Addr} {len cap : Nat} {zs : List Int} (h : IsRow .u8 w A len cap zs) : CodeArg w A len := fun h0 => by
  rcases h with ⟨_, rfl, _⟩ | ⟨x, rfl, h1, h2, h3, h4, h5⟩
  · omega
  obtain ⟨b, off, sp⟩ := x
  have c0 := h4 0 (by omega)
  have hb := World.block_lt_of_cell? w _ c0
  have hsp : sp = none := by
    cases sp with
    | none => rfl
    | some s =>
      exfalso
      simp only [Addr.add, if_pos, World.cell?] at c0
      split at c0 <;> simp at c0
  subst hsp
  refine ⟨b, off, rfl, by simpa [Addr.add] using hb, fun j hj => ?_⟩
  have c1 := h4 j (by omega)
  have e1 : (⟨b, off, none⟩ : Addr).add j = ⟨b, off + j, none⟩ := by
    unfold Addr.add
    split
    · next h => subst h; rfl
    · rfl
  rw [e1] at c1
  have hm : zs.getD j 0 ∈ zs := by
    rw [List.getD_eq_getElem?_getD, List.getElem?_eq_getElem (by omega)]
    exact List.getElem_mem _
  have hw := h5 _ hm
  simp [Lit.wf, IntKind.min, IntKind.max, IntKind.signed, IntKind.bits] at hw
  refine ⟨(zs.getD j 0).toNat, ?_, ?_⟩
  · simp only [List.getD_eq_getElem?_getD] at *; omega
  · rw [c1]
    congr 2
    simp only [List.getD_eq_getElem?_getD] at *
    omega
theorem row_cap {w : World} {A : Option Addr} {len cap : Nat} {zs : List Int} (h : IsRow .u8 w A len cap zs) : len ≤ cap := by
  rcases h with ⟨_, rfl, _⟩ | ⟨x, _, h1, _⟩
  · omega
  · exact h1
theorem lit_ne' {w : World} {k n : Nat} (hk : k < w.heap.size) : ∀ b off cap, (Value.slice (some ⟨w.heap.size, 0, none⟩) n n) = .slice (some ⟨b, off, none⟩) n cap → b ≠ k := by
  intro b off cap e
  simp only [Value.slice.injEq, Option.some.injEq, Addr.mk.injEq] at e
  omega
/-- A number is handed back; nothing is turned but the cursor. -/
def RetZ (w : World) (k : Nat) (A : Option Addr) (len : Nat) (e : Ending) (w' : World) : Prop := ∃ x : Int, e = .returned (.int .i64 x) ∧ I64 x ∧ Cur w' k A len ∧ w.grownBy w' (some k)
set_option maxHeartbeats 1600000 in
theorem l1Below_big (k : Nat) (A : Option Addr) (len n : Nat) (w : World) (h : Cur w k A len) (h0 : 256 < n) (h1 : n ≤ 1000000000) : Calls Try.prog 55 #[.pointer (some ⟨k, 0, none⟩), .int .i64 n] w (RetN w k A len n) := by
  have HB := Lib.hid (fun W (hc : Cur W k A len) => l1Byte_any k A len W hc)
  have hn0 : ¬ (n : Int) ≤ 0 := by omega
  have hn1 : ¬ (n : Int) ≤ 256 := by omega
  have hnz : ((n : Int) == 0) = false := by simp; omega
  go_enter Try.func55, Try.ntmps55
  go_wp2_with fail
  refine (HB.out w h).mono ?_
  rintro e w1 ⟨x, rfl, hx, hc1, hg1⟩
  go_wp2_with fail
  refine (HB.out w1 hc1).mono ?_
  rintro e w2 ⟨y, rfl, hy, hc2, hg2⟩
  have hg2' := hg1.trans hg2
  go_wp2_with fail
  refine (HB.out w2 hc2).mono ?_
  rintro e w3 ⟨z, rfl, hz, hc3, hg3⟩
  have hg3' := hg2'.trans hg3
  go_wp2_with fail
  refine (HB.out w3 hc3).mono ?_
  rintro e w4 ⟨u, rfl, hu, hc4, hg4⟩
  have hg4' := hg3'.trans hg4
  go_wp2
  go_ret
  refine ⟨(x * 16777216 + y * 65536 + z * 256 + u) % n, ?_, Nat.mod_lt _ (by omega), hc4, hg4'⟩
  rw [Int.natCast_emod]
  simp
theorem nat64 {n : Nat} (h : n ≤ 4611686018427387904) : I64 (n : Int) := by unfold I64; omega
set_option maxHeartbeats 3200000 in
theorem l1Num_any (k : Nat) (A : Option Addr) (len : Nat) (w : World) (h : Cur w k A len) :
    Calls Try.prog 53 #[.pointer (some ⟨k, 0, none⟩)] w (RetZ w k A len) := by
  have HB := Lib.hid (fun n h0 h1 W (hc : Cur W k A len) => l1Below_big k A len n W hc h0 h1)
  have H8 := Lib.hid (l1Below_small k A len 8 w h (by decide) (by decide))
  go_enter Try.func53, Try.ntmps53
  go_wp2_with fail
  refine (H8.out).mono ?_
  rintro e w1 ⟨t, rfl, ht, hc, hg⟩
  have hkl := hc.lt
  by_cases t0 : t = 0
  · subst t0
    have hb : ∀ x ∈ [-1, 0, 127, 128, 255, 256, 16383, 16384, 65535, 65536, 562949953421311, 562949953421312, 999999999, 1000000000, -999999999, 9223372036854775807, -9223372036854775808], I64 x := fun x hx => by
      simp only [List.mem_cons, List.not_mem_nil, or_false] at hx
      unfold I64
      omega
    have hI := ints_lit w1 [-1, 0, 127, 128, 255, 256, 16383, 16384, 65535, 65536, 562949953421311, 562949953421312, 999999999, 1000000000, -999999999, 9223372036854775807, -9223372036854775808] hb
    have HP := Lib.hid (l1PickInt_any k A len _ _ _ (hc.keep ((Below.refl _ _).alloc (Nat.le_refl _) _)) hI (lit_ne' hkl) (by decide) (by decide))
    have HI := Lib.hid hb
    clear hI hb
    go_wp2_with fail
    refine (HP.out).mono ?_
    rintro e w3 ⟨x, rfl, hx, hc3, hg3⟩
    have hg3' := (grown_below (row := some k) ((Below.refl _ _).alloc (Nat.le_refl _) _)).trans hg3
    have HX := Lib.hid (HI.out x hx)
    clear hx
    go_wp2
    go_ret
    exact ⟨x, rfl, HX.out, hc3, hg.trans hg3'⟩
  by_cases t1 : t = 1
  · subst t1
    go_wp2_with fail
    refine (HB.out 1000000000 (by decide) (by decide) w1 hc).mono ?_
    rintro e w2 ⟨x, rfl, hx, hc2, hg2⟩
    go_wp2_with fail
    refine (HB.out 1000000000 (by decide) (by decide) w2 hc2).mono ?_
    rintro e w3 ⟨y, rfl, hy, hc3, hg3⟩
    have hxy : x * y ≤ 4611686018427387904 := Nat.le_trans (Nat.mul_le_mul (Nat.le_of_lt hx) (Nat.le_of_lt hy)) (by decide)
    obtain ⟨p, hp⟩ : ∃ p, p = x * y := ⟨_, rfl⟩
    rw [← hp] at hxy
    have hm : (x : Int) * (y : Int) = (p : Int) := by rw [hp, Int.natCast_mul]
    clear hp
    go_wp2
    go_ret
    exact ⟨p, rfl, nat64 hxy, hc3, (hg.trans hg2).trans hg3⟩
  by_cases t2 : t = 2
  · subst t2
    go_wp2_with fail
    refine (HB.out 100000 (by decide) (by decide) w1 hc).mono ?_
    rintro e w2 ⟨x, rfl, hx, hc2, hg2⟩
    go_wp2
    go_ret
    exact ⟨-(x : Int), by go_num, by unfold I64; omega, hc2, hg.trans hg2⟩
  have t0I : ¬ (t : Int) = 0 := by omega
  have t1I : ¬ (t : Int) = 1 := by omega
  have t2I : ¬ (t : Int) = 2 := by omega
  go_wp2_with fail
  refine (HB.out 70000 (by decide) (by decide) w1 hc).mono ?_
  rintro e w2 ⟨x, rfl, hx, hc2, hg2⟩
  go_wp2
  go_ret
  exact ⟨x, rfl, by unfold I64; omega, hc2, hg.trans hg2⟩
/-- A number is handed back. -/
def RetI64 (w : World) (e : Ending) (w' : World) : Prop := ∃ x : Int, e = .returned (.int .i64 x) ∧ I64 x ∧ Below w.heap.size w w'
theorem drawEncodeVarint_any (A : Option Addr) (len cap : Nat) (w : World) (h : CodeArg w A len) (hl : len ≤ 1048576) : Calls Try.prog 40 #[.slice A len cap] w (RetI64 w) := by
  have HN := Lib.hid (l1New_any A len cap w h hl)
  clear h
  go_enter Try.func40, Try.ntmps40
  go_wp2_with fail
  refine (HN.out).mono ?_
  rintro e w1 ⟨k, rfl, hk, hc, hB1⟩
  go_wp2_with fail
  refine (l1Num_any k A len w1 hc).mono ?_
  rintro e w2 ⟨x, rfl, hx, hc2, hg2⟩
  have HX := Lib.hid hx
  clear hx
  go_wp2
  go_ret
  exact ⟨x, rfl, HX.out, hB1.trans (below_of_grown hg2 hB1.size hk)⟩
/-- Two numbers are handed back. -/
def RetZZ (w : World) (e : Ending) (w' : World) : Prop := ∃ x y : Int, e = .returned (.tuple #[.int .i64 x, .int .i64 y]) ∧ I64 x ∧ (-1 ≤ y ∧ y ≤ 8) ∧ Below w.heap.size w w'
theorem drawEncodeFixed_any (A : Option Addr) (len cap : Nat) (w : World) (h : CodeArg w A len) (hl : len ≤ 1048576) : Calls Try.prog 42 #[.slice A len cap] w (RetZZ w) := by
  have HN := Lib.hid (l1New_any A len cap w h hl)
  clear h
  go_enter Try.func42, Try.ntmps42
  go_wp2_with fail
  refine (HN.out).mono ?_
  rintro e w1 ⟨k, rfl, hk, hc, hB1⟩
  go_wp2_with fail
  refine (l1Num_any k A len w1 hc).mono ?_
  rintro e w2 ⟨x, rfl, hx, hc2, hg2⟩
  have HX := Lib.hid hx
  clear hx
  have hB2 := hB1.trans (below_of_grown hg2 hB1.size hk)
  go_wp2_with fail
  refine (l1Below_small k A len 10 w2 hc2 (by decide) (by decide)).mono ?_
  rintro e w3 ⟨y, rfl, hy, hc3, hg3⟩
  have hy' : -1 ≤ (y : Int) - 1 ∧ (y : Int) - 1 ≤ 8 := by omega
  have HY := Lib.hid hy'
  clear hy'
  go_wp2
  go_ret2
  exact ⟨x, _, rfl, HX.out, HY.out, hB2.trans (below_of_grown hg3 hB2.size hk)⟩
/-- A text is handed back. -/
def RetS (w : World) (e : Ending) (w' : World) : Prop := ∃ s : ByteArray, e = .returned (.string s) ∧ s.size ≤ 40 ∧ Below w.heap.size w w'
theorem drawEncodeHex_any (A : Option Addr) (len cap : Nat) (w : World) (h : CodeArg w A len) (hl : len ≤ 1048576) : Calls Try.prog 41 #[.slice A len cap] w (RetS w) := by
  have HN := Lib.hid (l1New_any A len cap w h hl)
  clear h
  go_enter Try.func41, Try.ntmps41
  go_wp2_with fail
  refine (HN.out).mono ?_
  rintro e w1 ⟨k, rfl, hk, hc, hB1⟩
  go_wp2_with fail
  refine (l1Text_any k A len 40 w1 hc (by decide)).mono ?_
  rintro e w2 ⟨s, rfl, hs, hc2, hg2⟩
  go_wp2
  go_ret
  exact ⟨s, rfl, hs, hB1.trans (below_of_grown hg2 hB1.size hk)⟩
end Go.Proofs.Ytpdakognheolnaa
