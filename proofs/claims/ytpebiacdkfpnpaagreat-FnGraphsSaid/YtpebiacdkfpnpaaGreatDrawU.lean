/- Contracts of l1Pick and l1Spoil. Conditions: codes of at most 2^20 bytes, texts of at most 200 bytes. -/
import Derived.Test.YtpebiacdkfpnpaaGreatDrawT
import Derived.IntWalk
namespace Go.Proofs.YtpebiacdkfpnpaaGreat
open Go.RowKit

theorem Cur.drewN {w : World} {k : Nat} {A : Option Addr} {len : Nat} (h : Cur w k A len) (n : Nat) : Cur (w.drewN n) k A len := h
theorem grown_drew1 {w w' : World} {row : Option Nat} (h : w.grownBy w' row) : w.grownBy w'.drew row := ⟨h.os, h.tape, h.output, h.size, fun k hk hn => h.block k hk hn⟩
theorem size_one (b : UInt8) : (⟨#[b]⟩ : ByteArray).size = 1 := rfl
theorem l1Pick_any (k : Nat) (A : Option Addr) (len n m b : Nat) (w : World) (h : Cur w k A len) (hb : b ≠ k) (hbl : b < w.heap.size) (hc : ∀ j, j < n → ∃ s : ByteArray, s.size ≤ m ∧ w.cell? ⟨b, 0 + j, none⟩ = some (.string s)) (h0 : 0 < n) (h1 : n ≤ 256) :
    Calls Tryz.prog 56 #[.pointer (some ⟨k, 0, none⟩), .slice (some ⟨b, 0, none⟩) n n] w (RetT w k A len m) := by
  have HB := Lib.hid (l1Below_small k A len n w h h0 h1)
  have HC := Lib.hid hc
  clear hc
  go_enter Tryz.func56, Tryz.ntmps56
  go_wp2_with fail
  refine (HB.out).mono ?_
  rintro e w1 ⟨x, rfl, hx, hc, hg⟩
  obtain ⟨s, hs, c0⟩ := HC.out x hx
  have c1 := (World.cell?_of_block (a := ⟨b, 0 + x, none⟩) (hg.block b hbl (by simpa using hb))).trans c0
  rw [Nat.zero_add] at c1
  have hxI : (x : Int) < (n : Int) := by omega
  clear c0
  go_wp2
  go_ret
  exact ⟨s, rfl, hs, hc, hg⟩
set_option maxHeartbeats 1600000 in
theorem l1Spoil_any (k : Nat) (A : Option Addr) (len m : Nat) (s : ByteArray) (w : World) (h : Cur w k A len) (hs : s.size ≤ m) (hm : m ≤ 200) :
    Calls Tryz.prog 55 #[.pointer (some ⟨k, 0, none⟩), .string s] w (RetT w k A len (m + 3)) := by
  have hk := h.lt
  have HB := Lib.hid (fun n h0 h1 W (hc : Cur W k A len) => l1Below_small k A len n W hc h0 h1)
  have HY := Lib.hid (fun W (hc : Cur W k A len) => l1Byte_any k A len W hc)
  have HT := Lib.hid (l1Text_any k A len 3 w h (by decide))
  have HX := Lib.hid (l1Below_small k A len s.size w h)
  clear h
  by_cases hz : s.size = 0
  · have hzI : ((s.size : Int) == 0) = true := by rw [hz]; rfl
    go_enter Tryz.func55, Tryz.ntmps55
    go_wp2_with fail
    refine (HT.out).mono ?_
    rintro e w1 ⟨x, rfl, hx, hc, hg⟩
    go_wp2
    go_ret
    exact ⟨x, rfl, by omega, hc, hg⟩
  have hzI : ((s.size : Int) == 0) = false := by simp only [beq_eq_false_iff_ne]; omega
  go_enter Tryz.func55, Tryz.ntmps55
  go_wp2_with fail
  refine (HX.out (by omega) (by omega)).mono ?_
  rintro e w1 ⟨x, rfl, hx, hc, hg⟩
  clear hz hzI
  go_wp2_with fail
  refine (HB.out 4 (by decide) (by decide) w1 hc).mono ?_
  rintro e w2 ⟨t, rfl, ht, hc2, hg2⟩
  have hg2' := hg.trans hg2
  clear hc hg hg2
  have hx1 : (x : Int) ≤ (s.size : Int) := by omega
  have hx2 : (x : Int) + 1 ≤ (s.size : Int) := by omega
  have hxs : (x : Int) < (s.size : Int) := by omega
  have hxz : (0 : Int) ≤ (x : Int) := by omega
  have hxz1 : (0 : Int) ≤ (x : Int) + 1 := by omega
  have hw : IntKind.i64.wrap ((x : Int) + 1) = (x : Int) + 1 := IntWalk.i64_in _ (by omega)
  have ht1 : ((x : Int) + 1).toNat = x + 1 := by omega
  have hone : ∀ (z : Int) (W : World), (convert 22 9 (.slice (some ⟨W.heap.size, 0, none⟩) 1 1)).run Tryz.prog (W.alloc (.cells #[.int .u8 (IntKind.u8.wrap z)] 5)) = .ok (.string ⟨[UInt8.ofNat (IntKind.u8.wrap z).toNat].toArray⟩) (W.alloc (.cells #[.int .u8 (IntKind.u8.wrap z)] 5)) := fun z W =>
    run_str_one (P := Tryz.prog) (src := 22) (dst := 9) Tryz.underlying22 Tryz.underlying5 Tryz.underlying9 (IntKind.u8.wrap z) (by rw [IntKind.wrap_u8]; omega) (by rw [IntKind.wrap_u8]; omega) W
  by_cases t0 : t = 0
  · subst t0
    go_wp2
    go_quiet (fail)
    go_wp2
    go_ret
    refine ⟨_, rfl, ?_, hc2.drewN _, grown_drew _ hg2'⟩
    simp [ByteArray.size_append, ByteArray.size_extract]
    omega
  by_cases t1 : t = 1
  · subst t1
    go_wp2
    go_region_with (go_at_call 72; refine (HY.out _ (by assumption)).mono ?_; rintro e w3 ⟨y, rfl, hy, hc3, hg3⟩)
    all_goals
      go_wp2
      go_ret
      refine ⟨_, rfl, ?_, hc3.keep ((Below.refl _ _).alloc (Nat.le_refl _) _), ((grown_drew1 hg2').trans hg3).trans (World.grownBy_alloc _ _ _)⟩
      simp only [ByteArray.size_append, ByteArray.size_extract, size_one]
      omega
  by_cases t2 : t = 2
  · subst t2
    go_wp2
    go_ret
    refine ⟨_, rfl, ?_, hc2, hg2'⟩
    simp [ByteArray.size_extract]
    omega
  have t0I : ¬ (t : Int) = 0 := by omega
  have t1I : ¬ (t : Int) = 1 := by omega
  have t2I : ¬ (t : Int) = 2 := by omega
  go_wp2
  go_region_with (go_at_call 54; refine (HB.out 255 (by decide) (by decide) _ (by assumption)).mono ?_; rintro e w3 ⟨y, rfl, hy, hc3, hg3⟩)
  all_goals
    go_wp2
    go_ret
    refine ⟨_, rfl, ?_, hc3.keep ((Below.refl _ _).alloc (Nat.le_refl _) _), ((grown_drew1 hg2').trans hg3).trans (World.grownBy_alloc _ _ _)⟩
    simp only [ByteArray.size_append, ByteArray.size_extract, size_one]
    omega
end Go.Proofs.YtpebiacdkfpnpaaGreat
