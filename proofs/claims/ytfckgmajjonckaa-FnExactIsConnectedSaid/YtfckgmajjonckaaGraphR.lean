/- Contract of joined. Conditions: at most 40 vertices and 120 edges. -/
import Derived.Test.YtfckgmajjonckaaBools
namespace Go.Proofs.Ytfckgmajjonckaa
open Go.RowKit

/-- Flags in new memory are handed back, those of the numbers R. -/
def RetSeen (w : World) (N : Nat) (R : List Int) (e : Ending) (w' : World) : Prop := ∃ g b, e = .returned (.slice (some ⟨g, 0, none⟩) N N) ∧ w'.ownsRow w.heap.size 4 1 (.slice (some ⟨g, 0, none⟩) N N) N (boolsV b) ∧ Kept (b.length = N ∧ trues b = R) ∧ Below w.heap.size w w'
set_option maxHeartbeats 1600000 in
theorem joined_any (r : Int) (N V : Nat) (v : Value) (l : List Ed) (R : List Int) (w : World) (h : Edges w v l) (hn2 : N ≤ 40) (hV : V < N) (hE : ∀ e ∈ l, (0 ≤ e.1 ∧ e.1.toNat < N) ∧ 0 ≤ e.2.2 ∧ e.2.2.toNat < N) (hl : l.length ≤ 120) (hR : IsComp l V R) :
    Calls Try.prog 59 #[graphV r N v, .int .i64 V] w (RetSeen w N R) := by
  obtain ⟨A, cap, rfl, hc, hr, hcell⟩ := h
  have H := Lib.hid hcell
  clear hcell hr
  obtain ⟨i0, hi, hz0, hz1, hz2⟩ := info_parts elemBl.info
  obtain ⟨W, hW⟩ : ∃ W, W = (w.alloc (.cells #[.int .i64 r, .int .i64 N, .slice A l.length cap] 29 (0, 0))) := ⟨_, rfl⟩
  have hB : Below w.heap.size w W := by rw [hW]; exact (Below.refl _ _).alloc (Nat.le_refl _) _
  have bx1 : Box W w.heap.size (.cells #[.int .i64 r, .int .i64 N, .slice A l.length cap] 29 (0, 0)) := by rw [hW]; exact Box.new _ _
  have hsz : W.heap.size = w.heap.size + 1 := by rw [hW]; simp
  have HW := Lib.hid hW
  have BX := Lib.hid bx1
  have HSZ := Lib.hid hsz
  have HR := Lib.hid hR
  have HE := Lib.hid hE
  clear hW bx1 hsz hR hE
  go_enter Try.func59, Try.ntmps59
  go_wp2_with (at_make; rw [← HW.out]; refine wpList_make_full _ rfl _ _ 60 rfl w.heap.size 4 i0 (.bool false) 1 Try.underlying60 hi hz0 hz1 _ _ _ _ N rfl rfl rfl rfl (by rw [hz2]; omega) (by unfold maxLen; omega) (by rw [HSZ.out]; omega) ?_; intro w0 hown0 hgrow0; obtain ⟨old, hc1⟩ := ownsRow_cell hown0 V hV; have hf1 := hown0.frozenAt V)
  rw [falsesV] at hown0
  have hst := hown0.stored V (.bool true)
  rw [boolsV_set] at hst
  have hb0 : Below W.heap.size W w0 := (Below.refl _ _).grown hgrow0 (Nat.le_refl _) (fun k h => by cases h)
  have hb1 : Below W.heap.size W (w0.setCell ⟨W.heap.size, V, none⟩ (.bool true)) := hb0.grown hst.2 hb0.size (fun k h => by cases h; exact Nat.le_refl _)
  have hs0 : Kept (SeenOk l N V ((List.replicate N false).set V true) ∧ falses ((List.replicate N false).set V true) < N + 1) := ⟨seen_start hV, by have := falses_le ((List.replicate N false).set V true); simp only [List.length_set, List.length_replicate] at this; omega⟩
  have hown1 := hst.1
  clear hst hc1 hf1 hown0 hgrow0 hb0
  go_loopg [6] (N + 1) (fun m again wr => ∃ (b : List Bool) (a : Bool), again = .bool a ∧ Kept (SeenOk l N V b ∧ (a = true → falses b < m) ∧ (a = false → ∀ e ∈ l, evenAt b e)) ∧ wr.ownsRow w.heap.size 4 1 (.slice (some ⟨W.heap.size, 0, none⟩) N N) N (boolsV b) ∧ Below W.heap.size W wr)
  case atStart => exact ⟨_, true, rfl, ⟨hs0.out.1, fun _ => hs0.out.2, fun h => by cases h⟩, hown1, hb1⟩
  case round =>
    obtain ⟨b, a, rfl, hok, hown, hbel⟩ := hrel
    obtain ⟨q1, q2, q3⟩ := (BX.out.keep hbel).cells
    cases a with
    | false =>
      have hfin : Kept (trues b = R ∧ b.length = N) := ⟨seen_done HR.out hok.out.1 (by omega) (fun e he => ⟨(HE.out e he).1.1, (HE.out e he).2.1⟩) (hok.out.2.2 rfl), hok.out.1.len⟩
      go_wp2
      go_ret
      exact ⟨_, b, rfl, hown, ⟨hfin.out.2, hfin.out.1⟩, hB.trans (hbel.mono hB.size)⟩
    | true =>
      have hlt2 : Kept (falses b < gk) := ⟨hok.out.2.1 rfl⟩
      go_wp2
      go_loopw [6, 19] (fun again i wx => ∃ (k : Nat) (c : List Bool) (a : Bool), k ≤ l.length ∧ i = .int .i64 k ∧ again = .bool a ∧ Kept (SeenOk l N V c ∧ (a = true → falses c < falses b) ∧ (a = false → c = b ∧ ∀ e ∈ l.take k, evenAt b e)) ∧ wx.ownsRow w.heap.size 4 1 (.slice (some ⟨W.heap.size, 0, none⟩) N N) N (boolsV c) ∧ Below W.heap.size W wx) (fun _ i _ => l.length - (intOf i).toNat)
      case atStart => exact ⟨0, b, false, by omega, rfl, rfl, ⟨hok.out.1, fun h => (by cases h), fun _ => ⟨rfl, by simp⟩⟩, hown, hbel⟩
      case round =>
        obtain ⟨k, c, a, hk, rfl, rfl, hin, hownx, hbx⟩ := hrel
        by_cases hlt : k < l.length
        · obtain ⟨b0, off, rfl, hb, hcell⟩ := H.out (by omega)
          obtain ⟨e1, e2, e3⟩ := hcell k hlt
          have hBx := hB.trans (hbx.mono hB.size)
          replace e1 := (hBx.cell (p := ⟨b0, off + k * 3, none⟩) hb).trans e1
          replace e2 := (hBx.cell (p := ⟨b0, off + k * 3 + 1, none⟩) hb).trans e2
          replace e3 := (hBx.cell (p := ⟨b0, off + k * 3 + 2, none⟩) hb).trans e3
          have hkl : (k : Int) < (l.length : Int) := by omega
          have hmem : l[k] ∈ l := List.getElem_mem hlt
          have hrg := HE.out _ hmem
          obtain ⟨f, hf⟩ := Int.eq_ofNat_of_zero_le hrg.1.1
          obtain ⟨t, ht⟩ := Int.eq_ofNat_of_zero_le hrg.2.1
          have hfN : f < N := by have := hrg.1.2; rw [hf] at this; simpa using this
          have htN : t < N := by have := hrg.2.2; rw [ht] at this; simpa using this
          have hcl := hin.out.1.len
          have hfc : f < c.length := by omega
          have htc : t < c.length := by omega
          obtain ⟨x, hx⟩ : ∃ x, x = c.getD f false := ⟨_, rfl⟩
          obtain ⟨y, hy⟩ : ∃ y, y = c.getD t false := ⟨_, rfl⟩
          have hev : evenAt c l[k] ↔ x = y := by unfold evenAt; rw [hf, ht, hx, hy]; rfl
          have hset : ¬ x = y → SeenOk l N V ((c.set f true).set t true) ∧ falses ((c.set f true).set t true) < falses c := fun hne => by
            have := seen_set hin.out.1 hmem hrg.1.1 hrg.1.2 hrg.2.1 hrg.2.2 (fun h => hne (hev.1 h))
            rw [hf, ht] at this
            exact this
          rw [hf] at e1
          rw [ht] at e3
          obtain ⟨z, hz⟩ : ∃ z, z = l[k].2.1 := ⟨_, rfl⟩
          rw [← hz] at e2
          have hoa := hownx.alloc (.cells #[.int .i64 (f : Int), .int .i64 z, .int .i64 (t : Int)] 47 (0, 0))
          have s1 := hoa.cellAt f (by omega)
          have s2 := hoa.cellAt t (by omega)
          rw [boolsV_get hfc, ← hx] at s1
          rw [boolsV_get htc, ← hy] at s2
          have z1 := hoa.frozenAt f
          have z2 := hoa.frozenAt t
          have hba : Below W.heap.size W (wr.alloc (.cells #[.int .i64 (f : Int), .int .i64 z, .int .i64 (t : Int)] 47 (0, 0))) := hbx.alloc hbx.size _
          have HEV := Lib.hid hev
          have HSET := Lib.hid hset
          have hgl := (ownsRow_parts hownx).2.1
          have hbe : ¬ wr.heap.size = W.heap.size := by omega
          have hbe2 : ¬ W.heap.size = wr.heap.size := by omega
          have hfI : (f : Int) < (N : Int) := by omega
          have htI : (t : Int) < (N : Int) := by omega
          clear hcell hrg hf ht hx hy hz hev hset hcl hfc htc hmem
          by_cases hxy : x = y
          · have hnx : Kept (SeenOk l N V c ∧ (a = true → falses c < falses b) ∧ (a = false → c = b ∧ ∀ e ∈ l.take (k + 1), evenAt b e)) := ⟨hin.out.1, hin.out.2.1, fun h => by
              obtain ⟨i1, i2⟩ := hin.out.2.2 h
              refine ⟨i1, fun e he => ?_⟩
              rw [take_get hlt, List.mem_append, List.mem_singleton] at he
              rcases he with he | rfl
              · exact i2 e he
              · rw [← i1]; exact HEV.out.2 hxy⟩
            subst hxy
            clear hin
            cases x
            all_goals
              go_wp2
              go_quiet (fail)
              go_wp2
              go_roundw
              case rel => exact ⟨k + 1, c, a, by omega, by go_num, rfl, hnx, ownsRow_drewN nq hoa, below_drewN nq hba⟩
              case measure => simp [intOf]; omega
          · have hnx : Kept (SeenOk l N V ((c.set f true).set t true) ∧ (true = true → falses ((c.set f true).set t true) < falses b) ∧ (true = false → (c.set f true).set t true = b ∧ ∀ e ∈ l.take (k + 1), evenAt b e)) := ⟨(HSET.out hxy).1, fun _ => by
              have h1 := (HSET.out hxy).2
              cases a with
              | true => have := hin.out.2.1 rfl; omega
              | false => rw [(hin.out.2.2 rfl).1] at h1; rw [(hin.out.2.2 rfl).1]; exact h1, fun h => by cases h⟩
            have HNX := Lib.hid hnx
            clear hnx
            have hne : f ≠ t := fun h => by subst h; rw [s1] at s2; simp at s2; exact hxy s2
            have hne2 : t ≠ f := Ne.symm hne
            clear hin
            cases x <;> cases y
            · exact absurd rfl hxy
            · go_wp2
              go_quiet (fail)
              go_wp2
              go_roundw
              case rel =>
                have hb9 := below_drewN nq hba
                have g1 := (ownsRow_drewN nq hoa).stored f (.bool true)
                have g2 := g1.1.stored t (.bool true)
                rw [boolsV_set, boolsV_set] at g2
                exact ⟨k + 1, (c.set f true).set t true, true, by omega, by go_num, rfl, ⟨HNX.out.out.1, fun _ => HNX.out.out.2.1 (by simp), fun h => by cases h⟩, g2.1, (hb9.grown g1.2 hb9.size (fun k h => by cases h; exact Nat.le_refl _)).grown g2.2 (hb9.grown g1.2 hb9.size (fun k h => by cases h; exact Nat.le_refl _)).size (fun k h => by cases h; exact Nat.le_refl _)⟩
              case measure => simp [intOf]; omega
            · go_wp2
              go_quiet (fail)
              go_wp2
              go_roundw
              case rel =>
                have hb9 := below_drewN nq hba
                have g1 := (ownsRow_drewN nq hoa).stored f (.bool true)
                have g2 := g1.1.stored t (.bool true)
                rw [boolsV_set, boolsV_set] at g2
                exact ⟨k + 1, (c.set f true).set t true, true, by omega, by go_num, rfl, ⟨HNX.out.out.1, fun _ => HNX.out.out.2.1 (by simp), fun h => by cases h⟩, g2.1, (hb9.grown g1.2 hb9.size (fun k h => by cases h; exact Nat.le_refl _)).grown g2.2 (hb9.grown g1.2 hb9.size (fun k h => by cases h; exact Nat.le_refl _)).size (fun k h => by cases h; exact Nat.le_refl _)⟩
              case measure => simp [intOf]; omega
            · exact absurd rfl hxy
        · obtain rfl : k = l.length := by omega
          have hnx : Kept (SeenOk l N V c ∧ (a = true → falses c < falses b) ∧ (a = false → ∀ e ∈ l, evenAt c e)) := ⟨hin.out.1, hin.out.2.1, fun h => by
            obtain ⟨i1, i2⟩ := hin.out.2.2 h
            rw [List.take_length] at i2
            rw [i1]; exact i2⟩
          go_wp2
          go_roundg (falses b)
          case measure => exact hlt2.out
          case rel => exact ⟨c, a, rfl, hnx, hownx, hbx⟩
end Go.Proofs.Ytfckgmajjonckaa
