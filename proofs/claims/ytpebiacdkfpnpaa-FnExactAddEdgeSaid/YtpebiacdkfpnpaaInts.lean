/- Slices of ints: what a value reads as; what a call's own row holds; contracts of the laws' helpers toIntS, eqIntS, markIntS, heldIntS. Conditions: lengths of at most 2^40. -/
import Derived.Test.YtpebiacdkfpnpaaRows
import Derived.Test.YtpebiacdkfpnpaaBase
namespace Go.Proofs.Ytpebiacdkfpnpaa
open Go.RowKit

theorem elemI : Elem Try.prog 33 3 (.int .i64 0) 1 8 := ⟨Try.underlying33, by kernel_rfl, rfl, by decide, by decide⟩
/-- An int of 64 bits. -/
def I64 (x : Int) : Prop := -9223372036854775808 ≤ x ∧ x ≤ 9223372036854775807
def intsV (l : List Int) : List Value := l.map (Value.int .i64)
theorem intsV_append (l l' : List Int) : intsV (l ++ l') = intsV l ++ intsV l' := by simp [intsV]
theorem intsV_length (l : List Int) : (intsV l).length = l.length := by simp [intsV]

/-- The slice v reads as the list l. -/
def Ints (w : World) (v : Value) (l : List Int) : Prop :=
  ∃ b off cap, v = .slice (some ⟨b, off, none⟩) l.length cap ∧ l.length ≤ cap ∧ b < w.heap.size ∧ (∀ i (h : i < l.length), w.cell? ⟨b, off + i, none⟩ = some (.int .i64 l[i])) ∧ ∀ x ∈ l, I64 x
/-- The slice v is a row of the call's own (its block from B on) and reads as l. -/
def OwnI (w : World) (B : Nat) (v : Value) (l : List Int) : Prop :=
  ∃ g cap, v = .slice (some ⟨g, 0, none⟩) l.length cap ∧ w.ownsRow B 3 1 v l.length (intsV l) ∧ ∀ x ∈ l, I64 x
/-- A slice of ints is handed back, in new memory. -/
def RetI (w : World) (l : List Int) (e : Ending) (w' : World) : Prop := ∃ v, e = .returned v ∧ OwnI w' w.heap.size v l ∧ Below w.heap.size w w'

theorem RetI.mk {w w' : World} {g n cap : Nat} {l : List Int} (hn : l.length = n) (ho : w'.ownsRow w.heap.size 3 1 (.slice (some ⟨g, 0, none⟩) n cap) n (intsV l)) (hr : ∀ x ∈ l, I64 x) (hb : Below w.heap.size w w') :
    RetI w l (.returned (.slice (some ⟨g, 0, none⟩) n cap)) w' := by
  subst hn
  exact ⟨_, rfl, ⟨g, cap, rfl, ho, hr⟩, hb⟩
theorem Ints.keep {w w' : World} {v : Value} {l : List Int} (h : Ints w v l) (hB : Below w.heap.size w w') : Ints w' v l := by
  obtain ⟨b, off, cap, rfl, hc, hb, hcell, hr⟩ := h
  exact ⟨b, off, cap, rfl, hc, Nat.lt_of_lt_of_le hb hB.size, fun i hi => (hB.cell (p := ⟨b, off + i, none⟩) hb).trans (hcell i hi), hr⟩
theorem Ints.drewN {w : World} {v : Value} {l : List Int} (n : Nat) (h : Ints w v l) : Ints (w.drewN n) v l := h.keep (below_drewN n (Below.refl _ _))
theorem OwnI.keep {w w' : World} {B : Nat} {v : Value} {l : List Int} (h : OwnI w B v l) (hB : Below w.heap.size w w') : OwnI w' B v l := by
  obtain ⟨g, cap, rfl, ho, hr⟩ := h
  exact ⟨g, cap, rfl, ownsRow_keep ho hB, hr⟩
theorem OwnI.base {w : World} {B B' : Nat} {v : Value} {l : List Int} (h : OwnI w B v l) (hb : B' ≤ B) : OwnI w B' v l := by
  obtain ⟨g, cap, rfl, ho, hr⟩ := h
  exact ⟨g, cap, rfl, ownsRow_base ho hb, hr⟩
theorem OwnI.ints {w : World} {B : Nat} {v : Value} {l : List Int} (h : OwnI w B v l) : Ints w v l := by
  obtain ⟨g, cap, rfl, ho, hr⟩ := h
  have hp := ownsRow_parts ho
  refine ⟨g, 0, cap, rfl, hp.2.2.1, hp.2.1, fun i hi => ?_, hr⟩
  rw [Nat.zero_add, ho.cellAt i (by omega), intsV, List.getElem?_map, List.getElem?_eq_getElem hi]
  rfl
theorem OwnI.block {w : World} {B : Nat} {v : Value} {l : List Int} (h : OwnI w B v l) : ∃ g, v.ownBlock = some g ∧ B ≤ g ∧ g < w.heap.size := by
  obtain ⟨g, cap, rfl, ho, hr⟩ := h
  have hp := ownsRow_parts ho
  exact ⟨g, rfl, hp.1, hp.2.1⟩
theorem Ints.range {w : World} {v : Value} {l : List Int} (h : Ints w v l) : ∀ x ∈ l, I64 x := by
  obtain ⟨_, _, _, _, _, _, _, hr⟩ := h; exact hr
/-- A row that a write to another row leaves alone. -/
theorem OwnI.grown {w w' : World} {B : Nat} {v : Value} {l : List Int} {row : Option Nat} (h : OwnI w B v l) (hg : w.grownBy w' row) (hne : v.ownBlock ≠ row) : OwnI w' B v l := by
  obtain ⟨g, cap, rfl, ho, hr⟩ := h
  exact ⟨g, cap, rfl, ho.kept hg (.inr hne), hr⟩

/-- What a law is told of a slice of integers that came in. -/
def IsRow (k : IntKind) (w : World) (a : Option Addr) (len cap : Nat) (zs : List Int) : Prop :=
  (a = none ∧ len = 0 ∧ cap = 0 ∧ zs = []) ∨
  ∃ x, a = some x ∧ len ≤ cap ∧ cap ≤ maxLen ∧ zs.length = cap ∧ (∀ i, i < zs.length → w.cell? (x.add i) = some (.int k (zs.getD i 0))) ∧ ∀ n ∈ zs, (Lit.int k n).wf = true
theorem IsRow.keep {k : IntKind} {w w' : World} {a : Option Addr} {len cap : Nat} {zs : List Int} (h : IsRow k w a len cap zs) (hB : Below w.heap.size w w') : IsRow k w' a len cap zs := by
  rcases h with h | ⟨x, hx, h1, h2, h3, h4, h5⟩
  · exact .inl h
  · refine .inr ⟨x, hx, h1, h2, h3, fun i hi => ?_, h5⟩
    have h6 := h4 i hi
    exact (hB.cell (World.block_lt_of_cell? w _ h6)).trans h6
theorem i64_of_wf {x : Int} (h : (Lit.int .i64 x).wf = true) : I64 x := by
  simp [Lit.wf, IntKind.min, IntKind.max, IntKind.signed, IntKind.bits] at h
  exact ⟨by omega, by omega⟩
theorem IsRow.take {w : World} {a : Option Addr} {len cap : Nat} {zs : List Int} (h : IsRow .i64 w a len cap zs) : (zs.take len).length = len ∧ ∀ x ∈ zs.take len, I64 x := by
  rcases h with ⟨_, rfl, _, rfl⟩ | ⟨x, hx, h1, h2, h3, h4, h5⟩
  · simp
  · exact ⟨by simp; omega, fun y hy => i64_of_wf (h5 y (List.mem_of_mem_take hy))⟩

theorem intsV_set (l : List Int) (i : Nat) (x : Int) : (intsV l).set i (.int .i64 x) = intsV (l.set i x) := by simp [intsV]
theorem zerosI (m : Nat) : (madeCells (Value.int IntKind.i64 0).cells (m * 1)).toList = intsV (List.replicate m 0) := by
  rw [Nat.mul_one]
  refine (toList_madeCells_one (.int .i64 0) m).trans ?_
  simp [intsV]

set_option maxHeartbeats 800000 in
theorem toIntS_any (a : Option Addr) (len cap : Nat) (zs : List Int) (w : World) (hlen : len ≤ 1048576) (h : IsRow .i64 w a len cap zs) :
    Calls Try.prog 26 #[.slice a len cap] w (RetI w (zs.take len)) := by
  obtain ⟨ht, hr⟩ := h.take
  obtain ⟨i0, hi, hz0, hz1, hz2⟩ := info_parts elemI.info
  by_cases h0 : len = 0
  · subst h0
    go_enter Try.func26, Try.ntmps26
    go_wp2_with (at_make; refine wpList_make_full _ rfl _ _ 33 rfl w.heap.size 3 i0 (.int .i64 0) 1 Try.underlying33 hi hz0 hz1 _ _ _ _ 0 rfl rfl rfl rfl (by rw [hz2]; omega) (by unfold maxLen; omega) (Nat.le_refl _) ?_; intro w0 hown0 hgrow0)
    refine wp_loop_rounds 1 ?_
    rw [rounds_succ]
    go_wp2
    go_ret
    rw [zerosI] at hown0
    exact RetI.mk (by simp) (by simpa using hown0) (by simp) ((Below.refl _ _).grown hgrow0 (Nat.le_refl _) (fun k h => by cases h))
  · rcases h with ⟨_, h1, _⟩ | ⟨⟨b, off, spot⟩, rfl, h1, h2, h3, h4, h5⟩
    · omega
    · have hc0 := h4 0 (by omega)
      have hspot : spot = none := by simpa [Addr.add] using World.cell?_spot hc0
      subst hspot
      have hcell : ∀ i, i < len → w.cell? ⟨b, off + i, none⟩ = some (.int .i64 (zs.getD i 0)) := fun i hi => by
        have := h4 i (by omega)
        rwa [Addr.add_lit] at this
      have hbl : b < w.heap.size := World.block_lt_of_cell? w _ (hcell 0 (by omega))
      have H := Lib.hid hcell
      clear hcell h4 hc0
      go_enter Try.func26, Try.ntmps26
      go_wp2_with (at_make; refine wpList_make_full _ rfl _ _ 33 rfl w.heap.size 3 i0 (.int .i64 0) 1 Try.underlying33 hi hz0 hz1 _ _ _ _ len rfl rfl rfl rfl (by rw [hz2]; omega) (by unfold maxLen; omega) (Nat.le_refl _) ?_; intro w0 hown0 hgrow0)
      have hb0 : Below w.heap.size w w0 := (Below.refl _ _).grown hgrow0 (Nat.le_refl _) (fun k h => by cases h)
      rw [zerosI] at hown0
      clear hgrow0
      go_loopw [4] (fun i wr => ∃ k : Nat, k ≤ len ∧ i = .int .i64 k ∧ wr.ownsRow w.heap.size 3 1 (.slice (some ⟨w.heap.size, 0, none⟩) len len) len (intsV (zs.take k ++ List.replicate (len - k) 0)) ∧ Below w.heap.size w wr)
        (fun i _ => len - (intOf i).toNat)
      case atStart => exact ⟨0, by omega, rfl, by simpa using hown0, hb0⟩
      case round =>
        obtain ⟨k, hk, rfl, hown, hbel⟩ := hrel
        by_cases hlt : k < len
        · have hc1 : wr.cell? ⟨b, off + k, none⟩ = some (.int .i64 (zs.getD k 0)) := (hbel.cell (p := ⟨b, off + k, none⟩) hbl).trans (H.out k hlt)
          obtain ⟨old, hc2⟩ := ownsRow_cell hown k hlt
          have hf2 := hown.frozenAt k
          go_wp2
          go_roundw
          case rel =>
            refine ⟨k + 1, by omega, by go_num, ?_, hbel.setCell (Nat.le_refl _) _⟩
            have hs := (hown.stored k (.int .i64 (zs.getD k 0))).1
            rw [intsV_set] at hs
            have el : (zs.take k ++ List.replicate (len - k) 0).set k (zs.getD k 0) = zs.take (k + 1) ++ List.replicate (len - (k + 1)) 0 := by
              have hkz : k < zs.length := by omega
              rw [List.set_append_right _ _ (by rw [List.length_take]; omega), List.take_succ_eq_append_getElem hkz, List.append_assoc]
              have e1 : (zs.take k).length = k := by simp; omega
              have e2 : len - k = (len - (k + 1)) + 1 := by omega
              rw [e1, Nat.sub_self, e2, List.replicate_succ]
              simp [List.getD_eq_getElem?_getD, hkz]
            rw [el] at hs
            simpa using hs
          case measure => simp [intOf]; omega
        · obtain rfl : k = len := by omega
          go_wp2
          go_ret
          exact RetI.mk ht (by simpa using hown) hr hbel


/-- eqIntS of two slices that read alike. -/
theorem eqIntS_same (v1 v2 : Value) (l : List Int) (w : World) (h1 : Ints w v1 l) (h2 : Ints w v2 l) (hlen : l.length ≤ 1099511627776) :
    Calls Try.prog 17 #[v1, v2] w fun e w' => e = .returned (.bool true) ∧ ∃ n, w' = w.drewN n := by
  obtain ⟨b, off, cap, rfl, hc, hb, hcell, hr⟩ := h1
  obtain ⟨b2, off2, cap2, rfl, hc2, hb2, hcell2, hr2⟩ := h2
  have H1 := Lib.hid hcell
  have H2 := Lib.hid hcell2
  clear hcell hcell2
  go_enter Try.func17, Try.ntmps17
  go_wp2
  go_loopw [5] (fun i wr => ∃ k n : Nat, k ≤ l.length ∧ i = .int .i64 k ∧ wr = w.drewN n) (fun i _ => l.length - (intOf i).toNat)
  case atStart => exact ⟨0, 0, by omega, rfl, rfl⟩
  case round =>
    obtain ⟨k, n, hk, rfl, rfl⟩ := hrel
    by_cases hlt : k < l.length
    · have e1 : w.cell? ⟨b, off + k, none⟩ = some (.int .i64 l[k]) := H1.out k hlt
      have e2 : w.cell? ⟨b2, off2 + k, none⟩ = some (.int .i64 l[k]) := H2.out k hlt
      have hkl : (k : Int) < (l.length : Int) := by omega
      go_wp2
      go_quiet (fail)
      go_wp2
      go_roundw
      case rel => exact ⟨k + 1, n + nq, by omega, by go_num, rfl⟩
      case measure => simp [intOf]; omega
    · obtain rfl : k = l.length := by omega
      go_wp2
      go_ret
      exact ⟨rfl, n, rfl⟩

/-- What markIntS writes: n numbers from k on. -/
def marks (k : Int) (n : Nat) : List Int := (List.range n).map fun (i : Nat) => k + (i : Int)
theorem marks_length (k : Int) (n : Nat) : (marks k n).length = n := by simp [marks]
theorem marks_range {k : Int} {n : Nat} (h0 : 0 ≤ k) (h1 : k + n ≤ 4611686018427387904) : ∀ x ∈ marks k n, I64 x := by
  intro x hx
  simp only [marks, List.mem_map, List.mem_range] at hx
  obtain ⟨i, hi, rfl⟩ := hx
  exact ⟨by omega, by omega⟩
theorem marks_get {k : Int} {n i : Nat} (h : i < n) : (marks k n)[i]? = some (k + (i : Int)) := by
  simp [marks, List.getElem?_map, List.getElem?_range h]

theorem markIntS_any (v : Value) (l : List Int) (B : Nat) (k0 : Int) (w : World) (h : OwnI w B v l) (h0 : 0 ≤ k0) (h1 : k0 + l.length ≤ 4611686018427387904) :
    Calls Try.prog 19 #[v, .int .i64 k0] w fun e w' => e = .returned (.int .i64 (k0 + l.length)) ∧ OwnI w' B v (marks k0 l.length) ∧ w.grownBy w' v.ownBlock := by
  obtain ⟨g, cap, rfl, hown0, hr⟩ := h
  obtain ⟨k0, rfl⟩ := Int.eq_ofNat_of_zero_le h0
  go_enter Try.func19, Try.ntmps19
  go_wp2
  go_loopw [1, 5] (fun x i wr => ∃ (k : Nat) (r : List Int), k ≤ l.length ∧ i = .int .i64 k ∧ x = .int .i64 ((k0 : Int) + k) ∧ Kept (r.length = l.length ∧ ∀ j, j < k → r[j]? = some ((k0 : Int) + (j : Int))) ∧ wr.ownsRow B 3 1 (.slice (some ⟨g, 0, none⟩) l.length cap) l.length (intsV r) ∧ w.grownBy wr (some g))
    (fun _ i _ => l.length - (intOf i).toNat)
  case atStart => exact ⟨0, l, by omega, rfl, by simp, ⟨rfl, by omega⟩, hown0, World.grownBy.refl _ _⟩
  case round =>
    obtain ⟨k, r, hk, rfl, rfl, hrk, hown, hgr⟩ := hrel
    by_cases hlt : k < l.length
    · obtain ⟨old, hc2⟩ := ownsRow_cell hown k hlt
      have hf2 := hown.frozenAt k
      have hkl : (k : Int) < (l.length : Int) := by omega
      go_wp2
      go_roundw
      case rel =>
        have hs := hown.stored k (.int .i64 ((k0 : Int) + k))
        refine ⟨k + 1, r.set k ((k0 : Int) + k), by omega, by go_num, by go_num, ⟨by simpa using hrk.out.1, fun j hj => ?_⟩, by rw [← intsV_set]; exact hs.1, hgr.trans hs.2⟩
        by_cases hjk : j = k
        · subst hjk; rw [List.getElem?_set_self (by rw [hrk.out.1]; exact hlt)]
        · rw [List.getElem?_set_ne (by omega)]; exact hrk.out.2 j (by omega)
      case measure => simp [intOf]; omega
    · obtain rfl : k = l.length := by omega
      have hrm : r = marks k0 l.length := by
        apply List.ext_getElem?
        intro j
        by_cases hj : j < l.length
        · rw [hrk.out.2 j hj, marks_get hj]
        · rw [List.getElem?_eq_none (by rw [hrk.out.1]; omega), List.getElem?_eq_none (by rw [marks_length]; omega)]
      have hk2 : Kept _ := ⟨hrm⟩
      clear hrm
      go_wp2
      go_ret
      rw [hk2.out] at hown
      refine ⟨rfl, ⟨g, cap, by rw [marks_length], by rw [marks_length]; exact hown, marks_range (by omega) h1⟩, hgr⟩

theorem heldIntS_any (v : Value) (n : Nat) (k0 : Int) (w : World) (h : Ints w v (marks k0 n)) (h0 : 0 ≤ k0) (h1 : k0 + n ≤ 4611686018427387904) :
    Calls Try.prog 20 #[v, .int .i64 k0] w fun e w' => e = .returned (.int .i64 (k0 + n)) ∧ w = w' := by
  obtain ⟨b, off, cap, rfl, hc, hb, hcell, hr⟩ := h
  obtain ⟨k0, rfl⟩ := Int.eq_ofNat_of_zero_le h0
  have H : Kept (∀ i, i < n → w.cell? ⟨b, off + i, none⟩ = some (.int .i64 ((k0 : Int) + i))) := ⟨fun i hi => by
    rw [hcell i (by rw [marks_length]; exact hi)]
    have := marks_get (k := (k0 : Int)) hi
    rw [List.getElem?_eq_getElem (by rw [marks_length]; exact hi)] at this
    rw [Option.some.inj this]⟩
  rw [marks_length]
  clear hcell hr hc
  go_enter Try.func20, Try.ntmps20
  go_wp2
  go_loop [1, 5] (fun x i => ∃ k : Nat, k ≤ n ∧ i = .int .i64 k ∧ x = .int .i64 ((k0 : Int) + k)) (fun _ i => n - (intOf i).toNat)
  case atStart => exact ⟨0, by omega, rfl, by simp⟩
  case round =>
    obtain ⟨k, hk, rfl, rfl⟩ := hrel
    by_cases hlt : k < n
    · have e1 := H.out k hlt
      have hkl : (k : Int) < (n : Int) := by omega
      go_wp2
      go_round
      case rel => exact ⟨k + 1, by omega, by go_num, by go_num⟩
      case measure => simp [intOf]; omega
    · obtain rfl : k = n := by omega
      go_wp2
      go_ret
      exact ⟨rfl, rfl⟩
end Go.Proofs.Ytpebiacdkfpnpaa
