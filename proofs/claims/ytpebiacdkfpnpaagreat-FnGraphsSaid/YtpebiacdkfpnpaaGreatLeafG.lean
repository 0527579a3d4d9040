/- What the law on graphs needs besides: has; a graph in a variable's box; plain laws. Conditions: none. Contracts of NewGraph. Conditions: none. Contracts of DegreeOf. Conditions: at most 2^20 edges. -/
import Derived.Test.YtpebiacdkfpnpaaGreatGraphB
import Derived.Test.YtpebiacdkfpnpaaGreatRetG
import Derived.Test.YtpebiacdkfpnpaaGreatParseL
import Derived.Test.YtpebiacdkfpnpaaGreatGraphH
import Derived.Test.YtpebiacdkfpnpaaGreatPGraphI
import Derived.Test.YtpebiacdkfpnpaaGreatAddP
import Derived.Test.YtpebiacdkfpnpaaGreatGraphG
import Derived.Test.YtpebiacdkfpnpaaGreatWithin
import Derived.Test.YtpebiacdkfpnpaaGreatEdges
namespace Go.Proofs.YtpebiacdkfpnpaaGreat
open Go.RowKit

theorem hasI_any (v : Value) (l : List Int) (x : Int) (w : World) (h : Ints w v l) (hn : l.length ≤ 1048576) :
    Calls Tryz.prog 18 #[v, .int .i64 x] w fun e w' => e = .returned (.bool (decide (x ∈ l))) ∧ w = w' := by
  obtain ⟨b, off, cap, rfl, hc, hb, hcell, hr⟩ := h
  have H := Lib.hid hcell
  clear hcell hr
  go_enter Tryz.func18, Tryz.ntmps18
  go_wp2
  go_loop [5] (fun i => ∃ k : Nat, k ≤ l.length ∧ i = .int .i64 k ∧ Kept (x ∉ l.take k)) (fun i => l.length - (intOf i).toNat)
  case atStart => exact ⟨0, by omega, rfl, ⟨by simp⟩⟩
  case round =>
    obtain ⟨k, hk, rfl, hno⟩ := hrel
    by_cases hlt : k < l.length
    · have e1 := H.out k hlt
      have hkl : (k : Int) < (l.length : Int) := by omega
      obtain ⟨y, hy⟩ : ∃ y, y = l[k] := ⟨_, rfl⟩
      rw [← hy] at e1
      by_cases hx : y = x
      · have t1 : (y == x) = true := by simp [hx]
        have hst : Kept (decide (x ∈ l) = true) := ⟨decide_eq_true (by rw [← hx, hy]; exact List.getElem_mem hlt)⟩
        clear hy hx
        go_wp2
        go_ret
        rw [hst.out]
        exact ⟨rfl, rfl⟩
      · have t1 : (y == x) = false := by simp [hx]
        have hst : Kept (x ∉ l.take (k + 1)) := ⟨by
          rw [List.take_succ_eq_append_getElem hlt, ← hy, List.mem_append, List.mem_singleton]
          rintro (h | h)
          · exact hno.out h
          · exact hx h.symm⟩
        clear hy hx
        go_wp2
        go_round
        case rel => exact ⟨k + 1, by omega, by go_num, hst⟩
        case measure => simp [intOf]; omega
    · obtain rfl : k = l.length := by omega
      have hst : Kept (decide (x ∈ l) = false) := ⟨decide_eq_false (by have := hno.out; rwa [List.take_length] at this)⟩
      go_wp2
      go_ret
      rw [hst.out]
      exact ⟨rfl, rfl⟩

/-- A graph in a variable's box. -/
structure GBox (W : World) (k : Nat) (r n : Int) (A : Option Addr) (cap : Nat) (l : List Ed) : Prop where
  box : Box W k (Obj.cells #[.int .i64 r, .int .i64 n, .slice A l.length cap] 26 (0, 0))
  row : Edges W (.slice A l.length cap) l
  nil : NilOk (.slice A l.length cap)
theorem GBox.keep {W W' : World} {k : Nat} {r n : Int} {A : Option Addr} {cap : Nat} {l : List Ed} (h : GBox W k r n A cap l) (hb : Below W.heap.size W W') : GBox W' k r n A cap l := ⟨h.box.keep hb, h.row.keep hb, h.nil⟩
theorem GBox.new {w : World} {B : Nat} {A : Option Addr} {cap : Nat} {l : List Ed} (r n : Int) (h : OwnN w B (.slice A l.length cap) l) : GBox (w.alloc (Obj.cells #[.int .i64 r, .int .i64 n, .slice A l.length cap] 26 (0, 0))) w.heap.size r n A cap l :=
  ⟨Box.new _ _, h.edges.keep ((Below.refl _ _).alloc (Nat.le_refl _) _), h.nilOk⟩
theorem GBox.cells {W : World} {k : Nat} {r n : Int} {A : Option Addr} {cap : Nat} {l : List Ed} (h : GBox W k r n A cap l) : W.cell? ⟨k, 0, none⟩ = some (.int .i64 r) ∧ W.cell? ⟨k, 1, none⟩ = some (.int .i64 n) ∧ W.cell? ⟨k, 2, none⟩ = some (.slice A l.length cap) := h.box.cells

theorem sameG_any (r n : Int) (v1 v2 : Value) (l : List Ed) (w : World) (h1 : Edges w v1 l) (h2 : Edges w v2 l) (hn : l.length ≤ 1048576) : Calls Tryz.prog 8 #[graphV r n v1, graphV r n v2] w (RetV w (.bool true)) := by
  have h := equalGraphsS_any r n r n v1 v2 l l w h1 h2 hn
  have e : eqG r n l r n l = true := by simp [eqG, eqEs]
  rw [e] at h
  exact h
theorem isG_okE {r n : Int} {l : List Ed} (h : isG r n l = true) : ∀ e ∈ l, okE r n e = true := fun e he => by
  have h4 := (isG_parts h).2.2.2
  rw [edgesOk, List.all_eq_true] at h4
  obtain ⟨k, hk, rfl⟩ := List.mem_iff_getElem.1 he
  have h5 := h4 k (by simpa using hk)
  rw [stepOk, Bool.and_eq_true, getD_at hk] at h5
  exact h5.1
theorem isG_of {r n : Int} {l : List Ed} (h1 : 1 ≤ r ∧ r ≤ 3) (h2 : 1 ≤ n ∧ n ≤ 40) (h3 : l.length ≤ 120) (ho : ∀ e ∈ l, okE r n e = true) (ha : Asc l) : isG r n l = true := by
  rw [isG_ok h1 h2 h3]
  refine edgesOk_all fun j hj => ?_
  rw [stepOk, Bool.and_eq_true, getD_at hj]
  refine ⟨ho _ (List.getElem_mem hj), ?_⟩
  rw [Bool.or_eq_true]
  by_cases h0 : j = 0
  · exact .inl (decide_eq_true h0)
  · refine .inr (decide_eq_true ?_)
    rw [getD_at (show j - 1 < l.length by omega)]
    unfold Asc at ha
    rw [List.pairwise_iff_getElem] at ha
    exact (cmpEd_lt _ _).2 (ha (j - 1) j (by omega) hj (by omega))
theorem addE_isG {r n : Int} {l : List Ed} {e : Ed} (h : addEOk r n l e = true) : isG r n (addEL r n l e) = true ∧ (addEL r n l e).length = l.length + 1 := by
  have h0 := h
  simp only [addEOk, Bool.and_eq_true, decide_eq_true_eq] at h
  obtain ⟨h1, _, ha, hl, h9⟩ := addE_yes h0
  rw [h1]
  obtain ⟨p1, p2, _, _⟩ := isG_parts h.1
  refine ⟨isG_of p1 p2 (by omega) (fun u hu => ?_) ha, hl⟩
  rcases putE_mem hu with rfl | hm
  · exact h.2.1
  · exact isG_okE h.1 u hm
theorem cmpI_flip (a b : Int) : cmpI a b = - cmpI b a ∧ -1 ≤ cmpI a b ∧ cmpI a b ≤ 1 := by
  unfold cmpI
  by_cases h1 : a < b
  · rw [if_pos h1, if_neg (show ¬ b < a by omega), if_pos h1]; omega
  · by_cases h2 : b < a
    · rw [if_neg h1, if_pos h2, if_pos h2]; omega
    · rw [if_neg h1, if_neg h2, if_neg h2, if_neg h1]; omega
theorem cmpE_flip (a1 a2 a3 b1 b2 b3 : Int) : cmpE a1 a2 a3 b1 b2 b3 = - cmpE b1 b2 b3 a1 a2 a3 ∧ -1 ≤ cmpE a1 a2 a3 b1 b2 b3 ∧ cmpE a1 a2 a3 b1 b2 b3 ≤ 1 := by
  unfold cmpE
  by_cases h1 : a1 = b1
  · rw [if_pos h1, if_pos h1.symm]
    by_cases h2 : a2 = b2
    · rw [if_pos h2, if_pos h2.symm]; exact cmpI_flip _ _
    · rw [if_neg h2, if_neg (fun h => h2 h.symm)]; exact cmpI_flip _ _
  · rw [if_neg h1, if_neg (fun h => h1 h.symm)]; exact cmpI_flip _ _
/-- A graph read back from its own text. -/
def RetPB (w : World) (r n : Int) (l : List Ed) (g : Bool) (e : Ending) (w' : World) : Prop := ∃ r' n' v' l', e = .returned (.tuple #[graphV r' n' v', .bool g]) ∧ OwnN w' w.heap.size v' l' ∧ Kept (l'.length ≤ 120 ∧ (g = true → r' = r ∧ n' = n ∧ l' = l)) ∧ Below w.heap.size w w'
theorem parseBack_any (r n : Int) (l : List Ed) (w : World) (hs : (fmtG r n l).length ≤ 1048576) : Calls Tryz.prog 12 #[.string ⟨(fmtG r n l).toArray⟩] w (RetPB w r n l (isG r n l)) := by
  have h := parseGraph_any ⟨(fmtG r n l).toArray⟩ (by show (fmtG r n l).toArray.size ≤ _; simpa using hs) w
  refine h.mono ?_
  rintro e w' ⟨v, rfl, ho, hb⟩
  cases hg : isG r n l with
  | true =>
    obtain ⟨h1, h2, h3, h4⟩ := pg_fmt hg
    simp only [h1, h2, h3, h4] at ho ⊢
    exact ⟨r, n, v, l, rfl, ho, ⟨(isG_parts hg).2.2.1, fun _ => ⟨rfl, rfl, rfl⟩⟩, hb⟩
  | false =>
    have h0 := fmtG_no hg
    obtain ⟨h1, h2, h3, h4⟩ := pg_empty
    simp only [h0, h1, h2, h3, h4] at ho ⊢
    exact ⟨0, 0, v, [], rfl, ho, ⟨by simp, fun h => by cases h⟩, hb⟩

def newOk (rank : Int) : Bool := decide (1 ≤ rank ∧ rank ≤ 3)
def newR (rank : Int) : Int := match newOk rank with
  | true => rank
  | false => 0
def newN (rank : Int) : Int := match newOk rank with
  | true => 1
  | false => 0
theorem new_yes {rank : Int} (h : 1 ≤ rank ∧ rank ≤ 3) : newOk rank = true ∧ newR rank = rank ∧ newN rank = 1 := by
  have e : newOk rank = true := decide_eq_true h
  exact ⟨e, by simp only [newR, e], by simp only [newN, e]⟩
theorem new_no {rank : Int} (h : ¬ (1 ≤ rank ∧ rank ≤ 3)) : newOk rank = false ∧ newR rank = 0 ∧ newN rank = 0 := by
  have e : newOk rank = false := decide_eq_false h
  exact ⟨e, by simp only [newR, e], by simp only [newN, e]⟩
theorem newGraph_any (rank : Int) (w : World) : Calls Tryz.prog 26 #[.int .i64 rank] w (RetG2 w (newR rank) (newN rank) [] (.bool (newOk rank))) := by
  by_cases h : 1 ≤ rank ∧ rank ≤ 3
  · rw [(new_yes h).1, (new_yes h).2.1, (new_yes h).2.2]
    go_enter Tryz.func26, Tryz.ntmps26
    go_wp2_with fail
    refine (within_yes h.1 h.2 _).mono ?_
    rintro e w' ⟨rfl, rfl⟩
    clear h
    go_wp2
    exact bodyPost_ret (v := .tuple #[graphV rank 1 (.slice none 0 0), .bool true]) (by simp [results, Tryz.results26, go_sem]) rfl ⟨_, rfl, .inl ⟨rfl, rfl⟩, (Below.refl _ _).alloc (Nat.le_refl _) _⟩
  · rw [(new_no h).1, (new_no h).2.1, (new_no h).2.2]
    have h2 : rank < 1 ∨ 3 < rank := by omega
    clear h
    go_enter Tryz.func26, Tryz.ntmps26
    go_wp2_with fail
    refine (within_no h2 _).mono ?_
    rintro e w' ⟨rfl, rfl⟩
    go_wp2
    exact bodyPost_ret (v := .tuple #[graphV 0 0 (.slice none 0 0), .bool false]) (by simp [results, Tryz.results26, go_sem]) rfl ⟨_, rfl, .inl ⟨rfl, rfl⟩, (Below.refl _ _).alloc (Nat.le_refl _) _⟩
theorem newGraphS_any (rank : Int) (w : World) : Calls Tryz.prog 27 #[.int .i64 rank] w (RetG2 w (newR rank) (newN rank) [] (.bool (newOk rank))) := by
  by_cases h : 1 ≤ rank ∧ rank ≤ 3
  · rw [(new_yes h).1, (new_yes h).2.1, (new_yes h).2.2]
    go_enter Tryz.func27, Tryz.ntmps27
    go_wp2_with fail
    refine (l1In_yes h.1 h.2 _).mono ?_
    rintro e w' ⟨rfl, rfl⟩
    clear h
    go_wp2
    exact bodyPost_ret (v := .tuple #[graphV rank 1 (.slice none 0 0), .bool true]) (by simp [results, Tryz.results27, go_sem]) rfl ⟨_, rfl, .inl ⟨rfl, rfl⟩, (Below.refl _ _).alloc (Nat.le_refl _) _⟩
  · rw [(new_no h).1, (new_no h).2.1, (new_no h).2.2]
    have h2 : rank < 1 ∨ 3 < rank := by omega
    clear h
    go_enter Tryz.func27, Tryz.ntmps27
    go_wp2_with fail
    refine (l1In_no h2 _).mono ?_
    rintro e w' ⟨rfl, rfl⟩
    go_wp2
    exact bodyPost_ret (v := .tuple #[graphV 0 0 (.slice none 0 0), .bool false]) (by simp [results, Tryz.results27, go_sem]) rfl ⟨_, rfl, .inl ⟨rfl, rfl⟩, (Below.refl _ _).alloc (Nat.le_refl _) _⟩

def degL (v : Int) : List Ed → Int
  | [] => 0
  | e :: l => (if e.1 = v then 1 else 0) + (if e.2.2 = v then 1 else 0) + degL v l
theorem degL_snoc (v : Int) (l : List Ed) (e : Ed) : degL v (l ++ [e]) = degL v l + (if e.1 = v then 1 else 0) + (if e.2.2 = v then 1 else 0) := by
  induction l with
  | nil => simp [degL]
  | cons a l ih => simp only [List.cons_append, degL, ih]; omega
theorem degL_range (v : Int) (l : List Ed) : 0 ≤ degL v l ∧ degL v l ≤ 2 * l.length := by
  induction l with
  | nil => simp [degL]
  | cons a l ih => simp only [degL, List.length_cons]; split <;> split <;> omega
theorem degreeOf_any (r n : Int) (v : Value) (l : List Ed) (x : Int) (w : World) (h : Edges w v l) (hn : l.length ≤ 1048576) :
    Calls Tryz.prog 30 #[graphV r n v, .int .i64 x] w (RetV w (.int .i64 (degL x l))) := by
  obtain ⟨A, cap, rfl, hc, hr, hcell⟩ := h
  have H := Lib.hid hcell
  clear hcell
  go_enter Tryz.func30, Tryz.ntmps30
  go_wp2
  have hb0 : Below w.heap.size w (w.alloc (.cells #[.int .i64 r, .int .i64 n, .slice A l.length cap] 26 (0, 0))) := (Below.refl _ _).alloc (Nat.le_refl _) _
  go_loopw [5, 7, 11] (fun d _ i wr => ∃ k : Nat, k ≤ l.length ∧ i = .int .i64 k ∧ d = .int .i64 (degL x (l.take k)) ∧ Below w.heap.size w wr) (fun _ _ i _ => l.length - (intOf i).toNat)
  case atStart => exact ⟨0, by omega, rfl, rfl, hb0⟩
  case round =>
    obtain ⟨k, hk, rfl, rfl, hbel⟩ := hrel
    by_cases hlt : k < l.length
    · obtain ⟨b, off, rfl, hb, hcell⟩ := H.out (by omega)
      obtain ⟨e1, e2, e3⟩ := hcell k hlt
      have c1 := (hbel.cell (p := ⟨b, off + k * 3, none⟩) hb).trans e1
      have c2 := (hbel.cell (p := ⟨b, off + k * 3 + 1, none⟩) hb).trans e2
      have c3 := (hbel.cell (p := ⟨b, off + k * 3 + 2, none⟩) hb).trans e3
      have hs := degL_snoc x (l.take k) l[k]
      rw [← take_get hlt] at hs
      have hrg := degL_range x (l.take k)
      have hlen2 : (l.take k).length ≤ 1048576 := by rw [List.length_take]; omega
      obtain ⟨f1, hf1⟩ : ∃ z, z = l[k].1 := ⟨_, rfl⟩
      obtain ⟨f2, hf2⟩ : ∃ z, z = l[k].2.1 := ⟨_, rfl⟩
      obtain ⟨f3, hf3⟩ : ∃ z, z = l[k].2.2 := ⟨_, rfl⟩
      rw [← hf1] at c1 hs
      rw [← hf2] at c2
      rw [← hf3] at c3 hs
      clear e1 e2 e3 hf1 hf2 hf3 hcell
      obtain ⟨s0, hs0⟩ : ∃ s, s = degL x (l.take k) := ⟨_, rfl⟩
      obtain ⟨s1, hs1⟩ : ∃ s, s = degL x (l.take (k + 1)) := ⟨_, rfl⟩
      rw [← hs0, ← hs1] at hs
      rw [← hs0] at hrg ⊢
      have hS := Lib.hid hs1
      clear hs0 hs1
      by_cases h1 : f1 = x
      · have t1 : (f1 == x) = true := by simp [h1]
        by_cases h3 : f3 = x
        · have t3 : (f3 == x) = true := by simp [h3]
          have e4 : s1 = s0 + 2 := by rw [hs, if_pos h1, if_pos h3] <;> omega
          clear h1 h3 hs
          subst e4
          go_wp2
          go_roundw
          case rel => exact ⟨k + 1, by omega, by go_num, by rw [← hS.out] <;> go_num, hbel.alloc hbel.size _⟩
          case measure => simp [intOf]; omega
        · have t3 : (f3 == x) = false := by simp [h3]
          have e4 : s1 = s0 + 1 := by rw [hs, if_pos h1, if_neg h3] <;> omega
          clear h1 h3 hs
          subst e4
          go_wp2
          go_roundw
          case rel => exact ⟨k + 1, by omega, by go_num, by rw [← hS.out] <;> go_num, hbel.alloc hbel.size _⟩
          case measure => simp [intOf]; omega
      · have t1 : (f1 == x) = false := by simp [h1]
        by_cases h3 : f3 = x
        · have t3 : (f3 == x) = true := by simp [h3]
          have e4 : s1 = s0 + 1 := by rw [hs, if_neg h1, if_pos h3] <;> omega
          clear h1 h3 hs
          subst e4
          go_wp2
          go_roundw
          case rel => exact ⟨k + 1, by omega, by go_num, by rw [← hS.out] <;> go_num, hbel.alloc hbel.size _⟩
          case measure => simp [intOf]; omega
        · have t3 : (f3 == x) = false := by simp [h3]
          have e4 : s1 = s0 + 0 := by rw [hs, if_neg h1, if_neg h3] <;> omega
          clear h1 h3 hs
          subst e4
          go_wp2
          go_roundw
          case rel => exact ⟨k + 1, by omega, by go_num, by rw [← hS.out] <;> go_num, hbel.alloc hbel.size _⟩
          case measure => simp [intOf]; omega
    · obtain rfl : k = l.length := by omega
      have ht : l.take l.length = l := List.take_length
      have hT := Lib.hid ht
      clear ht
      go_wp2
      go_ret
      rw [hT.out]
      exact ⟨rfl, hbel⟩
theorem degreeOfS_any (r n : Int) (v : Value) (l : List Ed) (x : Int) (w : World) (h : Edges w v l) (hn : l.length ≤ 1048576) :
    Calls Tryz.prog 31 #[graphV r n v, .int .i64 x] w (RetV w (.int .i64 (degL x l))) := by
  obtain ⟨A, cap, rfl, hc, hr, hcell⟩ := h
  have H := Lib.hid hcell
  clear hcell
  go_enter Tryz.func31, Tryz.ntmps31
  go_wp2
  have hb0 : Below w.heap.size w (w.alloc (.cells #[.int .i64 r, .int .i64 n, .slice A l.length cap] 26 (0, 0))) := (Below.refl _ _).alloc (Nat.le_refl _) _
  go_loopw [5, 6] (fun d i wr => ∃ k : Nat, k ≤ l.length ∧ i = .int .i64 k ∧ d = .int .i64 (degL x (l.take k)) ∧ wr = w.alloc (.cells #[.int .i64 r, .int .i64 n, .slice A l.length cap] 26 (0, 0)) ∧ Below w.heap.size w wr) (fun _ i _ => l.length - (intOf i).toNat)
  case atStart => exact ⟨0, by omega, rfl, rfl, rfl, hb0⟩
  case round =>
    obtain ⟨k, hk, rfl, rfl, rfl, hbel⟩ := hrel
    by_cases hlt : k < l.length
    · obtain ⟨b, off, rfl, hb, hcell⟩ := H.out (by omega)
      obtain ⟨e1, e2, e3⟩ := hcell k hlt
      have c1 := (hbel.cell (p := ⟨b, off + k * 3, none⟩) hb).trans e1
      have c2 := (hbel.cell (p := ⟨b, off + k * 3 + 1, none⟩) hb).trans e2
      have c3 := (hbel.cell (p := ⟨b, off + k * 3 + 2, none⟩) hb).trans e3
      have hs := degL_snoc x (l.take k) l[k]
      rw [← take_get hlt] at hs
      have hrg := degL_range x (l.take k)
      have hlen2 : (l.take k).length ≤ 1048576 := by rw [List.length_take]; omega
      obtain ⟨f1, hf1⟩ : ∃ z, z = l[k].1 := ⟨_, rfl⟩
      obtain ⟨f2, hf2⟩ : ∃ z, z = l[k].2.1 := ⟨_, rfl⟩
      obtain ⟨f3, hf3⟩ : ∃ z, z = l[k].2.2 := ⟨_, rfl⟩
      rw [← hf1] at c1 hs
      rw [← hf2] at c2
      rw [← hf3] at c3 hs
      clear e1 e2 e3 hf1 hf2 hf3 hcell
      obtain ⟨s0, hs0⟩ : ∃ s, s = degL x (l.take k) := ⟨_, rfl⟩
      obtain ⟨s1, hs1⟩ : ∃ s, s = degL x (l.take (k + 1)) := ⟨_, rfl⟩
      rw [← hs0, ← hs1] at hs
      rw [← hs0] at hrg ⊢
      have hS := Lib.hid hs1
      clear hs0 hs1
      by_cases h1 : f1 = x
      · have t1 : (f1 == x) = true := by simp [h1]
        by_cases h3 : f3 = x
        · have t3 : (f3 == x) = true := by simp [h3]
          have e4 : s1 = s0 + 2 := by rw [hs, if_pos h1, if_pos h3] <;> omega
          clear h1 h3 hs
          subst e4
          go_wp2
          go_roundw
          case rel => exact ⟨k + 1, by omega, by go_num, by rw [← hS.out] <;> go_num, by first | rfl | trivial, hbel⟩
          case measure => simp [intOf]; omega
        · have t3 : (f3 == x) = false := by simp [h3]
          have e4 : s1 = s0 + 1 := by rw [hs, if_pos h1, if_neg h3] <;> omega
          clear h1 h3 hs
          subst e4
          go_wp2
          go_roundw
          case rel => exact ⟨k + 1, by omega, by go_num, by rw [← hS.out] <;> go_num, by first | rfl | trivial, hbel⟩
          case measure => simp [intOf]; omega
      · have t1 : (f1 == x) = false := by simp [h1]
        by_cases h3 : f3 = x
        · have t3 : (f3 == x) = true := by simp [h3]
          have e4 : s1 = s0 + 1 := by rw [hs, if_neg h1, if_pos h3] <;> omega
          clear h1 h3 hs
          subst e4
          go_wp2
          go_roundw
          case rel => exact ⟨k + 1, by omega, by go_num, by rw [← hS.out] <;> go_num, by first | rfl | trivial, hbel⟩
          case measure => simp [intOf]; omega
        · have t3 : (f3 == x) = false := by simp [h3]
          have e4 : s1 = s0 + 0 := by rw [hs, if_neg h1, if_neg h3] <;> omega
          clear h1 h3 hs
          subst e4
          go_wp2
          go_roundw
          case rel => exact ⟨k + 1, by omega, by go_num, by rw [← hS.out] <;> go_num, by first | rfl | trivial, hbel⟩
          case measure => simp [intOf]; omega
    · obtain rfl : k = l.length := by omega
      have ht : l.take l.length = l := List.take_length
      have hT := Lib.hid ht
      clear ht
      go_wp2
      go_ret
      rw [hT.out]
      exact ⟨rfl, hbel⟩

end Go.Proofs.YtpebiacdkfpnpaaGreat
