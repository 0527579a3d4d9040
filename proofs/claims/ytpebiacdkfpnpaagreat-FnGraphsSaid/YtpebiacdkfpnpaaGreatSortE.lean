/- Contracts of slices.SortFunc, slices.Contains and slices.Compact at edges, and of sorted. Conditions: at most 2^20 edges. -/
import Derived.Test.YtpebiacdkfpnpaaGreatShelfE
import Derived.Test.YtpebiacdkfpnpaaGreatAddP
import Derived.Test.YtpebiacdkfpnpaaGreatGraphF
import Derived.Laws.StructEq
import Derived.IntWalk
namespace Go.Proofs.YtpebiacdkfpnpaaGreat
open Go.RowKit Go.Sort

theorem cmpGrow (x y : Ed) (w : World) : Calls Tryz.prog 32 #[edV x, edV y] w fun e w' => e = .returned (.int .i64 (cmpEd x y)) ∧ ∃ q os', w' = grow (w.drewN q) os' := by
  obtain ⟨a1, a2, a3⟩ := x
  obtain ⟨b1, b2, b3⟩ := y
  simp only [cmpEd]
  by_cases h1 : a1 = b1
  · have n1 := cmpI_same h1
    by_cases h2 : a2 = b2
    · have n2 := cmpI_same h2
      have e : cmpE a1 a2 a3 b1 b2 b3 = cmpI a3 b3 := by simp [cmpE, h1, h2]
      rw [e]
      clear e h1 h2
      go_enter Tryz.func32, Tryz.ntmps32
      go_wp2_with (go_at_call 64; refine (compareInts_any _ _ _).mono ?_; rintro e w' ⟨rfl, rfl⟩)
      go_ret
      exact ⟨rfl, 0, _, by rw [alloc_eq_grow, alloc_eq_grow, grow_grow]; rfl⟩
    · have n2 := cmpI_ne h2
      have e : cmpE a1 a2 a3 b1 b2 b3 = cmpI a2 b2 := by simp [cmpE, h1, h2]
      rw [e]
      clear e h1 h2
      go_enter Tryz.func32, Tryz.ntmps32
      go_wp2_with (go_at_call 64; refine (compareInts_any _ _ _).mono ?_; rintro e w' ⟨rfl, rfl⟩)
      go_ret
      exact ⟨rfl, 0, _, by rw [alloc_eq_grow, alloc_eq_grow, grow_grow]; rfl⟩
  · have n1 := cmpI_ne h1
    have e : cmpE a1 a2 a3 b1 b2 b3 = cmpI a1 b1 := by simp [cmpE, h1]
    rw [e]
    clear e h1
    go_enter Tryz.func32, Tryz.ntmps32
    go_wp2_with (go_at_call 64; refine (compareInts_any _ _ _).mono ?_; rintro e w' ⟨rfl, rfl⟩)
    go_ret
    exact ⟨rfl, 0, _, by rw [alloc_eq_grow, alloc_eq_grow, grow_grow]; rfl⟩
theorem cmpLaysE (blk off size : Nat) (w : World) : CmpLays Tryz.prog 32 #[] edC 3 (fun a b : Ed => cmpEd a b) blk off size w :=
  fun _ _ _ _ x y => cmpGrow x y _
theorem edC_len (x : Ed) : (edC x).length = 3 := rfl
theorem edC_one (x : Ed) : ∀ v ∈ edC x, v.oneCell' = true := by
  intro v hv
  simp only [edC, List.mem_cons, List.not_mem_nil, or_false] at hv
  rcases hv with rfl | rfl | rfl <;> rfl
theorem flatK_edges (l : List Ed) : (flatK edC 3 l.toArray).toList = edgesV l := by
  apply List.ext_getElem?
  intro t
  by_cases ht : t < l.length * 3
  · have hs : t < (flatK edC 3 l.toArray).size := by rw [size_flatK]; simpa using ht
    have hg := get_flatK edC 3 l.toArray t (by simpa using ht)
    rw [getElem!_pos _ t hs] at hg
    rw [Array.getElem?_toList, Array.getElem?_eq_getElem hs, hg]
    have hi : t / 3 < l.length := by omega
    have he : l.toArray[t / 3]! = l[t / 3] := by rw [getElem!_pos _ _ (by simpa using hi)]; simp
    rw [he]
    obtain ⟨h1, h2, h3⟩ := edgesV_get l (t / 3) hi
    have hc : (t = t / 3 * 3 ∧ t % 3 = 0) ∨ (t = t / 3 * 3 + 1 ∧ t % 3 = 1) ∨ (t = t / 3 * 3 + 2 ∧ t % 3 = 2) := by omega
    rcases hc with ⟨hc, hm⟩ | ⟨hc, hm⟩ | ⟨hc, hm⟩
    · rw [hm]; conv => rhs; rw [hc]
      rw [h1]; rfl
    · rw [hm]; conv => rhs; rw [hc]
      rw [h2]; rfl
    · rw [hm]; conv => rhs; rw [hc]
      rw [h3]; rfl
  · rw [List.getElem?_eq_none (by simp only [Array.length_toList, size_flatK]; simpa using ht), List.getElem?_eq_none (by rw [edgesV_length]; omega)]
theorem holdsK_own {w : World} {B g cap : Nat} {l : List Ed} (h : w.ownsRow B 28 3 (.slice (some ⟨g, 0, none⟩) l.length cap) l.length (edgesV l)) : HoldsK edC 3 w g 0 l.toArray := by
  intro j hj
  have hj2 : j < l.length * 3 := by rw [size_flatK] at hj; simpa using hj
  have hF := flatK_edges l
  refine ⟨?_, by have := h.frozenAt j; simpa using this⟩
  have hc := h.cellAt j hj2
  rw [Nat.zero_add, hc, ← hF, Array.getElem?_toList, Array.getElem?_eq_getElem hj, getElem!_pos _ j hj]
  rfl
theorem heap_sortedK {w : World} {g n : Nat} {os : Array Obj} {cur : Array Value} {e : TypeId} {fr : Nat × Nat} (F : Array Value) (hb : w.heap[g]? = some (.cells cur e fr)) :
    (grow (putRow id (Sort.ahead w n) g 0 F) os).heap[g]? = some (.cells (putCells id 0 F cur) e fr) := by
  have hg : g < w.heap.size := (Array.getElem?_eq_some_iff.1 hb).1
  rw [heap_grow_old _ _ (by simpa using hg)]
  simp [putRow, mapBlock, Sort.ahead, Array.getElem?_modify, hb, onCells]
theorem grownBy_sortedK {w : World} {g n : Nat} {os : Array Obj} (F : Array Value) : w.grownBy (grow (putRow id (Sort.ahead w n) g 0 F) os) (some g) := by
  refine ⟨rfl, rfl, rfl, by simp, fun k hk hne => ?_⟩
  rw [heap_grow_old _ _ (by simpa using hk)]
  have : g ≠ k := fun e => hne (by rw [e])
  simp [putRow, mapBlock, Sort.ahead, Array.getElem?_modify, this]
theorem take_putCellsK (cur F : Array Value) (h : F.size ≤ cur.size) : (putCells id 0 F cur).toList.take F.size = F.toList := by
  apply List.ext_getElem?
  intro j
  by_cases hj : j < F.size
  · rw [List.getElem?_take_of_lt hj, Array.getElem?_toList]
    simp [putCells, hj, show j < cur.size by omega]
  · rw [List.getElem?_take_eq_none (by omega), List.getElem?_eq_none (by simp; omega)]
/-- Behind the sort the same slice owns the sorted list. -/
theorem ownsRow_sortedK {w : World} {B g cap n : Nat} {os : Array Obj} {l s : List Ed} (hl : s.length = l.length) (h : w.ownsRow B 28 3 (.slice (some ⟨g, 0, none⟩) l.length cap) l.length (edgesV l)) :
    (sortWorldK edC 3 w g 0 n s.toArray os).ownsRow B 28 3 (.slice (some ⟨g, 0, none⟩) s.length cap) s.length (edgesV s) ∧ w.grownBy (sortWorldK edC 3 w g 0 n s.toArray os) (some g) := by
  refine ⟨?_, grownBy_sortedK _⟩
  rcases h.2 with ⟨hv, _⟩ | ⟨g0, cap0, cur, hv, hbg, hgg, hnc, hcm, hcs, _⟩
  · cases hv
  · simp only [Value.slice.injEq, Option.some.injEq, Addr.mk.injEq, and_true, true_and] at hv
    obtain ⟨rfl, rfl⟩ := hv
    have hF := flatK_edges s
    have hFs : (flatK edC 3 s.toArray).size = s.length * 3 := by rw [size_flatK]; simp
    refine ⟨edgesV_length s, .inr ⟨g, cap, _, rfl, hbg, heap_sortedK _ hgg, by omega, hcm, by simp [putCells, hcs], ?_⟩⟩
    rw [← hFs, take_putCellsK _ _ (by rw [hFs, hcs, hl]; exact Nat.mul_le_mul_right _ hnc), hF]
theorem sortE_len (l : List Ed) : (sortE l).length = l.length := List.length_mergeSort l
theorem sortE_mem {l : List Ed} {e : Ed} : e ∈ sortE l ↔ e ∈ l := List.mem_mergeSort
/-- slices.SortFunc of a row of the call's own, by CompareEdges. -/
theorem sortFunc_any (g cap B : Nat) (l : List Ed) (w : World) (h : w.ownsRow B 28 3 (.slice (some ⟨g, 0, none⟩) l.length cap) l.length (edgesV l)) (hn : l.length ≤ 1048577) :
    Calls Tryz.prog 70 #[.slice (some ⟨g, 0, none⟩) l.length cap, .func (.func 32) #[] #[]] w fun e w' => e = .returned (.tuple #[]) ∧
      w'.ownsRow B 28 3 (.slice (some ⟨g, 0, none⟩) l.length cap) l.length (edgesV (sortE l)) ∧ w.grownBy w' (some g) := by
  have eg : ∀ args w, (callFunc 32 args).run Tryz.prog w = .ok (.enter 32 args) w := enters_of Tryz.func32 (by kernel_rfl) rfl
  have hcon := AnyQ.slices_SortFunc_total Tryz.sortFE 3 Tryz.isAgg28 Tryz.sizeOf28 edC edC_len edC_one (fun a b : Ed => cmpEd a b) swoE 32 #[] g 0 cap l.toArray w eg (cmpLaysE _ _ _ _) (holdsK_own h) (ownsRow_parts h).2.1 (by simp; omega) ltB_part
  have h9 : Calls Tryz.prog 70 #[.slice (some ⟨g, 0, none⟩) l.length cap, .func (.func 32) #[] #[]] w fun e w' => e = .returned (.tuple #[]) ∧ ∃ n os, w' = sortWorldK edC 3 w g 0 n (sortE l).toArray os := by
    have hs : l.toArray.size = l.length := by simp
    rw [hs] at hcon
    exact hcon
  refine h9.mono ?_
  rintro e w' ⟨rfl, n, os, rfl⟩
  have h2 := ownsRow_sortedK (n := n) (os := os) (sortE_len l) h
  rw [sortE_len] at h2
  exact ⟨rfl, h2⟩
theorem eql_edge (x y : Ed) (w : World) : (binOp .eql 28 (edV x) (edV y)).run Tryz.prog w = .ok (.bool (decide (x = y))) w := by
  have u3 := Tryz.underlying3
  have a3 := Tryz.isAgg3
  have z3 := Tryz.sizeOf3
  have hS : Tryz.prog.underlying 28 = some (.struct (Tryz.prog.fieldsOf 28)) := by kernel_rfl
  have hp : Tryz.prog.stoodInHeld 28 = false := by kernel_rfl
  rw [run_eql_struct, show (10000 : Nat) = 9999 + 1 from rfl, run_equalIn_agg w 9999 28 _ _ hS hp]
  simp only [Program.fieldsOf, Tryz.underlying28]
  go_simp
  obtain ⟨a, b, c⟩ := x
  obtain ⟨d, e, f⟩ := y
  by_cases h1 : a = d <;> by_cases h2 : b = e <;> by_cases h3 : c = f <;> simp [h1, h2, h3]
/-- slices.Compact of a row in order, each edge once: it is as it was. -/
theorem compactE_any (g cap B : Nat) (l : List Ed) (w : World) (h : w.ownsRow B 28 3 (.slice (some ⟨g, 0, none⟩) l.length cap) l.length (edgesV l)) (hn : l.length ≤ 1048577) (ha : Asc l) :
    Calls Tryz.prog 71 #[.slice (some ⟨g, 0, none⟩) l.length cap] w fun e w' => e = .returned (.slice (some ⟨g, 0, none⟩) l.length cap) ∧ ∃ n, w' = w.drewN n := by
  by_cases h2 : (l.length : Int) < 2
  · go_enter Tryz.func71, Tryz.ntmps71
    go_wp2
    go_ret
    exact ⟨rfl, 0, rfl⟩
  · go_enter Tryz.func71, Tryz.ntmps71
    have HA := Lib.hid ha
    have HO := Lib.hid h
    clear ha h
    go_wp2
    go_loopw [3, 4, 5] (fun i _ _ wr => ∃ k n : Nat, 1 ≤ k ∧ k ≤ l.length ∧ i = .int .i64 k ∧ wr = w.drewN n) (fun i _ _ _ => l.length - (intOf i).toNat)
    case atStart => exact ⟨1, 0, by omega, by omega, rfl, rfl⟩
    case round =>
      obtain ⟨k, n, hk1, hk, rfl, rfl⟩ := hrel
      by_cases hlt : k < l.length
      · have hkI : (k : Int) < (l.length : Int) := by omega
        obtain ⟨q, hq⟩ : ∃ q, q = k - 1 := ⟨_, rfl⟩
        have hwq : IntKind.i64.wrap ((k : Int) - 1) = (q : Int) := by rw [IntWalk.i64_in _ (by omega)]; omega
        have hql : q < l.length := by omega
        have hqI : (q : Int) < (l.length : Int) := by omega
        have hd : l[q] ≠ l[k] := fun e => by
          have := List.pairwise_iff_getElem.1 HA.out q k hql hlt (by omega)
          rw [e] at this; exact ltE_irrefl _ this
        obtain ⟨e1, e2, e3⟩ := edgesV_get l k hlt
        obtain ⟨d1, d2, d3⟩ := edgesV_get l q hql
        have c1 := (HO.out.cellAt (k * 3) (by omega)).trans e1
        have c2 := (HO.out.cellAt (k * 3 + 1) (by omega)).trans e2
        have c3 := (HO.out.cellAt (k * 3 + 2) (by omega)).trans e3
        have b1 := (HO.out.cellAt (q * 3) (by omega)).trans d1
        have b2 := (HO.out.cellAt (q * 3 + 1) (by omega)).trans d2
        have b3 := (HO.out.cellAt (q * 3 + 2) (by omega)).trans d3
        have hne := fun w => eql_edge l[k] l[q] w
        have hf : decide (l[k] = l[q]) = false := decide_eq_false fun e => hd e.symm
        rw [hf] at hne
        clear e1 e2 e3 d1 d2 d3 hd hf hq
        go_wp2
        go_quiet (fail)
        go_wp2
        go_roundw
        case rel => exact ⟨k + 1, n + nq, by omega, by omega, by go_num, rfl⟩
        case measure => simp [intOf]; omega
      · obtain rfl : k = l.length := by omega
        go_wp2
        go_ret
        exact ⟨rfl, n, rfl⟩
theorem indexE_none (A : Option Addr) (cap : Nat) (e : Ed) (w : World) :
    Calls Tryz.prog 69 #[.slice A 0 cap, edV e] w fun r w' => r = .returned (.int .i64 (-1)) ∧ Below w.heap.size w w' := by
  go_enter Tryz.func69, Tryz.ntmps69
  go_wp2
  refine wp_loop_rounds 1 ?_
  rw [rounds_succ]
  go_wp2
  go_ret
  exact ⟨rfl, (Below.refl _ _).alloc (Nat.le_refl _) _⟩
theorem containsE_none (A : Option Addr) (cap : Nat) (e : Ed) (w : World) :
    Calls Tryz.prog 40 #[.slice A 0 cap, edV e] w (RetV w (.bool false)) := by
  have hi := fun W => indexE_none A cap e W
  go_enter Tryz.func40, Tryz.ntmps40
  go_wp2_with fail
  refine (hi _).mono ?_
  rintro r w1 ⟨rfl, hb⟩
  go_wp2
  go_ret
  exact ⟨rfl, ((Below.refl _ _).alloc (Nat.le_refl _) _).trans (hb.mono (by simp))⟩
/-- slices.Contains at edges. -/
theorem containsE_any (v : Value) (l : List Ed) (e : Ed) (w : World) (h : Edges w v l) (hn : l.length ≤ 1048576) :
    Calls Tryz.prog 40 #[v, edV e] w (RetV w (.bool (decide (e ∈ l)))) := by
  obtain ⟨A, cap, rfl, hc, hr, hcell⟩ := h
  by_cases h0 : l.length = 0
  · have hl : l = [] := List.eq_nil_of_length_eq_zero h0
    subst hl
    have := containsE_none A cap e w
    simpa using this
  · obtain ⟨b, off, rfl, hb, hx⟩ := hcell (by omega)
    have heq : EqlAt Tryz.prog 28 (fun x : Ed => .agg (edC x).toArray) (fun x y => decide (x = y)) := ⟨fun x y w => eql_edge x y w, GuardAt.agg _ (by kernel_rfl)⟩
    have hcon := AnyQ.slices_Contains Tryz.containsFE 3 Tryz.isAgg28 Tryz.sizeOf28 edC edC_len (fun x y => decide (x = y)) heq b off l.length cap l e w (Nat.le_refl _) (by omega) (fun j hj i v hv => by
      obtain ⟨h1, h2, h3⟩ := hx j hj
      have he : l[j]! = l[j] := getElem!_pos l j hj
      rw [he] at hv
      have hi : i < 3 := (List.getElem?_eq_some_iff.1 hv).1
      rcases (show i = 0 ∨ i = 1 ∨ i = 2 by omega) with rfl | rfl | rfl
      · simp only [edC, List.getElem?_cons_zero, Option.some.injEq] at hv
        rw [← hv]; exact h1
      · simp only [edC, List.getElem?_cons_succ, List.getElem?_cons_zero, Option.some.injEq] at hv
        rw [← hv]; exact h2
      · simp only [edC, List.getElem?_cons_succ, List.getElem?_cons_zero, Option.some.injEq] at hv
        rw [← hv]; exact h3)
    have h9 : Calls Tryz.prog 40 #[.slice (some ⟨b, off, none⟩) l.length cap, edV e] w fun r w' => r = .returned (.bool ((l.take l.length).any fun y => decide (e = y))) ∧ Below w.heap.size w w' := hcon
    refine h9.mono ?_
    rintro r w' ⟨rfl, hbw⟩
    refine ⟨?_, hbw⟩
    rw [List.take_length]
    congr 2
    rw [Bool.eq_iff_iff, List.any_eq_true, decide_eq_true_iff]
    constructor
    · rintro ⟨y, hy, he⟩; rw [of_decide_eq_true he]; exact hy
    · intro hm; exact ⟨e, hm, decide_eq_true rfl⟩
/-- sorted, of a list that has no edge twice. -/
theorem sortedE_any (v : Value) (l : List Ed) (w : World) (h : Edges w v l) (h0 : 0 < l.length) (hn : l.length ≤ 1048577) (ha : Asc (sortE l)) :
    Calls Tryz.prog 41 #[v] w fun e w' => ∃ v', e = .returned v' ∧ OwnE w' w.heap.size v' (sortE l) ∧ Below w.heap.size w w' := by
  have hkeep := h
  obtain ⟨A, cap, rfl, hc, hr, hcell⟩ := h
  obtain ⟨b, off, rfl, _⟩ := hcell h0
  have hnews := (hkeep.keep ((Below.refl w.heap.size w).alloc (Nat.le_refl _) (.cells #[] 28 (0, 0)))).news
  have HNW := Lib.hid hnews
  have HR := Lib.hid hr
  have HA := Lib.hid ha
  clear hcell hkeep hnews hr ha
  go_enter Tryz.func41, Tryz.ntmps41
  go_wp2_with (at_builtin; refine wpl_app elemE rfl (.tmp 4) (.tmp 5) rfl rfl (World.ownsRow_made _ _ _ (Nat.le_refl _) (by decide) rfl) rfl (by rw [edgesV_length]) HNW.out (edgesV_one _) (by omega) ?_; intro g1 c1 w1 hown1 hgrow1 hat1; simp only [Nat.zero_add, List.nil_append] at hown1; have hb1 := below_push (Below.refl _ _) hgrow1 (Nat.le_refl _) (Nat.le_refl _))
  refine (sortFunc_any g1 c1 w.heap.size l w1 hown1 hn).mono ?_
  rintro e w2 ⟨rfl, hown2, hgrow2⟩
  have hb2 := below_grown hb1 hgrow2 hb1.size (ownsRow_parts hown1).1
  have hcp := compactE_any g1 c1 w.heap.size (sortE l) w2 (by rw [sortE_len]; exact hown2) (by rw [sortE_len]; exact hn) HA.out
  rw [sortE_len] at hcp
  have HCP := Lib.hid hcp
  clear hcp
  go_wp2_with fail
  refine (HCP.out).mono ?_
  rintro e w3 ⟨rfl, n, rfl⟩
  go_wp2
  go_ret
  exact ⟨.slice (some ⟨g1, 0, none⟩) l.length c1, rfl, ⟨g1, c1, by rw [sortE_len], by rw [sortE_len]; exact ownsRow_drewN n hown2, fun e he => HR.out e (sortE_mem.1 he)⟩, below_drewN n hb2⟩
end Go.Proofs.YtpebiacdkfpnpaaGreat
