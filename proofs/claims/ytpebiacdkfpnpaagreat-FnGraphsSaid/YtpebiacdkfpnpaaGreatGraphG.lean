/- Contracts of AddVertex. Conditions: at most 2^20 edges. -/
import Derived.Test.YtpebiacdkfpnpaaGreatGraphF
import Derived.Test.YtpebiacdkfpnpaaGreatGraphD
namespace Go.Proofs.YtpebiacdkfpnpaaGreat
open Go.RowKit

def addOk (r n : Int) (l : List Ed) : Bool := isG r n l && decide (n ≠ 40)
def addN (r n : Int) (l : List Ed) : Int := match addOk r n l with
  | true => n + 1
  | false => n
theorem addV_no {r n : Int} {l : List Ed} (h : isG r n l = false) : addOk r n l = false ∧ addN r n l = n := by
  have e : addOk r n l = false := by simp [addOk, h]
  exact ⟨e, by simp only [addN, e]⟩
theorem addV_40 {r n : Int} {l : List Ed} (h : n = 40) : addOk r n l = false ∧ addN r n l = n := by
  have e : addOk r n l = false := by simp [addOk, h]
  exact ⟨e, by simp only [addN, e]⟩
theorem addV_yes {r n : Int} {l : List Ed} (h : isG r n l = true) (h2 : n ≠ 40) : addOk r n l = true ∧ addN r n l = n + 1 := by
  have e : addOk r n l = true := by simp [addOk, h, h2]
  exact ⟨e, by simp only [addN, e]⟩
theorem isG_n_le {r n : Int} {l : List Ed} (h : isG r n l = true) : 1 ≤ n ∧ n ≤ 40 := by
  by_cases h1 : 1 ≤ n ∧ n ≤ 40
  · exact h1
  · rw [isG_n h1] at h; cases h
set_option maxHeartbeats 1600000 in
theorem addVertex_any (r n : Int) (v : Value) (l : List Ed) (w : World) (h : Edges w v l) (hk : NilOk v) (hn : l.length ≤ 1048576) :
    Calls Tryz.prog 21 #[graphV r n v] w (RetG2 w r (addN r n l) l (.bool (addOk r n l))) := by
  obtain ⟨W, hW⟩ : ∃ W, W = ((w.alloc (.cells #[.int .i64 r, .int .i64 n, v] 26 (0, 0))).alloc (.cells #[.int .i64 0, .int .i64 0, .slice none 0 0] 26 (0, 0))) := ⟨_, rfl⟩
  have hB : Below w.heap.size w W := by rw [hW]; exact ((Below.refl _ _).alloc (Nat.le_refl _) _).alloc (by simp) _
  have bx1 : Box W w.heap.size (.cells #[.int .i64 r, .int .i64 n, v] 26 (0, 0)) := by rw [hW]; exact Box.first _ _ _
  have bx2 : Box W (w.heap.size + 1) (.cells #[.int .i64 0, .int .i64 0, .slice none 0 0] 26 (0, 0)) := by rw [hW]; exact Box.two _ _ _
  have hcp := copyGraph_any r n v l W (h.keep hB) hk hn
  obtain ⟨y, hy⟩ : ∃ y, y = isG r n l := ⟨_, rfl⟩
  have hq := fun W' (hb : Below w.heap.size w W') => isGraph_any r n v l W' (h.keep hb) hn
  rw [← hy] at hq
  have HQ := Lib.hid hq
  have HCP := Lib.hid hcp
  have hsz : W.heap.size = w.heap.size + 2 := by rw [hW]; simp
  have HSZ := Lib.hid hsz
  clear hsz
  have HW := Lib.hid hW
  have BX1 := Lib.hid bx1
  have BX2 := Lib.hid bx2
  have HY := Lib.hid hy
  obtain ⟨A, cap, rfl, _⟩ := id h
  clear hW bx1 bx2 hq hcp hy h hk
  go_enter Tryz.func21, Tryz.ntmps21
  go_wp2_with fail
  rw [← HW.out]
  refine (HCP.out).mono ?_
  rintro e w1 ⟨v1, rfl, o1, hb1⟩
  obtain ⟨g, cap1, rfl, hown, hI⟩ := o1
  have hB1 := hB.trans (hb1.mono hB.size)
  obtain ⟨W2, hW2⟩ : ∃ W2, W2 = w1.alloc (.cells #[.int .i64 r, .int .i64 n, .slice (some ⟨g, 0, none⟩) l.length cap1] 26 (0, 0)) := ⟨_, rfl⟩
  have hb2 : Below w1.heap.size w1 W2 := by rw [hW2]; exact (Below.refl _ _).alloc (Nat.le_refl _) _
  have bx3 : Box W2 w1.heap.size (.cells #[.int .i64 r, .int .i64 n, .slice (some ⟨g, 0, none⟩) l.length cap1] 26 (0, 0)) := by rw [hW2]; exact Box.new _ _
  have BX3 := Lib.hid bx3
  have HW2 := Lib.hid hW2
  have hbW2 := hb1.trans (hb2.mono hb1.size)
  obtain ⟨q1, q2, q3⟩ := (BX1.out.keep hb1).cells
  obtain ⟨r1, r2, r3⟩ := (BX1.out.keep hbW2).cells
  rw [hW2] at r1 r2 r3
  clear hW2 bx3
  go_wp2_with fail
  rw [← HW2.out]
  refine (HQ.out _ (hB.trans (hbW2.mono hB.size))).mono ?_
  rintro e w3 ⟨rfl, hb3⟩
  have hb4 := hbW2.trans (hb3.mono hbW2.size)
  have hB4 := hB.trans (hb4.mono hB.size)
  have ho3 := ownsRow_keep (ownsRow_keep hown hb2) hb3
  have hg1 : w.heap.size + 1 < g := by have := (ownsRow_parts hown).1; have := HSZ.out; omega
  have hg2 : g < w1.heap.size := (ownsRow_parts hown).2.1
  have hs1 : w.heap.size + 1 < w1.heap.size := by omega
  clear q1 q2 q3 r1 r2 r3
  obtain ⟨q1, q2, q3⟩ := (BX1.out.keep hb4).cells
  obtain ⟨p1, p2, p3⟩ := (BX2.out.keep hb4).cells
  have f1 := (BX2.out.keep hb4).frozen 0
  have f2 := (BX2.out.keep hb4).frozen 1
  have f3 := (BX2.out.keep hb4).frozen 2
  obtain ⟨r1, r2, r3⟩ := (BX3.out.keep hb3).cells
  have f4 := (BX3.out.keep hb3).frozen 1
  have hfin : ∀ (x : Int), OwnN (((w3.setCell ⟨w.heap.size + 1, 0, none⟩ (.int .i64 r)).setCell ⟨w.heap.size + 1, 1, none⟩ (.int .i64 x)).setCell ⟨w.heap.size + 1, 2, none⟩ (.slice (some ⟨g, 0, none⟩) l.length cap1)) w.heap.size (.slice (some ⟨g, 0, none⟩) l.length cap1) l := fun x => .inr ⟨g, cap1, rfl, ownsRow_same (ownsRow_base ho3 hB.size) fun k hk => by
    cases hk
    rw [Below.heap_setCell _ _ _ _ (by simp; omega), Below.heap_setCell _ _ _ _ (by simp; omega), Below.heap_setCell _ _ _ _ (by simp; omega)], hI⟩
  have hbel : ∀ (x : Int), Below w.heap.size w (((w3.setCell ⟨w.heap.size + 1, 0, none⟩ (.int .i64 r)).setCell ⟨w.heap.size + 1, 1, none⟩ (.int .i64 x)).setCell ⟨w.heap.size + 1, 2, none⟩ (.slice (some ⟨g, 0, none⟩) l.length cap1)) := fun x => ((hB4.setCell (by simp) _).setCell (by simp) _).setCell (by simp) _
  have hfin2 : OwnN ((((w3.setCell ⟨w1.heap.size, 1, none⟩ (.int .i64 (n + 1))).setCell ⟨w.heap.size + 1, 0, none⟩ (.int .i64 r)).setCell ⟨w.heap.size + 1, 1, none⟩ (.int .i64 (n + 1))).setCell ⟨w.heap.size + 1, 2, none⟩ (.slice (some ⟨g, 0, none⟩) l.length cap1)) w.heap.size (.slice (some ⟨g, 0, none⟩) l.length cap1) l := .inr ⟨g, cap1, rfl, ownsRow_same (ownsRow_base ho3 hB.size) fun k hk => by
    cases hk
    rw [Below.heap_setCell _ _ _ _ (by simp; omega), Below.heap_setCell _ _ _ _ (by simp; omega), Below.heap_setCell _ _ _ _ (by simp; omega), Below.heap_setCell _ _ _ _ (by simp; omega)], hI⟩
  have hbel2 : Below w.heap.size w ((((w3.setCell ⟨w1.heap.size, 1, none⟩ (.int .i64 (n + 1))).setCell ⟨w.heap.size + 1, 0, none⟩ (.int .i64 r)).setCell ⟨w.heap.size + 1, 1, none⟩ (.int .i64 (n + 1))).setCell ⟨w.heap.size + 1, 2, none⟩ (.slice (some ⟨g, 0, none⟩) l.length cap1)) := (((hB4.setCell (by simp; omega) _).setCell (by simp) _).setCell (by simp) _).setCell (by simp) _
  have HF := Lib.hid hfin
  have HB := Lib.hid hbel
  have HF2 := Lib.hid hfin2
  have HB2 := Lib.hid hbel2
  clear hfin hbel hfin2 hbel2 hown ho3
  cases y with
  | false =>
    have hst := addV_no HY.out.symm
    have HST := Lib.hid hst
    clear hst
    go_wp2
    exact bodyPost_ret (v := .tuple #[graphV r n (.slice (some ⟨g, 0, none⟩) l.length cap1), .bool false]) (by simp [results, Tryz.results21, go_sem, p1, p2, p3]) rfl ⟨_, by rw [HST.out.1, HST.out.2], HF.out n, HB.out n⟩
  | true =>
    by_cases h40 : n = 40
    · have t1 : (n == 40) = true := by simp [h40]
      have hst := addV_40 (r := r) (l := l) h40
      have HST := Lib.hid hst
      clear hst h40
      go_wp2
      exact bodyPost_ret (v := .tuple #[graphV r n (.slice (some ⟨g, 0, none⟩) l.length cap1), .bool false]) (by simp [results, Tryz.results21, go_sem, p1, p2, p3]) rfl ⟨_, by rw [HST.out.1, HST.out.2], HF.out n, HB.out n⟩
    · have t1 : (n == 40) = false := by simp [h40]
      have hst := addV_yes HY.out.symm h40
      have HST := Lib.hid hst
      have hr40 := isG_n_le HY.out.symm
      have hn1 : 1 ≤ n := hr40.1
      have hn2 : n ≤ 40 := hr40.2
      clear hst h40 hr40
      go_wp2
      exact bodyPost_ret (v := .tuple #[graphV r (n + 1) (.slice (some ⟨g, 0, none⟩) l.length cap1), .bool true]) (by simp [results, Tryz.results21, go_sem, p1, p2, p3]) rfl ⟨_, by rw [HST.out.1, HST.out.2], HF2.out, HB2.out⟩
set_option maxHeartbeats 1600000 in
theorem addVertexS_any (r n : Int) (v : Value) (l : List Ed) (w : World) (h : Edges w v l) (hk : NilOk v) (hn : l.length ≤ 1048576) :
    Calls Tryz.prog 22 #[graphV r n v] w (RetG2 w r (addN r n l) l (.bool (addOk r n l))) := by
  obtain ⟨W, hW⟩ : ∃ W, W = ((w.alloc (.cells #[.int .i64 r, .int .i64 n, v] 26 (0, 0))).alloc (.cells #[.int .i64 0, .int .i64 0, .slice none 0 0] 26 (0, 0))) := ⟨_, rfl⟩
  have hB : Below w.heap.size w W := by rw [hW]; exact ((Below.refl _ _).alloc (Nat.le_refl _) _).alloc (by simp) _
  have bx1 : Box W w.heap.size (.cells #[.int .i64 r, .int .i64 n, v] 26 (0, 0)) := by rw [hW]; exact Box.first _ _ _
  have bx2 : Box W (w.heap.size + 1) (.cells #[.int .i64 0, .int .i64 0, .slice none 0 0] 26 (0, 0)) := by rw [hW]; exact Box.two _ _ _
  have hcp := l4Copy_any r n v l W (h.keep hB) hk hn
  obtain ⟨y, hy⟩ : ∃ y, y = isG r n l := ⟨_, rfl⟩
  have hq := fun W' (hb : Below w.heap.size w W') => isGraphS_any r n v l W' (h.keep hb) hn
  rw [← hy] at hq
  have HQ := Lib.hid hq
  have HCP := Lib.hid hcp
  have hsz : W.heap.size = w.heap.size + 2 := by rw [hW]; simp
  have HSZ := Lib.hid hsz
  clear hsz
  have HW := Lib.hid hW
  have BX1 := Lib.hid bx1
  have BX2 := Lib.hid bx2
  have HY := Lib.hid hy
  obtain ⟨A, cap, rfl, _⟩ := id h
  clear hW bx1 bx2 hq hcp hy h hk
  go_enter Tryz.func22, Tryz.ntmps22
  go_wp2_with fail
  rw [← HW.out]
  refine (HCP.out).mono ?_
  rintro e w1 ⟨v1, rfl, o1, hb1⟩
  obtain ⟨g, cap1, rfl, hown, hI⟩ := o1
  have hB1 := hB.trans (hb1.mono hB.size)
  obtain ⟨W2, hW2⟩ : ∃ W2, W2 = w1.alloc (.cells #[.int .i64 r, .int .i64 n, .slice (some ⟨g, 0, none⟩) l.length cap1] 26 (0, 0)) := ⟨_, rfl⟩
  have hb2 : Below w1.heap.size w1 W2 := by rw [hW2]; exact (Below.refl _ _).alloc (Nat.le_refl _) _
  have bx3 : Box W2 w1.heap.size (.cells #[.int .i64 r, .int .i64 n, .slice (some ⟨g, 0, none⟩) l.length cap1] 26 (0, 0)) := by rw [hW2]; exact Box.new _ _
  have BX3 := Lib.hid bx3
  have HW2 := Lib.hid hW2
  have hbW2 := hb1.trans (hb2.mono hb1.size)
  obtain ⟨q1, q2, q3⟩ := (BX1.out.keep hb1).cells
  obtain ⟨r1, r2, r3⟩ := (BX1.out.keep hbW2).cells
  rw [hW2] at r1 r2 r3
  clear hW2 bx3
  go_wp2_with fail
  rw [← HW2.out]
  refine (HQ.out _ (hB.trans (hbW2.mono hB.size))).mono ?_
  rintro e w3 ⟨rfl, hb3⟩
  have hb4 := hbW2.trans (hb3.mono hbW2.size)
  have hB4 := hB.trans (hb4.mono hB.size)
  have ho3 := ownsRow_keep (ownsRow_keep hown hb2) hb3
  have hg1 : w.heap.size + 1 < g := by have := (ownsRow_parts hown).1; have := HSZ.out; omega
  have hg2 : g < w1.heap.size := (ownsRow_parts hown).2.1
  have hs1 : w.heap.size + 1 < w1.heap.size := by omega
  clear q1 q2 q3 r1 r2 r3
  obtain ⟨q1, q2, q3⟩ := (BX1.out.keep hb4).cells
  obtain ⟨p1, p2, p3⟩ := (BX2.out.keep hb4).cells
  have f1 := (BX2.out.keep hb4).frozen 0
  have f2 := (BX2.out.keep hb4).frozen 1
  have f3 := (BX2.out.keep hb4).frozen 2
  obtain ⟨r1, r2, r3⟩ := (BX3.out.keep hb3).cells
  have f4 := (BX3.out.keep hb3).frozen 1
  have hfin : ∀ (x : Int), OwnN (((w3.setCell ⟨w.heap.size + 1, 0, none⟩ (.int .i64 r)).setCell ⟨w.heap.size + 1, 1, none⟩ (.int .i64 x)).setCell ⟨w.heap.size + 1, 2, none⟩ (.slice (some ⟨g, 0, none⟩) l.length cap1)) w.heap.size (.slice (some ⟨g, 0, none⟩) l.length cap1) l := fun x => .inr ⟨g, cap1, rfl, ownsRow_same (ownsRow_base ho3 hB.size) fun k hk => by
    cases hk
    rw [Below.heap_setCell _ _ _ _ (by simp; omega), Below.heap_setCell _ _ _ _ (by simp; omega), Below.heap_setCell _ _ _ _ (by simp; omega)], hI⟩
  have hbel : ∀ (x : Int), Below w.heap.size w (((w3.setCell ⟨w.heap.size + 1, 0, none⟩ (.int .i64 r)).setCell ⟨w.heap.size + 1, 1, none⟩ (.int .i64 x)).setCell ⟨w.heap.size + 1, 2, none⟩ (.slice (some ⟨g, 0, none⟩) l.length cap1)) := fun x => ((hB4.setCell (by simp) _).setCell (by simp) _).setCell (by simp) _
  have hfin2 : OwnN ((((w3.setCell ⟨w1.heap.size, 1, none⟩ (.int .i64 (n + 1))).setCell ⟨w.heap.size + 1, 0, none⟩ (.int .i64 r)).setCell ⟨w.heap.size + 1, 1, none⟩ (.int .i64 (n + 1))).setCell ⟨w.heap.size + 1, 2, none⟩ (.slice (some ⟨g, 0, none⟩) l.length cap1)) w.heap.size (.slice (some ⟨g, 0, none⟩) l.length cap1) l := .inr ⟨g, cap1, rfl, ownsRow_same (ownsRow_base ho3 hB.size) fun k hk => by
    cases hk
    rw [Below.heap_setCell _ _ _ _ (by simp; omega), Below.heap_setCell _ _ _ _ (by simp; omega), Below.heap_setCell _ _ _ _ (by simp; omega), Below.heap_setCell _ _ _ _ (by simp; omega)], hI⟩
  have hbel2 : Below w.heap.size w ((((w3.setCell ⟨w1.heap.size, 1, none⟩ (.int .i64 (n + 1))).setCell ⟨w.heap.size + 1, 0, none⟩ (.int .i64 r)).setCell ⟨w.heap.size + 1, 1, none⟩ (.int .i64 (n + 1))).setCell ⟨w.heap.size + 1, 2, none⟩ (.slice (some ⟨g, 0, none⟩) l.length cap1)) := (((hB4.setCell (by simp; omega) _).setCell (by simp) _).setCell (by simp) _).setCell (by simp) _
  have HF := Lib.hid hfin
  have HB := Lib.hid hbel
  have HF2 := Lib.hid hfin2
  have HB2 := Lib.hid hbel2
  clear hfin hbel hfin2 hbel2 hown ho3
  cases y with
  | false =>
    have hst := addV_no HY.out.symm
    have HST := Lib.hid hst
    clear hst
    go_wp2
    exact bodyPost_ret (v := .tuple #[graphV r n (.slice (some ⟨g, 0, none⟩) l.length cap1), .bool false]) (by simp [results, Tryz.results22, go_sem, p1, p2, p3]) rfl ⟨_, by rw [HST.out.1, HST.out.2], HF.out n, HB.out n⟩
  | true =>
    by_cases h40 : n = 40
    · have t1 : decide ((40 : Int) ≤ n) = true := decide_eq_true (by omega)
      have t2 : (40 : Int) ≤ n := by omega
      have hst := addV_40 (r := r) (l := l) h40
      have HST := Lib.hid hst
      clear hst h40
      go_wp2
      exact bodyPost_ret (v := .tuple #[graphV r n (.slice (some ⟨g, 0, none⟩) l.length cap1), .bool false]) (by simp [results, Tryz.results22, go_sem, p1, p2, p3]) rfl ⟨_, by rw [HST.out.1, HST.out.2], HF.out n, HB.out n⟩
    · have t1 : decide ((40 : Int) ≤ n) = false := decide_eq_false (by have := (isG_n_le HY.out.symm).2; omega)
      have t2 : n < 40 := by have := (isG_n_le HY.out.symm).2; omega
      have hst := addV_yes HY.out.symm h40
      have HST := Lib.hid hst
      have hr40 := isG_n_le HY.out.symm
      have hn1 : 1 ≤ n := hr40.1
      have hn2 : n ≤ 40 := hr40.2
      clear hst h40 hr40
      go_wp2
      exact bodyPost_ret (v := .tuple #[graphV r (n + 1) (.slice (some ⟨g, 0, none⟩) l.length cap1), .bool true]) (by simp [results, Tryz.results22, go_sem, p1, p2, p3]) rfl ⟨_, by rw [HST.out.1, HST.out.2], HF2.out, HB2.out⟩
end Go.Proofs.YtpebiacdkfpnpaaGreat
