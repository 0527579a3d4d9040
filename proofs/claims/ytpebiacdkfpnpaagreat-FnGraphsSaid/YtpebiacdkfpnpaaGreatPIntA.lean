/- Contracts of ParseInt. Conditions: texts of at most 2^20 bytes. -/
import Derived.Test.YtpebiacdkfpnpaaGreatPInt
namespace Go.Proofs.YtpebiacdkfpnpaaGreat
open Go.RowKit

theorem digVal_lt (l : List UInt8) : digVal l < 10 ^ l.length := by
  induction l using snoc_ind with
  | h0 => simp [digVal]
  | h1 l b ih =>
    rw [digVal_snoc, List.length_append, List.length_singleton, Nat.pow_succ]
    split
    · rename_i h
      simp only [isDig, decide_eq_true_eq] at h
      have : 1 ≤ 10 ^ l.length := Nat.pow_pos (by decide)
      generalize 10 ^ l.length = p at *
      show digVal l * 10 + (b.toNat - 48) < p * 10
      omega
    · have : 1 ≤ 10 ^ l.length := Nat.pow_pos (by decide)
      generalize 10 ^ l.length = p at *
      show digVal l < p * 10
      omega
theorem digVal_lt9 {l : List UInt8} (h : l.length ≤ 9) : digVal l < 1000000000 :=
  Nat.lt_of_lt_of_le (digVal_lt l) (Nat.le_trans (Nat.pow_le_pow_right (by decide) h) (by decide))
theorem bodyI_length (l : List UInt8) : l.length ≤ (bodyI l).length + 1 := by
  unfold bodyI
  split <;> simp <;> omega
theorem parseI_no {l : List UInt8} (h : ¬((∀ b ∈ bodyI l, isDig b = true) ∧ 1 ≤ (bodyI l).length ∧ (bodyI l).length ≤ 9)) : parseIOk l = false ∧ parseIV l = 0 := by
  have e : parseIOk l = false := by
    cases e : parseIOk l with
    | false => rfl
    | true => exact absurd (parseIOk_body e) h
  exact ⟨e, by simp only [parseIV, e]⟩
theorem parseI_end {l : List UInt8} (h : ∀ b ∈ bodyI l, isDig b = true) (h9 : (bodyI l).length ≤ 9) (n : Int)
    (hn : n = match isMinus l with
      | true => -((digVal (bodyI l) : Nat) : Int)
      | false => ((digVal (bodyI l) : Nat) : Int)) : ∃ v, (fmtI n == l) = v ∧ parseIOk l = v ∧ parseIV l = match v with
        | true => n
        | false => 0 := by
  have hl := bodyI_length l
  have ht : l.take 11 = l := List.take_of_length_le (by omega)
  have hc : candI l = n := by
    rw [hn]
    unfold candI
    rw [ht, val_body l h]
    generalize isMinus l = b
    cases b <;> rfl
  have ho : parseIOk l = (fmtI n == l) := by
    rw [parseIOk, hc, ht, cnt_body l h]
    have e1 : decide ((bodyI l).length ≤ 9) = true := by simpa using h9
    have e2 : decide (l.length ≤ 10) = true := by simp; omega
    rw [e1, e2]
    simp only [Bool.true_and]
    rw [Bool.eq_iff_iff]
    simp
  refine ⟨_, rfl, ho, ?_⟩
  unfold parseIV
  rw [ho, hc]
  generalize (fmtI n == l) = b
  cases b <;> rfl
def ifI (v : Bool) (n : Int) : Int := match v with
  | true => n
  | false => 0
/-- The bytes from `a` to `k`. -/
def segI (s : ByteArray) (a k : Nat) : List UInt8 := (s.data.toList.take k).drop a
theorem segI_snoc (s : ByteArray) {a k : Nat} (h : a ≤ k) (hk : k < s.size) : segI s a (k + 1) = segI s a k ++ [s[k]] := by
  unfold segI
  rw [take_snoc s k hk, List.drop_append_of_le_length (by simp; omega)]
theorem segI_self (s : ByteArray) (a : Nat) : segI s a a = [] := by
  unfold segI
  rw [List.drop_eq_nil_iff]; simp; omega
theorem segI_all (s : ByteArray) (a : Nat) : segI s a s.size = s.data.toList.drop a := by
  unfold segI
  rw [take_all]
theorem segI_length (s : ByteArray) {a k : Nat} (h : a ≤ k) (hk : k ≤ s.size) : (segI s a k).length = k - a := by
  unfold segI
  simp; omega
theorem isMinus_get (s : ByteArray) (h : 0 < s.size) : isMinus s.data.toList = decide (s[0] = 45) := by
  have hl : 0 < s.data.toList.length := by simpa using h
  cases hq : s.data.toList with
  | nil => rw [hq] at hl; simp at hl
  | cons b l =>
    have : s[0] = s.data.toList[0]'hl := rfl
    rw [this]
    simp [isMinus, hq]
theorem minus_nat (b : UInt8) : (b = 45) ↔ b.toNat = 45 := by
  rw [← UInt8.toNat_inj]; rfl

set_option maxHeartbeats 1600000 in
theorem parseInt_0 (s : ByteArray) (hs : s.size ≤ 1048576) (h0 : 0 < s.size) (hm : ¬ s[0].toNat = 45) (w : World) :
    Calls Tryz.prog 50 #[.string s] w fun e w' => e = .returned (.tuple #[.int .i64 (parseIV s.data.toList), .bool (parseIOk s.data.toList)]) ∧ Below w.heap.size w w' := by
  have hmin : Kept (isMinus s.data.toList = false) := ⟨by rw [isMinus_get s h0]; simp [minus_nat, hm]⟩
  have hbody : Kept (bodyI s.data.toList = segI s 0 s.size) := ⟨by rw [segI_all, bodyI, hmin.out]; simp⟩
  have hbl : (bodyI s.data.toList).length = s.size - 0 := by rw [hbody.out, segI_length s (by omega) (Nat.le_refl _)]
  by_cases hin : 1 ≤ s.size ∧ s.size ≤ 9
  case neg =>
    obtain ⟨e1, e2⟩ := parseI_no (l := s.data.toList) (fun h => hin (by omega))
    rw [e1, e2]
    have hwi : decide ((1 : Int) ≤ (s.size : Int) - 0 ∧ (s.size : Int) - 0 ≤ 9) = false := by simp; omega
    have cW := fun W => within_any ((s.size : Int) - 0) 1 9 W
    rw [hwi] at cW
    have CW := Lib.hid cW
    clear cW hwi hmin hbody hbl e1 e2
    go_enter Tryz.func50, Tryz.ntmps50
    go_wp2_with (go_at_call 45; refine (CW.out _).mono ?_; rintro e w' ⟨rfl, rfl⟩)
    go_ret2
    exact ⟨rfl, Below.refl _ _⟩
  obtain ⟨hlo, hhi⟩ := hin
  have hwi : decide ((1 : Int) ≤ (s.size : Int) - 0 ∧ (s.size : Int) - 0 ≤ 9) = true := by simp; omega
  have cW := fun W => within_any ((s.size : Int) - 0) 1 9 W
  rw [hwi] at cW
  have CW := Lib.hid cW
  have hbl9 : (bodyI s.data.toList).length ≤ 9 := by omega
  have HBL := Lib.hid hbl9
  clear cW hwi hbl hbl9
  go_enter Tryz.func50, Tryz.ntmps50
  go_wp2_with (go_at_call 45; refine (CW.out _).mono ?_; rintro e w' ⟨rfl, rfl⟩)
  clear CW
  go_loopw [5, 6] (fun n i wr => ∃ k m : Nat, 0 ≤ k ∧ k ≤ s.size ∧ i = .int .i64 k ∧ n = .int .i64 m ∧ m < 1000000000 ∧ Kept (m = digVal (segI s 0 k)) ∧ Kept (∀ b ∈ segI s 0 k, isDig b = true) ∧ Below w.heap.size w wr)
    (fun _ i _ => s.size - (intOf i).toNat)
  case atStart => exact ⟨0, 0, Nat.le_refl _, by omega, rfl, rfl, by omega, ⟨by rw [segI_self]; rfl⟩, ⟨by rw [segI_self]; simp⟩, Below.refl _ _⟩
  case round =>
    obtain ⟨k, m, hak, hk, rfl, rfl, hm9, hmv, hdg, hbel⟩ := hrel
    by_cases hlt : k < s.size
    · have hd0 : decide ((k : Int) < s.size) = true := decide_eq_true (by omega)
      by_cases hdi : isDig s[k] = true
      · have hsn := segI_snoc s hak hlt
        have hlen9 : (segI s 0 (k + 1)).length ≤ 9 := by rw [segI_length s (by omega) (by omega)]; omega
        have hv9 := digVal_lt9 hlen9
        have hvs : digVal (segI s 0 (k + 1)) = m * 10 + (s[k].toNat - 48) := by rw [hsn, digVal_snoc, hdi, ← hmv.out]
        have hd' : Kept (∀ b ∈ segI s 0 (k + 1), isDig b = true) := ⟨by
          rw [hsn]
          intro b hb
          rcases List.mem_append.1 hb with hb | hb
          · exact hdg.out b hb
          · simp only [List.mem_cons, List.not_mem_nil, or_false] at hb
            subst hb; exact hdi⟩
        rw [hvs] at hv9
        have HVS := Lib.hid hvs
        have hdn : 48 ≤ s[k].toNat ∧ s[k].toNat ≤ 57 := by simpa [isDig] using hdi
        obtain ⟨hd1, hd2⟩ := hdn
        have hd3 : decide ((s[k].toNat : Int) < 48) = false := decide_eq_false (by omega)
        have hd4 : decide ((57 : Int) < s[k].toNat) = false := decide_eq_false (by omega)
        clear hsn hlen9 hvs hdi
        go_wp2
        go_roundw
        case rel => exact ⟨k + 1, m * 10 + (s[k].toNat - 48), by omega, by omega, by go_num, by go_num, by omega, ⟨HVS.out.symm⟩, hd', hbel⟩
        case measure => simp [intOf]; omega
      · obtain ⟨e1, e2⟩ := parseI_no (l := s.data.toList) (fun h => hdi (h.1 s[k] (by
          rw [hbody.out, segI_all]
          have e : s[k] = (s.data.toList.drop 0)[k - 0]'(by simp; omega) := by
            rw [List.getElem_drop]
            have : 0 + (k - 0) = k := by omega
            simp only [this]
            rfl
          rw [e]
          exact List.getElem_mem _)))
        have HE := Lib.hid (And.intro e1 e2)
        have hdn : s[k].toNat < 48 ∨ 57 < s[k].toNat := by simp [isDig] at hdi; omega
        clear hdi e1 e2
        rcases hdn with hdn | hdn
        · have hd3 : decide ((s[k].toNat : Int) < 48) = true := decide_eq_true (by omega)
          clear hdn
          go_wp2
          go_ret2
          rw [HE.out.1, HE.out.2]
          exact ⟨rfl, hbel⟩
        · have hd3 : decide ((s[k].toNat : Int) < 48) = false := decide_eq_false (by omega)
          have hd4 : decide ((57 : Int) < s[k].toNat) = true := decide_eq_true (by omega)
          clear hdn
          go_wp2
          go_ret2
          rw [HE.out.1, HE.out.2]
          exact ⟨rfl, hbel⟩
    · obtain rfl : k = s.size := by omega
      have hd0 : decide ((s.size : Int) < s.size) = false := decide_eq_false (by omega)
      have hdg' := hdg.out
      rw [← hbody.out] at hdg'
      have hmv' := hmv.out
      rw [← hbody.out] at hmv'
      obtain ⟨v, hv1, hv2, hv3⟩ := parseI_end hdg' HBL.out ((m : Int)) (by rw [hmin.out, hmv'])
      have cF := fun W => formatInt_any ((m : Int)) (by omega) (by omega) W
      have CF := Lib.hid cF
      have HE := Lib.hid (And.intro hv2 hv3)
      rw [← ByteArray.toList_eq] at hv1
      clear hdg' hmv' cF hv2 hv3 hdg hmv HBL hbody hmin hs hm hlo
      cases v with
      | true =>
        go_wp2_with (go_at_call 47; refine (CF.out _).mono ?_; rintro e w2 ⟨rfl, hb2⟩)
        go_ret2
        rw [HE.out.1, HE.out.2]
        exact ⟨rfl, hbel.trans (hb2.mono hbel.size)⟩
      | false =>
        go_wp2_with (go_at_call 47; refine (CF.out _).mono ?_; rintro e w2 ⟨rfl, hb2⟩)
        go_ret2
        rw [HE.out.1, HE.out.2]
        exact ⟨rfl, hbel.trans (hb2.mono hbel.size)⟩

set_option maxHeartbeats 1600000 in
theorem parseInt_1 (s : ByteArray) (hs : s.size ≤ 1048576) (h0 : 0 < s.size) (hm : s[0].toNat = 45) (w : World) :
    Calls Tryz.prog 50 #[.string s] w fun e w' => e = .returned (.tuple #[.int .i64 (parseIV s.data.toList), .bool (parseIOk s.data.toList)]) ∧ Below w.heap.size w w' := by
  have hmin : Kept (isMinus s.data.toList = true) := ⟨by rw [isMinus_get s h0]; simp [minus_nat, hm]⟩
  have hbody : Kept (bodyI s.data.toList = segI s 1 s.size) := ⟨by rw [segI_all, bodyI, hmin.out]⟩
  have hbl : (bodyI s.data.toList).length = s.size - 1 := by rw [hbody.out, segI_length s (by omega) (Nat.le_refl _)]
  by_cases hin : 2 ≤ s.size ∧ s.size ≤ 10
  case neg =>
    obtain ⟨e1, e2⟩ := parseI_no (l := s.data.toList) (fun h => hin (by omega))
    rw [e1, e2]
    have hwi : decide ((1 : Int) ≤ (s.size : Int) - 1 ∧ (s.size : Int) - 1 ≤ 9) = false := by simp; omega
    have cW := fun W => within_any ((s.size : Int) - 1) 1 9 W
    rw [hwi] at cW
    have CW := Lib.hid cW
    clear cW hwi hmin hbody hbl e1 e2
    go_enter Tryz.func50, Tryz.ntmps50
    go_wp2_with (go_at_call 45; refine (CW.out _).mono ?_; rintro e w' ⟨rfl, rfl⟩)
    go_ret2
    exact ⟨rfl, Below.refl _ _⟩
  obtain ⟨hlo, hhi⟩ := hin
  have hwi : decide ((1 : Int) ≤ (s.size : Int) - 1 ∧ (s.size : Int) - 1 ≤ 9) = true := by simp; omega
  have cW := fun W => within_any ((s.size : Int) - 1) 1 9 W
  rw [hwi] at cW
  have CW := Lib.hid cW
  have hbl9 : (bodyI s.data.toList).length ≤ 9 := by omega
  have HBL := Lib.hid hbl9
  clear cW hwi hbl hbl9
  go_enter Tryz.func50, Tryz.ntmps50
  go_wp2_with (go_at_call 45; refine (CW.out _).mono ?_; rintro e w' ⟨rfl, rfl⟩)
  clear CW
  go_loopw [5, 6] (fun n i wr => ∃ k m : Nat, 1 ≤ k ∧ k ≤ s.size ∧ i = .int .i64 k ∧ n = .int .i64 m ∧ m < 1000000000 ∧ Kept (m = digVal (segI s 1 k)) ∧ Kept (∀ b ∈ segI s 1 k, isDig b = true) ∧ Below w.heap.size w wr)
    (fun _ i _ => s.size - (intOf i).toNat)
  case atStart => exact ⟨1, 0, Nat.le_refl _, by omega, rfl, rfl, by omega, ⟨by rw [segI_self]; rfl⟩, ⟨by rw [segI_self]; simp⟩, Below.refl _ _⟩
  case round =>
    obtain ⟨k, m, hak, hk, rfl, rfl, hm9, hmv, hdg, hbel⟩ := hrel
    by_cases hlt : k < s.size
    · have hd0 : decide ((k : Int) < s.size) = true := decide_eq_true (by omega)
      by_cases hdi : isDig s[k] = true
      · have hsn := segI_snoc s hak hlt
        have hlen9 : (segI s 1 (k + 1)).length ≤ 9 := by rw [segI_length s (by omega) (by omega)]; omega
        have hv9 := digVal_lt9 hlen9
        have hvs : digVal (segI s 1 (k + 1)) = m * 10 + (s[k].toNat - 48) := by rw [hsn, digVal_snoc, hdi, ← hmv.out]
        have hd' : Kept (∀ b ∈ segI s 1 (k + 1), isDig b = true) := ⟨by
          rw [hsn]
          intro b hb
          rcases List.mem_append.1 hb with hb | hb
          · exact hdg.out b hb
          · simp only [List.mem_cons, List.not_mem_nil, or_false] at hb
            subst hb; exact hdi⟩
        rw [hvs] at hv9
        have HVS := Lib.hid hvs
        have hdn : 48 ≤ s[k].toNat ∧ s[k].toNat ≤ 57 := by simpa [isDig] using hdi
        obtain ⟨hd1, hd2⟩ := hdn
        have hd3 : decide ((s[k].toNat : Int) < 48) = false := decide_eq_false (by omega)
        have hd4 : decide ((57 : Int) < s[k].toNat) = false := decide_eq_false (by omega)
        clear hsn hlen9 hvs hdi
        go_wp2
        go_roundw
        case rel => exact ⟨k + 1, m * 10 + (s[k].toNat - 48), by omega, by omega, by go_num, by go_num, by omega, ⟨HVS.out.symm⟩, hd', hbel⟩
        case measure => simp [intOf]; omega
      · obtain ⟨e1, e2⟩ := parseI_no (l := s.data.toList) (fun h => hdi (h.1 s[k] (by
          rw [hbody.out, segI_all]
          have e : s[k] = (s.data.toList.drop 1)[k - 1]'(by simp; omega) := by
            rw [List.getElem_drop]
            have : 1 + (k - 1) = k := by omega
            simp only [this]
            rfl
          rw [e]
          exact List.getElem_mem _)))
        have HE := Lib.hid (And.intro e1 e2)
        have hdn : s[k].toNat < 48 ∨ 57 < s[k].toNat := by simp [isDig] at hdi; omega
        clear hdi e1 e2
        rcases hdn with hdn | hdn
        · have hd3 : decide ((s[k].toNat : Int) < 48) = true := decide_eq_true (by omega)
          clear hdn
          go_wp2
          go_ret2
          rw [HE.out.1, HE.out.2]
          exact ⟨rfl, hbel⟩
        · have hd3 : decide ((s[k].toNat : Int) < 48) = false := decide_eq_false (by omega)
          have hd4 : decide ((57 : Int) < s[k].toNat) = true := decide_eq_true (by omega)
          clear hdn
          go_wp2
          go_ret2
          rw [HE.out.1, HE.out.2]
          exact ⟨rfl, hbel⟩
    · obtain rfl : k = s.size := by omega
      have hd0 : decide ((s.size : Int) < s.size) = false := decide_eq_false (by omega)
      have hdg' := hdg.out
      rw [← hbody.out] at hdg'
      have hmv' := hmv.out
      rw [← hbody.out] at hmv'
      obtain ⟨v, hv1, hv2, hv3⟩ := parseI_end hdg' HBL.out (-(m : Int)) (by rw [hmin.out, hmv'])
      have cF := fun W => formatInt_any (-(m : Int)) (by omega) (by omega) W
      have CF := Lib.hid cF
      have HE := Lib.hid (And.intro hv2 hv3)
      rw [← ByteArray.toList_eq] at hv1
      clear hdg' hmv' cF hv2 hv3 hdg hmv HBL hbody hmin hs hm hlo
      cases v with
      | true =>
        go_wp2_with (go_at_call 47; refine (CF.out _).mono ?_; rintro e w2 ⟨rfl, hb2⟩)
        go_ret2
        rw [HE.out.1, HE.out.2]
        exact ⟨rfl, hbel.trans (hb2.mono hbel.size)⟩
      | false =>
        go_wp2_with (go_at_call 47; refine (CF.out _).mono ?_; rintro e w2 ⟨rfl, hb2⟩)
        go_ret2
        rw [HE.out.1, HE.out.2]
        exact ⟨rfl, hbel.trans (hb2.mono hbel.size)⟩

set_option maxHeartbeats 1600000 in
theorem parseInt_e (s : ByteArray) (h0 : s.size = 0) (w : World) :
    Calls Tryz.prog 50 #[.string s] w fun e w' => e = .returned (.tuple #[.int .i64 (parseIV s.data.toList), .bool (parseIOk s.data.toList)]) ∧ Below w.heap.size w w' := by
  have hnil : s.data.toList = [] := List.length_eq_zero_iff.1 (by simpa using h0)
  obtain ⟨e1, e2⟩ := parseI_no (l := s.data.toList) (fun h => by rw [hnil] at h; have := h.2.1; simp [bodyI, isMinus] at this)
  rw [e1, e2]
  have hwi : decide ((1 : Int) ≤ 0 ∧ (0 : Int) ≤ 9) = false := by decide
  have cW := fun W => within_any 0 1 9 W
  rw [hwi] at cW
  have CW := Lib.hid cW
  have hs0 : s = ⟨#[]⟩ := by apply ByteArray.ext; apply Array.ext'; simpa using hnil
  subst hs0
  clear cW hwi e1 e2 hnil h0
  go_enter Tryz.func50, Tryz.ntmps50
  go_wp2_with (go_at_call 45; refine (CW.out _).mono ?_; rintro e w' ⟨rfl, rfl⟩)
  go_ret2
  exact ⟨rfl, Below.refl _ _⟩
theorem parseInt_any (s : ByteArray) (hs : s.size ≤ 1048576) (w : World) :
    Calls Tryz.prog 50 #[.string s] w fun e w' => e = .returned (.tuple #[.int .i64 (parseIV s.data.toList), .bool (parseIOk s.data.toList)]) ∧ Below w.heap.size w w' := by
  by_cases h0 : s.size = 0
  · exact parseInt_e s h0 w
  · have h0' : 0 < s.size := by omega
    by_cases hm : s[0].toNat = 45
    · exact parseInt_1 s hs h0' hm w
    · exact parseInt_0 s hs h0' hm w
theorem digVal_lt11 {l : List UInt8} (h : l.length ≤ 11) : digVal l < 100000000000 :=
  Nat.lt_of_lt_of_le (digVal_lt l) (Nat.le_trans (Nat.pow_le_pow_right (by decide) h) (by decide))

set_option maxHeartbeats 1600000 in
theorem parseIntS_e (s : ByteArray) (_hs : s.size ≤ 1048576) (h0 : s.size = 0) (w : World) :
    Calls Tryz.prog 74 #[.string s] w fun e w' => e = .returned (.tuple #[.int .i64 (parseIV s.data.toList), .bool (parseIOk s.data.toList)]) ∧ Below w.heap.size w w' := by
  have hmin : Kept (isMinus s.data.toList = false) := ⟨by have : s.data.toList = [] := List.length_eq_zero_iff.1 (by simpa using h0); rw [this]; rfl⟩
  have hd9 : decide (0 < s.size) = false := decide_eq_false (by omega)
  go_enter Tryz.func74, Tryz.ntmps74
  go_wp2
  go_loopw [4, 5, 6] (fun n k i wr => ∃ p m c : Nat, p ≤ s.size ∧ p ≤ 11 ∧ i = .int .i64 p ∧ n = .int .i64 m ∧ k = .int .i64 c ∧ c ≤ 11 ∧ m < 100000000000 ∧ Kept (m = digVal (s.data.toList.take p)) ∧ Kept (c = digCnt (s.data.toList.take p)) ∧ Below w.heap.size w wr)
    (fun _ _ i _ => s.size - (intOf i).toNat)
  case atStart => exact ⟨0, 0, 0, by omega, by omega, rfl, rfl, rfl, by omega, by omega, ⟨rfl⟩, ⟨rfl⟩, Below.refl _ _⟩
  case round =>
    obtain ⟨p, m, c, hp, hp11, rfl, rfl, rfl, hc11, hm11, hmv, hcv, hbel⟩ := hrel
    by_cases hlt : p < s.size ∧ p < 11
    · exact absurd hlt.1 (by omega)
    · have hT : s.data.toList.take p = s.data.toList.take 11 := by
        by_cases h : p = 11
        · rw [h]
        · rw [List.take_of_length_le (by simp; omega), List.take_of_length_le (by simp; omega)]
      have hmv' := hmv.out
      have hcv' := hcv.out
      rw [hT] at hmv' hcv'
      have hcand : candI s.data.toList = (m : Int) := by rw [candI, hmin.out, ← hmv']
      have hok : parseIOk s.data.toList = (decide (c ≤ 9) && (decide (s.size ≤ 10) && (fmtI ((m : Int)) == s.toList))) := by
        rw [parseIOk, hcand, ← hcv', ByteArray.toList_eq, show s.data.toList.length = s.size from by simp]
        congr 2
        rw [Bool.eq_iff_iff]
        simp
      have hdl : (decide (p < s.size) = false) ∨ (decide (p < s.size) = true ∧ decide ((p : Int) < 11) = false) := by
        by_cases h : p < s.size
        · exact .inr ⟨decide_eq_true h, decide_eq_false (by omega)⟩
        · exact .inl (decide_eq_false h)
      obtain ⟨v, hv⟩ : ∃ v, v = parseIOk s.data.toList := ⟨_, rfl⟩
      have hvv : parseIV s.data.toList = ifI v ((m : Int)) := by rw [hv, parseIV, hcand]; generalize parseIOk s.data.toList = b; cases b <;> rfl
      have HE := Lib.hid (And.intro hv hvv)
      rw [← hv] at hok
      have cF := fun W => formatIntS_any ((m : Int)) (by omega) (by omega) W
      have CF := Lib.hid cF
      clear hT hmv' hcv' hcand hmv hcv hmin cF hvv hv
      by_cases hc : c ≤ 9
      case neg =>
        have hd5 : decide ((9 : Int) < c) = true := decide_eq_true (by omega)
        obtain rfl : v = false := by rw [hok]; simp [hc]
        clear hok hc
        rcases hdl with hd | ⟨hd, hd1⟩
        all_goals
          clear hlt
          go_wp2
          go_ret2
          rw [← HE.out.1, HE.out.2]
          exact ⟨rfl, hbel⟩
      have hd5 : decide ((9 : Int) < c) = false := decide_eq_false (by omega)
      by_cases hz : s.size ≤ 10
      case neg => exact absurd (show s.size ≤ 10 by omega) hz
      have hd6 : decide ((10 : Int) < s.size) = false := decide_eq_false (by omega)
      have hok' : (fmtI ((m : Int)) == s.toList) = v := by rw [hok]; simp [hc, hz]
      clear hok hc hz
      cases v
      all_goals
        rcases hdl with hd | ⟨hd, hd1⟩
        all_goals
          clear hlt
          go_wp2_with (go_at_call 52; refine (CF.out _).mono ?_; rintro e w2 ⟨rfl, hb2⟩)
          go_ret2
          rw [← HE.out.1, HE.out.2]
          exact ⟨rfl, hbel.trans (hb2.mono hbel.size)⟩

set_option maxHeartbeats 1600000 in
theorem parseIntS_0 (s : ByteArray) (hs : s.size ≤ 1048576) (h0 : 0 < s.size) (hm : ¬ s[0].toNat = 45) (w : World) :
    Calls Tryz.prog 74 #[.string s] w fun e w' => e = .returned (.tuple #[.int .i64 (parseIV s.data.toList), .bool (parseIOk s.data.toList)]) ∧ Below w.heap.size w w' := by
  have hmin : Kept (isMinus s.data.toList = false) := ⟨by rw [isMinus_get s h0]; simp [minus_nat, hm]⟩
  go_enter Tryz.func74, Tryz.ntmps74
  go_wp2
  go_loopw [4, 5, 6] (fun n k i wr => ∃ p m c : Nat, p ≤ s.size ∧ p ≤ 11 ∧ i = .int .i64 p ∧ n = .int .i64 m ∧ k = .int .i64 c ∧ c ≤ 11 ∧ m < 100000000000 ∧ Kept (m = digVal (s.data.toList.take p)) ∧ Kept (c = digCnt (s.data.toList.take p)) ∧ Below w.heap.size w wr)
    (fun _ _ i _ => s.size - (intOf i).toNat)
  case atStart => exact ⟨0, 0, 0, by omega, by omega, rfl, rfl, rfl, by omega, by omega, ⟨rfl⟩, ⟨rfl⟩, Below.refl _ _⟩
  case round =>
    obtain ⟨p, m, c, hp, hp11, rfl, rfl, rfl, hc11, hm11, hmv, hcv, hbel⟩ := hrel
    by_cases hlt : p < s.size ∧ p < 11
    · obtain ⟨hlt, hlt1⟩ := hlt
      have hd0 : decide (p < s.size) = true := decide_eq_true (by omega)
      have hd1 : decide ((p : Int) < 11) = true := decide_eq_true (by omega)
      have hsn := take_snoc s p hlt
      have hv9 := digVal_lt11 (l := s.data.toList.take (p + 1)) (by simp; omega)
      have hc9 : digCnt (s.data.toList.take (p + 1)) ≤ 11 := Nat.le_trans (List.countP_le_length) (by simp; omega)
      by_cases hdi : isDig s[p] = true
      · have hvs : digVal (s.data.toList.take (p + 1)) = m * 10 + (s[p].toNat - 48) := by rw [hsn, digVal_snoc, hdi, ← hmv.out]
        have hcs : digCnt (s.data.toList.take (p + 1)) = c + 1 := by rw [hsn, digCnt, List.countP_append, ← digCnt, ← hcv.out]; simp [hdi]
        rw [hvs] at hv9
        rw [hcs] at hc9
        have HVS := Lib.hid (And.intro hvs hcs)
        have hdn : 48 ≤ s[p].toNat ∧ s[p].toNat ≤ 57 := by simpa [isDig] using hdi
        obtain ⟨he1, he2⟩ := hdn
        have hd3 : decide ((48 : Int) ≤ s[p].toNat) = true := decide_eq_true (by omega)
        have hd4 : decide ((s[p].toNat : Int) ≤ 57) = true := decide_eq_true (by omega)
        clear hsn hvs hcs hdi
        go_wp2
        go_roundw
        case rel => exact ⟨p + 1, m * 10 + (s[p].toNat - 48), c + 1, by omega, by omega, by go_num, by go_num, by go_num, by omega, by omega, ⟨HVS.out.1.symm⟩, ⟨HVS.out.2.symm⟩, hbel⟩
        case measure => simp [intOf]; omega
      · have hdf : isDig s[p] = false := by simpa using hdi
        have hvs : digVal (s.data.toList.take (p + 1)) = m := by rw [hsn, digVal_snoc, hdf, ← hmv.out]
        have hcs : digCnt (s.data.toList.take (p + 1)) = c := by rw [hsn, digCnt, List.countP_append, ← digCnt, ← hcv.out]; simp [hdf]
        have HVS := Lib.hid (And.intro hvs hcs)
        have hdn : s[p].toNat < 48 ∨ 57 < s[p].toNat := by simp [isDig] at hdi; omega
        clear hsn hvs hcs hdi hdf hv9 hc9
        rcases hdn with hdn | hdn
        · have hd3 : decide ((48 : Int) ≤ s[p].toNat) = false := decide_eq_false (by omega)
          clear hdn
          go_wp2
          go_roundw
          case rel => exact ⟨p + 1, m, c, by omega, by omega, by go_num, rfl, rfl, by omega, by omega, ⟨HVS.out.1.symm⟩, ⟨HVS.out.2.symm⟩, hbel⟩
          case measure => simp [intOf]; omega
        · have hd3 : decide ((48 : Int) ≤ s[p].toNat) = true := decide_eq_true (by omega)
          have hd4 : decide ((s[p].toNat : Int) ≤ 57) = false := decide_eq_false (by omega)
          clear hdn
          go_wp2
          go_roundw
          case rel => exact ⟨p + 1, m, c, by omega, by omega, by go_num, rfl, rfl, by omega, by omega, ⟨HVS.out.1.symm⟩, ⟨HVS.out.2.symm⟩, hbel⟩
          case measure => simp [intOf]; omega
    · have hT : s.data.toList.take p = s.data.toList.take 11 := by
        by_cases h : p = 11
        · rw [h]
        · rw [List.take_of_length_le (by simp; omega), List.take_of_length_le (by simp; omega)]
      have hmv' := hmv.out
      have hcv' := hcv.out
      rw [hT] at hmv' hcv'
      have hcand : candI s.data.toList = (m : Int) := by rw [candI, hmin.out, ← hmv']
      have hok : parseIOk s.data.toList = (decide (c ≤ 9) && (decide (s.size ≤ 10) && (fmtI ((m : Int)) == s.toList))) := by
        rw [parseIOk, hcand, ← hcv', ByteArray.toList_eq, show s.data.toList.length = s.size from by simp]
        congr 2
        rw [Bool.eq_iff_iff]
        simp
      have hdl : (decide (p < s.size) = false) ∨ (decide (p < s.size) = true ∧ decide ((p : Int) < 11) = false) := by
        by_cases h : p < s.size
        · exact .inr ⟨decide_eq_true h, decide_eq_false (by omega)⟩
        · exact .inl (decide_eq_false h)
      obtain ⟨v, hv⟩ : ∃ v, v = parseIOk s.data.toList := ⟨_, rfl⟩
      have hvv : parseIV s.data.toList = ifI v ((m : Int)) := by rw [hv, parseIV, hcand]; generalize parseIOk s.data.toList = b; cases b <;> rfl
      have HE := Lib.hid (And.intro hv hvv)
      rw [← hv] at hok
      have cF := fun W => formatIntS_any ((m : Int)) (by omega) (by omega) W
      have CF := Lib.hid cF
      clear hT hmv' hcv' hcand hmv hcv hmin cF hvv hv
      by_cases hc : c ≤ 9
      case neg =>
        have hd5 : decide ((9 : Int) < c) = true := decide_eq_true (by omega)
        obtain rfl : v = false := by rw [hok]; simp [hc]
        clear hok hc
        rcases hdl with hd | ⟨hd, hd1⟩
        all_goals
          clear hlt
          go_wp2
          go_ret2
          rw [← HE.out.1, HE.out.2]
          exact ⟨rfl, hbel⟩
      have hd5 : decide ((9 : Int) < c) = false := decide_eq_false (by omega)
      by_cases hz : s.size ≤ 10
      case neg =>
        have hd6 : decide ((10 : Int) < s.size) = true := decide_eq_true (by omega)
        obtain rfl : v = false := by rw [hok]; simp [hz]
        clear hok hc hz
        rcases hdl with hd | ⟨hd, hd1⟩
        all_goals
          clear hlt
          go_wp2
          go_ret2
          rw [← HE.out.1, HE.out.2]
          exact ⟨rfl, hbel⟩
      have hd6 : decide ((10 : Int) < s.size) = false := decide_eq_false (by omega)
      have hok' : (fmtI ((m : Int)) == s.toList) = v := by rw [hok]; simp [hc, hz]
      clear hok hc hz
      cases v
      all_goals
        rcases hdl with hd | ⟨hd, hd1⟩
        all_goals
          clear hlt
          go_wp2_with (go_at_call 52; refine (CF.out _).mono ?_; rintro e w2 ⟨rfl, hb2⟩)
          go_ret2
          rw [← HE.out.1, HE.out.2]
          exact ⟨rfl, hbel.trans (hb2.mono hbel.size)⟩

set_option maxHeartbeats 1600000 in
theorem parseIntS_1 (s : ByteArray) (hs : s.size ≤ 1048576) (h0 : 0 < s.size) (hm : s[0].toNat = 45) (w : World) :
    Calls Tryz.prog 74 #[.string s] w fun e w' => e = .returned (.tuple #[.int .i64 (parseIV s.data.toList), .bool (parseIOk s.data.toList)]) ∧ Below w.heap.size w w' := by
  have hmin : Kept (isMinus s.data.toList = true) := ⟨by rw [isMinus_get s h0]; simp [minus_nat, hm]⟩
  go_enter Tryz.func74, Tryz.ntmps74
  go_wp2
  go_loopw [4, 5, 6] (fun n k i wr => ∃ p m c : Nat, p ≤ s.size ∧ p ≤ 11 ∧ i = .int .i64 p ∧ n = .int .i64 m ∧ k = .int .i64 c ∧ c ≤ 11 ∧ m < 100000000000 ∧ Kept (m = digVal (s.data.toList.take p)) ∧ Kept (c = digCnt (s.data.toList.take p)) ∧ Below w.heap.size w wr)
    (fun _ _ i _ => s.size - (intOf i).toNat)
  case atStart => exact ⟨0, 0, 0, by omega, by omega, rfl, rfl, rfl, by omega, by omega, ⟨rfl⟩, ⟨rfl⟩, Below.refl _ _⟩
  case round =>
    obtain ⟨p, m, c, hp, hp11, rfl, rfl, rfl, hc11, hm11, hmv, hcv, hbel⟩ := hrel
    by_cases hlt : p < s.size ∧ p < 11
    · obtain ⟨hlt, hlt1⟩ := hlt
      have hd0 : decide (p < s.size) = true := decide_eq_true (by omega)
      have hd1 : decide ((p : Int) < 11) = true := decide_eq_true (by omega)
      have hsn := take_snoc s p hlt
      have hv9 := digVal_lt11 (l := s.data.toList.take (p + 1)) (by simp; omega)
      have hc9 : digCnt (s.data.toList.take (p + 1)) ≤ 11 := Nat.le_trans (List.countP_le_length) (by simp; omega)
      by_cases hdi : isDig s[p] = true
      · have hvs : digVal (s.data.toList.take (p + 1)) = m * 10 + (s[p].toNat - 48) := by rw [hsn, digVal_snoc, hdi, ← hmv.out]
        have hcs : digCnt (s.data.toList.take (p + 1)) = c + 1 := by rw [hsn, digCnt, List.countP_append, ← digCnt, ← hcv.out]; simp [hdi]
        rw [hvs] at hv9
        rw [hcs] at hc9
        have HVS := Lib.hid (And.intro hvs hcs)
        have hdn : 48 ≤ s[p].toNat ∧ s[p].toNat ≤ 57 := by simpa [isDig] using hdi
        obtain ⟨he1, he2⟩ := hdn
        have hd3 : decide ((48 : Int) ≤ s[p].toNat) = true := decide_eq_true (by omega)
        have hd4 : decide ((s[p].toNat : Int) ≤ 57) = true := decide_eq_true (by omega)
        clear hsn hvs hcs hdi
        go_wp2
        go_roundw
        case rel => exact ⟨p + 1, m * 10 + (s[p].toNat - 48), c + 1, by omega, by omega, by go_num, by go_num, by go_num, by omega, by omega, ⟨HVS.out.1.symm⟩, ⟨HVS.out.2.symm⟩, hbel⟩
        case measure => simp [intOf]; omega
      · have hdf : isDig s[p] = false := by simpa using hdi
        have hvs : digVal (s.data.toList.take (p + 1)) = m := by rw [hsn, digVal_snoc, hdf, ← hmv.out]
        have hcs : digCnt (s.data.toList.take (p + 1)) = c := by rw [hsn, digCnt, List.countP_append, ← digCnt, ← hcv.out]; simp [hdf]
        have HVS := Lib.hid (And.intro hvs hcs)
        have hdn : s[p].toNat < 48 ∨ 57 < s[p].toNat := by simp [isDig] at hdi; omega
        clear hsn hvs hcs hdi hdf hv9 hc9
        rcases hdn with hdn | hdn
        · have hd3 : decide ((48 : Int) ≤ s[p].toNat) = false := decide_eq_false (by omega)
          clear hdn
          go_wp2
          go_roundw
          case rel => exact ⟨p + 1, m, c, by omega, by omega, by go_num, rfl, rfl, by omega, by omega, ⟨HVS.out.1.symm⟩, ⟨HVS.out.2.symm⟩, hbel⟩
          case measure => simp [intOf]; omega
        · have hd3 : decide ((48 : Int) ≤ s[p].toNat) = true := decide_eq_true (by omega)
          have hd4 : decide ((s[p].toNat : Int) ≤ 57) = false := decide_eq_false (by omega)
          clear hdn
          go_wp2
          go_roundw
          case rel => exact ⟨p + 1, m, c, by omega, by omega, by go_num, rfl, rfl, by omega, by omega, ⟨HVS.out.1.symm⟩, ⟨HVS.out.2.symm⟩, hbel⟩
          case measure => simp [intOf]; omega
    · have hT : s.data.toList.take p = s.data.toList.take 11 := by
        by_cases h : p = 11
        · rw [h]
        · rw [List.take_of_length_le (by simp; omega), List.take_of_length_le (by simp; omega)]
      have hmv' := hmv.out
      have hcv' := hcv.out
      rw [hT] at hmv' hcv'
      have hcand : candI s.data.toList = -(m : Int) := by rw [candI, hmin.out, ← hmv']
      have hok : parseIOk s.data.toList = (decide (c ≤ 9) && (decide (s.size ≤ 10) && (fmtI (-(m : Int)) == s.toList))) := by
        rw [parseIOk, hcand, ← hcv', ByteArray.toList_eq, show s.data.toList.length = s.size from by simp]
        congr 2
        rw [Bool.eq_iff_iff]
        simp
      have hdl : (decide (p < s.size) = false) ∨ (decide (p < s.size) = true ∧ decide ((p : Int) < 11) = false) := by
        by_cases h : p < s.size
        · exact .inr ⟨decide_eq_true h, decide_eq_false (by omega)⟩
        · exact .inl (decide_eq_false h)
      obtain ⟨v, hv⟩ : ∃ v, v = parseIOk s.data.toList := ⟨_, rfl⟩
      have hvv : parseIV s.data.toList = ifI v (-(m : Int)) := by rw [hv, parseIV, hcand]; generalize parseIOk s.data.toList = b; cases b <;> rfl
      have HE := Lib.hid (And.intro hv hvv)
      rw [← hv] at hok
      have cF := fun W => formatIntS_any (-(m : Int)) (by omega) (by omega) W
      have CF := Lib.hid cF
      clear hT hmv' hcv' hcand hmv hcv hmin cF hvv hv
      by_cases hc : c ≤ 9
      case neg =>
        have hd5 : decide ((9 : Int) < c) = true := decide_eq_true (by omega)
        obtain rfl : v = false := by rw [hok]; simp [hc]
        clear hok hc
        rcases hdl with hd | ⟨hd, hd1⟩
        all_goals
          clear hlt
          go_wp2
          go_ret2
          rw [← HE.out.1, HE.out.2]
          exact ⟨rfl, hbel⟩
      have hd5 : decide ((9 : Int) < c) = false := decide_eq_false (by omega)
      by_cases hz : s.size ≤ 10
      case neg =>
        have hd6 : decide ((10 : Int) < s.size) = true := decide_eq_true (by omega)
        obtain rfl : v = false := by rw [hok]; simp [hz]
        clear hok hc hz
        rcases hdl with hd | ⟨hd, hd1⟩
        all_goals
          clear hlt
          go_wp2
          go_ret2
          rw [← HE.out.1, HE.out.2]
          exact ⟨rfl, hbel⟩
      have hd6 : decide ((10 : Int) < s.size) = false := decide_eq_false (by omega)
      have hok' : (fmtI (-(m : Int)) == s.toList) = v := by rw [hok]; simp [hc, hz]
      clear hok hc hz
      cases v
      all_goals
        rcases hdl with hd | ⟨hd, hd1⟩
        all_goals
          clear hlt
          go_wp2_with (go_at_call 52; refine (CF.out _).mono ?_; rintro e w2 ⟨rfl, hb2⟩)
          go_ret2
          rw [← HE.out.1, HE.out.2]
          exact ⟨rfl, hbel.trans (hb2.mono hbel.size)⟩

theorem parseIntS_any (s : ByteArray) (hs : s.size ≤ 1048576) (w : World) :
    Calls Tryz.prog 74 #[.string s] w fun e w' => e = .returned (.tuple #[.int .i64 (parseIV s.data.toList), .bool (parseIOk s.data.toList)]) ∧ Below w.heap.size w w' := by
  by_cases h0 : s.size = 0
  · exact parseIntS_e s hs h0 w
  · have h0' : 0 < s.size := by omega
    by_cases hm : s[0].toNat = 45
    · exact parseIntS_1 s hs h0' hm w
    · exact parseIntS_0 s hs h0' hm w
end Go.Proofs.YtpebiacdkfpnpaaGreat
