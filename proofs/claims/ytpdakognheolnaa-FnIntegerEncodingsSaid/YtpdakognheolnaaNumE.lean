/- Contracts of DecodeVarint. Conditions: strings of at most 1048576 bytes. -/
import Derived.Test.YtpdakognheolnaaNumA
namespace Go.Proofs.Ytpdakognheolnaa
open Go.RowKit

/-- The number that the low seven bits of some bytes encode. -/
def num7 : List UInt8 → Nat
  | [] => 0
  | b :: l => b.toNat % 128 + 128 * num7 l
theorem num7_append (l l' : List UInt8) : num7 (l ++ l') = num7 l + 128 ^ l.length * num7 l' := by
  induction l with
  | nil => simp [num7]
  | cons b l ih => simp only [List.cons_append, num7, ih, List.length_cons, Nat.pow_succ, Nat.mul_add]; rw [Nat.mul_comm (128 ^ l.length) 128, Nat.mul_assoc]; omega
theorem num7_lt (l : List UInt8) : num7 l < 128 ^ l.length := by
  induction l with
  | nil => simp [num7]
  | cons b l ih => simp only [num7, List.length_cons, Nat.pow_succ]; omega
/-- Does the varint of the number that the first k bytes encode consist of these very bytes? -/
def hit (L : List UInt8) (k : Nat) : Bool := vi (num7 (L.take k)) == L.take k
def pairV (n k : Nat) : Value := .tuple #[.int .i64 n, .int .i64 k]
def decGo (L : List UInt8) : Nat → Nat → Value
  | 0, _ => pairV 0 0
  | f + 1, k => match hit L k with
    | true => pairV (num7 (L.take k)) k
    | false => decGo L f (k + 1)
/-- What DecodeVarint gives. -/
def decVV (L : List UInt8) : Value := decGo L (min 7 L.length) 1
theorem decGo_hit {L : List UInt8} {f k : Nat} (h : hit L k = true) : decGo L (f + 1) k = pairV (num7 (L.take k)) k := by simp [decGo, h]
theorem decGo_miss {L : List UInt8} {f k : Nat} (h : hit L k = false) : decGo L (f + 1) k = decGo L f (k + 1) := by simp [decGo, h]
theorem decGo_dead {L : List UInt8} : ∀ (f k : Nat), (∀ j, k ≤ j → j < k + f → hit L j = false) → decGo L f k = pairV 0 0
  | 0, _, _ => rfl
  | f + 1, k, h => by rw [decGo_miss (h k (Nat.le_refl _) (by omega))]; exact decGo_dead f (k + 1) fun j hj hj2 => h j (by omega) (by omega)
theorem vi_shape (n : Nat) : ∃ a b, vi n = a ++ [b] ∧ b.toNat < 128 ∧ ∀ x ∈ a, 128 ≤ x.toNat := by
  induction n using Nat.strongRecOn with
  | _ n ih =>
    by_cases h : n < 128
    · exact ⟨[], UInt8.ofNat n, vi_small h, by rw [UInt8.toNat_ofNat']; omega, by simp⟩
    · obtain ⟨a, b, e, hb, ha⟩ := ih (n / 128) (by omega)
      refine ⟨UInt8.ofNat (128 + n % 128) :: a, b, by rw [vi_big (by omega), e]; rfl, hb, ?_⟩
      intro x hx
      rcases List.mem_cons.1 hx with rfl | hx
      · rw [UInt8.toNat_ofNat']; omega
      · exact ha x hx
theorem hit_last {L : List UInt8} {k : Nat} (hk : k < L.length) (h : 128 ≤ (L[k]).toNat) : hit L (k + 1) = false := by
  cases hh : hit L (k + 1) with
  | false => rfl
  | true =>
    obtain ⟨a, b, e, hb, _⟩ := vi_shape (num7 (L.take (k + 1)))
    have e2 : vi (num7 (L.take (k + 1))) = L.take (k + 1) := by simpa [hit] using hh
    rw [e, List.take_succ_eq_append_getElem hk] at e2
    have := (List.append_inj' e2 rfl).2
    simp at this
    rw [this] at hb
    omega
theorem hit_early {L : List UInt8} {i j : Nat} (hi : i < L.length) (h : (L[i]).toNat < 128) (hj : i + 2 ≤ j) (hj2 : j ≤ L.length) : hit L j = false := by
  cases hh : hit L j with
  | false => rfl
  | true =>
    obtain ⟨a, b, e, hb, ha⟩ := vi_shape (num7 (L.take j))
    have e2 : vi (num7 (L.take j)) = L.take j := by simpa [hit] using hh
    rw [e] at e2
    have hlen : a.length + 1 = min j L.length := by
      have := congrArg List.length e2
      simpa using this
    have hil : i < a.length := by omega
    have e3 : (a ++ [b])[i]? = (L.take j)[i]? := by rw [e2]
    rw [List.getElem?_append_left hil, List.getElem?_take_of_lt (by omega), List.getElem?_eq_getElem hil, List.getElem?_eq_getElem hi] at e3
    have e4 := Option.some.inj e3
    have := ha a[i] (List.getElem_mem hil)
    rw [e4] at this
    omega
theorem num7_take7 (L : List UInt8) (k : Nat) (hk : k ≤ 7) : num7 (L.take k) ≤ 562949953421311 := by
  have h1 := num7_lt (L.take k)
  have h2 : 128 ^ (L.take k).length ≤ 128 ^ 7 := Nat.pow_le_pow_right (by decide) (by simp; omega)
  have h3 : (128 : Nat) ^ 7 = 562949953421312 := by decide
  omega
theorem num7_six (l : List UInt8) (h : l.length ≤ 6) : num7 l ≤ 4398046511104 := by
  have h1 := num7_lt l
  have h2 : 128 ^ l.length ≤ 128 ^ 6 := Nat.pow_le_pow_right (by decide) h
  have h3 : (128 : Nat) ^ 6 = 4398046511104 := by decide
  omega
theorem drop_take_cons (s : ByteArray) (j q : Nat) (h1 : q < j) (h2 : j ≤ s.size) : (s.data.toList.take j).drop q = s[q] :: (s.data.toList.take j).drop (q + 1) := by
  rw [List.drop_eq_getElem_cons (by simp; omega), List.getElem_take]
  rfl
theorem extract_head (s : ByteArray) (j : Nat) : (s.extract 0 j).toList = s.data.toList.take j := by
  rw [ByteArray.toList_eq, ByteArray.data_extract, Array.toList_extract]
  simp
theorem hit_eq (s : ByteArray) (j : Nat) : (vi (num7 (s.data.toList.take j)) == (s.extract 0 j).toList) = hit s.data.toList j := by
  rw [extract_head]; rfl
set_option maxHeartbeats 1600000 in
theorem decodeVarintS_any (s : ByteArray) (hs : s.size ≤ 1048576) (w : World) : Calls Try.prog 30 #[.string s] w fun e w' => e = .returned (decVV s.data.toList) ∧ Below w.heap.size w w' := by
  have hm1 : min 7 s.size ≤ 7 := by omega
  have hm2 : min 7 s.size ≤ s.size := by omega
  have hm3 : Kept (∀ k, ¬ k ≤ min 7 s.size → k ≤ 7 → s.size < k) := ⟨by omega⟩
  have hmk : Kept (decVV s.data.toList = decGo s.data.toList (min 7 s.size) 1) := ⟨by simp [decVV]⟩
  obtain ⟨m, hm⟩ : ∃ m, m = min 7 s.size := ⟨_, rfl⟩
  rw [← hm] at hm1 hm2 hm3 hmk
  clear hm
  go_enter Try.func30, Try.ntmps30
  go_wp2
  go_loopw [4, 5, 6] (fun k _ _ wr => ∃ j : Nat, 1 ≤ j ∧ j ≤ m + 1 ∧ k = .int .i64 j ∧ Kept (decVV s.data.toList = decGo s.data.toList (m + 1 - j) j) ∧ Below w.heap.size w wr)
    (fun k _ _ _ => m + 1 - (intOf k).toNat)
  case atStart => exact ⟨1, by omega, by omega, rfl, ⟨by rw [hmk.out]; rfl⟩, Below.refl _ _⟩
  case round =>
    obtain ⟨j, hj1, hjm, rfl, hdec, hbel⟩ := hrel
    by_cases hlt : j ≤ m
    · have hd1 : decide ((j : Int) ≤ 7) = true := decide_eq_true (by omega)
      have hjs : j ≤ s.size := by omega
      have hd2 : decide (j ≤ s.size) = true := decide_eq_true (by omega)
      go_wp2
      obtain ⟨wo, rfl⟩ : ∃ wo : World, wo = wr := ⟨_, rfl⟩
      go_loop [5, 6] (fun n i => ∃ q : Nat, q ≤ j ∧ i = .int .i64 ((q : Int) - 1) ∧ n = .int .i64 (num7 ((s.data.toList.take j).drop q))) (fun _ i => (intOf i + 1).toNat)
      case atStart => exact ⟨j, Nat.le_refl _, rfl, by rw [List.drop_of_length_le (by simp; omega)]; rfl⟩
      case round =>
        obtain ⟨q, hq, rfl, rfl⟩ := hrel
        by_cases hq1 : 1 ≤ q
        · obtain ⟨p, rfl⟩ : ∃ p, q = p + 1 := ⟨q - 1, by omega⟩
          have hd3 : decide ((0 : Int) ≤ (p : Int) + 1 - 1) = true := decide_eq_true (by omega)
          have hps : p < s.size := by omega
          have hsix := num7_six ((s.data.toList.take j).drop (p + 1)) (by simp; omega)
          have hb := s[p].toNat_lt
          go_wp2
          go_round
          case rel =>
            refine ⟨p, by omega, by go_num, ?_⟩
            rw [drop_take_cons s j p (by omega) (by omega)]
            simp only [num7]
            congr 1
            omega
          case measure => simp [intOf]; try omega
        · obtain rfl : q = 0 := by omega
          have hd3 : decide ((0 : Int) ≤ -1) = false := by decide
          have h7 := num7_take7 s.data.toList j (by omega)
          rw [List.drop_zero]
          have heq := hit_eq s j
          cases hh : hit s.data.toList j with
          | true =>
            have hke : Kept (decVV s.data.toList = pairV (num7 (s.data.toList.take j)) j) := ⟨by
              rw [hdec.out, show m + 1 - j = (m - j) + 1 from by omega, decGo_hit hh]⟩
            rw [hh] at heq
            clear hdec hh
            go_wp2
            go_region_law (go_simp; go_at_call 19; refine (encodeVarintS_ok _ (by assumption) _).mono ?_; rintro e w1 ⟨rfl, hb1⟩)
            all_goals
              have hb2 : Below w.heap.size w w1 := hbel.drew.trans (hb1.mono hbel.size)
              clear hb1
              go_wp2
              go_ret2
              exact ⟨by rw [hke.out]; rfl, hb2⟩
          | false =>
            have hke : Kept (decVV s.data.toList = decGo s.data.toList (m + 1 - (j + 1)) (j + 1)) := ⟨by
              rw [hdec.out, show m + 1 - j = (m - j) + 1 from by omega, decGo_miss hh, show m + 1 - (j + 1) = m - j from by omega]⟩
            rw [hh] at heq
            clear hdec hh
            go_wp2
            go_region_law (go_simp; go_at_call 19; refine (encodeVarintS_ok _ (by assumption) _).mono ?_; rintro e w1 ⟨rfl, hb1⟩)
            all_goals
              have hb2 : Below w.heap.size w w1 := hbel.drew.trans (hb1.mono hbel.size)
              clear hb1
              go_wp2
              go_roundw
              case rel => exact ⟨j + 1, by omega, by omega, by go_num, hke, hb2⟩
              case measure => simp [intOf]; omega
    · obtain rfl : j = m + 1 := by omega
      have hke : Kept (decVV s.data.toList = pairV 0 0) := ⟨by rw [hdec.out, Nat.sub_self]; rfl⟩
      clear hdec hmk
      by_cases h7 : m + 1 ≤ 7
      · have hd1 : decide (((m : Int) + 1) ≤ 7) = true := decide_eq_true (by omega)
        have hd2 : ¬ ((m : Int) + 1 ≤ s.size) := by have := hm3.out (m + 1) (by omega) h7; omega
        clear h7
        go_wp2
        go_ret2
        exact ⟨by rw [hke.out]; rfl, hbel⟩
      · have hd1 : decide (((m : Int) + 1) ≤ 7) = false := decide_eq_false (by omega)
        go_wp2
        go_ret2
        exact ⟨by rw [hke.out]; rfl, hbel⟩

theorem num7_snoc (s : ByteArray) (j : Nat) (h : j < s.size) : num7 (s.data.toList.take (j + 1)) = num7 (s.data.toList.take j) + 128 ^ j * (s[j].toNat % 128) := by
  rw [take_snoc s j h, num7_append]
  have : (s.data.toList.take j).length = j := by simp; omega
  rw [this]
  simp [num7]
theorem or_shift (s : ByteArray) (j : Nat) (h : j < s.size) (h6 : j ≤ 6) : bits BinOp.or IntKind.i64 ((num7 (s.data.toList.take j) : Nat) : Int) (wrap64 ((s[j].toNat : Int) % 128 * 2 ^ (7 * j))) = ((num7 (s.data.toList.take (j + 1)) : Nat) : Int) := by
  have hx := num7_lt (s.data.toList.take j)
  have hl : (s.data.toList.take j).length = j := by simp; omega
  rw [hl, show 128 ^ j = 2 ^ (7 * j) from by rw [Nat.pow_mul]] at hx
  have hp : 2 ^ (7 * j) ≤ 2 ^ 42 := Nat.pow_le_pow_right (by decide) (by omega)
  have hy : s[j].toNat % 128 ≤ 127 := by omega
  have hm : 2 ^ (7 * j) * (s[j].toNat % 128) ≤ 2 ^ 42 * 127 := Nat.mul_le_mul hp hy
  have e : ((s[j].toNat : Int) % 128 * 2 ^ (7 * j)) = ((2 ^ (7 * j) * (s[j].toNat % 128) : Nat) : Int) := by
    rw [Int.mul_comm]
    simp
  rw [e, IntWalk.wrap64_in _ (by omega), i64_or_nat _ _ (by omega) (by omega), num7_snoc s j h, Nat.or_comm, ← Nat.two_pow_add_eq_or_of_lt hx, show 128 ^ j = 2 ^ (7 * j) from by rw [Nat.pow_mul]]
  omega
set_option maxHeartbeats 1600000 in
theorem decodeVarint_any (s : ByteArray) (hs : s.size ≤ 1048576) (w : World) : Calls Try.prog 31 #[.string s] w fun e w' => e = .returned (decVV s.data.toList) ∧ Below w.heap.size w w' := by
  have hm1 : min 7 s.size ≤ 7 := by omega
  have hm2 : min 7 s.size ≤ s.size := by omega
  have hm3 : Kept (∀ k, ¬ k < min 7 s.size → k < 7 → s.size ≤ k) := ⟨by omega⟩
  have hmk : Kept (decVV s.data.toList = decGo s.data.toList (min 7 s.size) 1) := ⟨by simp [decVV]⟩
  obtain ⟨m, hm⟩ : ∃ m, m = min 7 s.size := ⟨_, rfl⟩
  rw [← hm] at hm1 hm2 hm3 hmk
  clear hm
  go_enter Try.func31, Try.ntmps31
  go_wp2
  go_loopw [4, 5] (fun n i wr => ∃ j : Nat, j ≤ m ∧ i = .int .i64 j ∧ n = .int .i64 (num7 (s.data.toList.take j)) ∧ Kept (decVV s.data.toList = decGo s.data.toList (m - j) (j + 1)) ∧ Below w.heap.size w wr)
    (fun _ i _ => m - (intOf i).toNat)
  case atStart => exact ⟨0, by omega, rfl, rfl, ⟨by rw [hmk.out]; rfl⟩, Below.refl _ _⟩
  case round =>
    obtain ⟨j, hjm, rfl, rfl, hdec, hbel⟩ := hrel
    by_cases hlt : j < m
    · have hd1 : decide ((j : Int) < 7) = true := decide_eq_true (by omega)
      have hjs : j < s.size := by omega
      have hb := s[j].toNat_lt
      have hand : bits BinOp.and IntKind.u8 (s[j].toNat : Int) 127 = (s[j].toNat : Int) % 128 := by
        rw [u8_and _ _ (by omega) (by omega) (by omega) (by omega)]
        have := Nat.and_two_pow_sub_one_eq_mod s[j].toNat 7
        simp at this ⊢
        omega
      have hor := or_shift s j hjs (by omega)
      have h7 := num7_take7 s.data.toList (j + 1) (by omega)
      have heq := hit_eq s (j + 1)
      by_cases hlast : s[j].toNat < 128
      · have hd3 : decide ((s[j].toNat : Int) < 128) = true := decide_eq_true (by omega)
        have hj0 : (0 : Int) ≤ (j : Int) + 1 := by omega
        have hjn : ((j : Int) + 1).toNat = j + 1 := by omega
        have hjw : IntKind.i64.wrap ((j : Int) + 1) = (j : Int) + 1 := IntWalk.i64_in _ (by omega)
        have hj1 : (j : Int) + 1 ≤ s.size := by omega
        cases hh : hit s.data.toList (j + 1) with
        | true =>
          have hke : Kept (decVV s.data.toList = pairV (num7 (s.data.toList.take (j + 1))) (j + 1)) := ⟨by
            rw [hdec.out, show m - j = (m - j - 1) + 1 from by omega, decGo_hit hh]⟩
          rw [hh] at heq
          clear hdec hh hlast
          go_wp2
          go_region_law (go_simp; go_at_call 20; refine (encodeVarint_ok _ (by assumption) _).mono ?_; rintro e w1 ⟨rfl, hb1⟩)
          all_goals
            have hb2 : Below w.heap.size w w1 := hbel.drew.trans (hb1.mono hbel.size)
            clear hb1 hjn hjw hand hor heq hd3 hb h7
            go_wp2
            go_ret2
            exact ⟨by rw [hke.out]; rfl, hb2⟩
        | false =>
          have hke : Kept (decVV s.data.toList = pairV 0 0) := ⟨by
            rw [hdec.out]
            refine decGo_dead _ _ fun k h1 h2 => ?_
            by_cases hk : k = j + 1
            · rw [hk]; exact hh
            · exact hit_early (i := j) (by simpa using hjs) hlast (by omega) (by simp; omega)⟩
          rw [hh] at heq
          clear hdec hh hlast
          go_wp2
          go_region_law (go_simp; go_at_call 20; refine (encodeVarint_ok _ (by assumption) _).mono ?_; rintro e w1 ⟨rfl, hb1⟩)
          all_goals
            have hb2 : Below w.heap.size w w1 := hbel.drew.trans (hb1.mono hbel.size)
            clear hb1 hjn hjw hand hor heq hd3 hb h7
            go_wp2
            go_ret2
            exact ⟨by rw [hke.out]; rfl, hb2⟩
      · have hd3 : decide ((s[j].toNat : Int) < 128) = false := decide_eq_false (by omega)
        have hke : Kept (decVV s.data.toList = decGo s.data.toList (m - (j + 1)) (j + 1 + 1)) := ⟨by
          rw [hdec.out, show m - j = (m - (j + 1)) + 1 from by omega, decGo_miss (hit_last (by simpa using hjs) (by show 128 ≤ s[j].toNat; omega))]⟩
        clear hdec hlast
        go_wp2
        go_roundw
        case rel => exact ⟨j + 1, by omega, by go_num, rfl, hke, hbel⟩
        case measure => simp [intOf]; omega
    · obtain rfl : j = m := by omega
      have hke : Kept (decVV s.data.toList = pairV 0 0) := ⟨by rw [hdec.out, Nat.sub_self]; rfl⟩
      clear hdec hmk
      by_cases h7 : j < 7
      · have hd1 : decide ((j : Int) < 7) = true := decide_eq_true (by omega)
        have hd2 : ¬ (j < s.size) := by have := hm3.out j (by omega) h7; omega
        clear h7
        go_wp2
        go_ret2
        exact ⟨by rw [hke.out]; rfl, hbel⟩
      · have hd1 : decide ((j : Int) < 7) = false := decide_eq_false (by omega)
        by_cases h8 : j < s.size
        · go_wp2
          go_ret2
          exact ⟨by rw [hke.out]; rfl, hbel⟩
        · go_wp2
          go_ret2
          exact ⟨by rw [hke.out]; rfl, hbel⟩
end Go.Proofs.Ytpdakognheolnaa
