/- Contracts of NewGraph. Conditions: none. -/
import Derived.Test.YtpdakognheolnaaRetG
import Derived.Test.YtpdakognheolnaaNumA
namespace Go.Proofs.Ytpdakognheolnaa
open Go.RowKit

def newOk (rank : Int) : Bool := decide (1 ≤ rank ∧ rank ≤ 3)
def newR (rank : Int) : Int := match newOk rank with
  | true => rank
  | false => 0
def newN (rank : Int) : Int := match newOk rank with
  | true => 1
  | false => 0
theorem new_yes {rank : Int} (h : 1 ≤ rank ∧ rank ≤ 3) : newOk rank = true ∧ newR rank = rank ∧ newN rank = 1 := by
  have e : newOk rank = true := decide_eq_true h
  exact ⟨e, by simp only [newR, e], by simp only [newN, e]⟩
theorem new_no {rank : Int} (h : ¬ (1 ≤ rank ∧ rank ≤ 3)) : newOk rank = false ∧ newR rank = 0 ∧ newN rank = 0 := by
  have e : newOk rank = false := decide_eq_false h
  exact ⟨e, by simp only [newR, e], by simp only [newN, e]⟩
theorem newGraph_any (rank : Int) (w : World) : Calls Try.prog 35 #[.int .i64 rank] w (RetG2 w (newR rank) (newN rank) [] (.bool (newOk rank))) := by
  by_cases h : 1 ≤ rank ∧ rank ≤ 3
  · rw [(new_yes h).1, (new_yes h).2.1, (new_yes h).2.2]
    go_enter Try.func35, Try.ntmps35
    go_wp2_with fail
    refine (within_yes h.1 h.2 _).mono ?_
    rintro e w' ⟨rfl, rfl⟩
    clear h
    go_wp2
    exact bodyPost_ret (v := .tuple #[graphV rank 1 (.slice none 0 0), .bool true]) (by simp [results, Try.results35, go_sem]) rfl ⟨_, rfl, .inl ⟨rfl, rfl⟩, (Below.refl _ _).alloc (Nat.le_refl _) _⟩
  · rw [(new_no h).1, (new_no h).2.1, (new_no h).2.2]
    have h2 : rank < 1 ∨ 3 < rank := by omega
    clear h
    go_enter Try.func35, Try.ntmps35
    go_wp2_with fail
    refine (within_no h2 _).mono ?_
    rintro e w' ⟨rfl, rfl⟩
    go_wp2
    exact bodyPost_ret (v := .tuple #[graphV 0 0 (.slice none 0 0), .bool false]) (by simp [results, Try.results35, go_sem]) rfl ⟨_, rfl, .inl ⟨rfl, rfl⟩, (Below.refl _ _).alloc (Nat.le_refl _) _⟩
theorem newGraphS_any (rank : Int) (w : World) : Calls Try.prog 34 #[.int .i64 rank] w (RetG2 w (newR rank) (newN rank) [] (.bool (newOk rank))) := by
  by_cases h : 1 ≤ rank ∧ rank ≤ 3
  · rw [(new_yes h).1, (new_yes h).2.1, (new_yes h).2.2]
    go_enter Try.func34, Try.ntmps34
    go_wp2_with fail
    refine (l1In_yes h.1 h.2 _).mono ?_
    rintro e w' ⟨rfl, rfl⟩
    clear h
    go_wp2
    exact bodyPost_ret (v := .tuple #[graphV rank 1 (.slice none 0 0), .bool true]) (by simp [results, Try.results34, go_sem]) rfl ⟨_, rfl, .inl ⟨rfl, rfl⟩, (Below.refl _ _).alloc (Nat.le_refl _) _⟩
  · rw [(new_no h).1, (new_no h).2.1, (new_no h).2.2]
    have h2 : rank < 1 ∨ 3 < rank := by omega
    clear h
    go_enter Try.func34, Try.ntmps34
    go_wp2_with fail
    refine (l1In_no h2 _).mono ?_
    rintro e w' ⟨rfl, rfl⟩
    go_wp2
    exact bodyPost_ret (v := .tuple #[graphV 0 0 (.slice none 0 0), .bool false]) (by simp [results, Try.results34, go_sem]) rfl ⟨_, rfl, .inl ⟨rfl, rfl⟩, (Below.refl _ _).alloc (Nat.le_refl _) _⟩
end Go.Proofs.Ytpdakognheolnaa
