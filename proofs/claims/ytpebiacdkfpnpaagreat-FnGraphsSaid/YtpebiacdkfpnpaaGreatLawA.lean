/- What the walks of the laws on codes share. Conditions: none. -/
import Derived.Test.YtpebiacdkfpnpaaGreatDrawY
namespace Go.Proofs.YtpebiacdkfpnpaaGreat
open Go.RowKit

theorem codeArg_of_row {w : World} {A : Option Addr} {len cap : Nat} {zs : List Int} (h : IsRow .u8 w A len cap zs) : CodeArg w A len := fun h0 => by
  rcases h with ⟨_, rfl, _⟩ | ⟨x, rfl, h1, h2, h3, h4, h5⟩
  · omega
  obtain ⟨b, off, sp⟩ := x
  have c0 := h4 0 (by omega)
  have hb := World.block_lt_of_cell? w _ c0
  have hsp : sp = none := by
    cases sp with
    | none => rfl
    | some s =>
      exfalso
      simp only [Addr.add, if_pos, World.cell?] at c0
      split at c0 <;> simp at c0
  subst hsp
  refine ⟨b, off, rfl, by simpa [Addr.add] using hb, fun j hj => ?_⟩
  have c1 := h4 j (by omega)
  have e1 : (⟨b, off, none⟩ : Addr).add j = ⟨b, off + j, none⟩ := by
    unfold Addr.add
    split
    · next h => subst h; rfl
    · rfl
  rw [e1] at c1
  have hm : zs.getD j 0 ∈ zs := by
    rw [List.getD_eq_getElem?_getD, List.getElem?_eq_getElem (by omega)]
    exact List.getElem_mem _
  have hw := h5 _ hm
  simp [Lit.wf, IntKind.min, IntKind.max, IntKind.signed, IntKind.bits] at hw
  refine ⟨(zs.getD j 0).toNat, ?_, ?_⟩
  · simp only [List.getD_eq_getElem?_getD] at *; omega
  · rw [c1]
    congr 2
    simp only [List.getD_eq_getElem?_getD] at *
    omega
theorem row_cap {w : World} {A : Option Addr} {len cap : Nat} {zs : List Int} (h : IsRow .u8 w A len cap zs) : len ≤ cap := by
  rcases h with ⟨_, rfl, _⟩ | ⟨x, _, h1, _⟩
  · omega
  · exact h1
theorem sameInts_eq (v1 v2 : Value) (l1 l2 : List Int) (w : World) (h1 : Ints w v1 l1) (h2 : Ints w v2 l2) (hn : l1.length ≤ 134217728) (he : l1 = l2) :
    Calls Tryz.prog 29 #[v1, v2] w (RetV w (.bool true)) := by
  have h := sameInts_any v1 v2 l1 l2 w h1 h2 hn
  have e : eqL l1 l2 = true := by rw [he]; simp [eqL]
  rwa [e] at h
end Go.Proofs.YtpebiacdkfpnpaaGreat
