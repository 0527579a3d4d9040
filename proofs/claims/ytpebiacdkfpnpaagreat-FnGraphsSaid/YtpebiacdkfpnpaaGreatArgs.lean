/- What the laws' walks share: an argument read as a list; contracts of toIntS and eqIntS in the form that the printed walks use. Conditions: lengths of at most 2^20. -/
import Derived.Test.YtpebiacdkfpnpaaGreatInts
namespace Go.Proofs.YtpebiacdkfpnpaaGreat
open Go.RowKit

/-- The argument reads as the list L. -/
def ArgI (w : World) (a : Option Addr) (len cap : Nat) (L : List Int) : Prop := ∃ zs, IsRow .i64 w a len cap zs ∧ L = zs.take len
theorem ArgI.len {w : World} {a : Option Addr} {len cap : Nat} {L : List Int} (h : ArgI w a len cap L) : L.length = len := by
  obtain ⟨zs, hz, rfl⟩ := h; exact hz.take.1
theorem ArgI.i64 {w : World} {a : Option Addr} {len cap : Nat} {L : List Int} (h : ArgI w a len cap L) : ∀ x ∈ L, I64 x := by
  obtain ⟨zs, hz, rfl⟩ := h; exact hz.take.2
theorem own_ne {w w' : World} {B : Nat} {v v' : Value} {l l' : List Int} (h : OwnI w B v l) (h' : OwnI w' w.heap.size v' l') : v'.ownBlock ≠ v.ownBlock := by
  obtain ⟨g, hg, _, h1⟩ := h.block
  obtain ⟨g', hg', h2, _⟩ := h'.block
  rw [hg, hg']
  simp only [ne_eq, Option.some.injEq]
  omega
theorem own_base {w : World} {B : Nat} {v : Value} {l : List Int} (h : OwnI w B v l) : ∀ k, v.ownBlock = some k → B ≤ k := by
  obtain ⟨g, hg, h1, _⟩ := h.block
  intro k hk
  rw [hg] at hk
  cases hk
  exact h1
/-- A value is handed back; the memory that was there stands. -/
def RetV (w : World) (v : Value) (e : Ending) (w' : World) : Prop := e = .returned v ∧ Below w.heap.size w w'
/-- A slice of ints in new memory and one value more are handed back. -/
def RetI2 (w : World) (l : List Int) (x : Value) (e : Ending) (w' : World) : Prop := ∃ v, e = .returned (.tuple #[v, x]) ∧ OwnI w' w.heap.size v l ∧ Below w.heap.size w w'
end Go.Proofs.YtpebiacdkfpnpaaGreat
