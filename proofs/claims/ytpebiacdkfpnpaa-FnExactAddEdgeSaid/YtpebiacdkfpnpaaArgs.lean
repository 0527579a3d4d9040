/- What the laws' walks share: an argument read as a list; contracts of toIntS and eqIntS in the form that the printed walks use. Conditions: lengths of at most 2^20. -/
import Derived.Test.YtpebiacdkfpnpaaInts
namespace Go.Proofs.Ytpebiacdkfpnpaa
open Go.RowKit

/-- The argument reads as the list L. -/
def ArgI (w : World) (a : Option Addr) (len cap : Nat) (L : List Int) : Prop := ∃ zs, IsRow .i64 w a len cap zs ∧ L = zs.take len
theorem ArgI.len {w : World} {a : Option Addr} {len cap : Nat} {L : List Int} (h : ArgI w a len cap L) : L.length = len := by
  obtain ⟨zs, hz, rfl⟩ := h; exact hz.take.1
theorem ArgI.i64 {w : World} {a : Option Addr} {len cap : Nat} {L : List Int} (h : ArgI w a len cap L) : ∀ x ∈ L, I64 x := by
  obtain ⟨zs, hz, rfl⟩ := h; exact hz.take.2
theorem toIntS_arg {w0 w : World} {a : Option Addr} {len cap : Nat} {L : List Int} (h : ArgI w0 a len cap L) (hB : Below w0.heap.size w0 w) (hl : len ≤ 1048576) :
    Calls Try.prog 26 #[.slice a len cap] w (RetI w L) := by
  obtain ⟨zs, hz, rfl⟩ := h; exact toIntS_any a len cap zs w hl (hz.keep hB)
theorem eqIntS_any (v1 v2 : Value) (l : List Int) (w : World) (h1 : Ints w v1 l) (h2 : Ints w v2 l) (hlen : l.length ≤ 1099511627776) :
    Calls Try.prog 17 #[v1, v2] w fun e w' => e = .returned (.bool true) ∧ Below w.heap.size w w' :=
  (eqIntS_same v1 v2 l w h1 h2 hlen).mono (by rintro e w' ⟨rfl, n, rfl⟩; exact ⟨rfl, below_drewN n (Below.refl _ _)⟩)
theorem own_ne {w w' : World} {B : Nat} {v v' : Value} {l l' : List Int} (h : OwnI w B v l) (h' : OwnI w' w.heap.size v' l') : v'.ownBlock ≠ v.ownBlock := by
  obtain ⟨g, hg, _, h1⟩ := h.block
  obtain ⟨g', hg', h2, _⟩ := h'.block
  rw [hg, hg']
  simp only [ne_eq, Option.some.injEq]
  omega
theorem own_base {w : World} {B : Nat} {v : Value} {l : List Int} (h : OwnI w B v l) : ∀ k, v.ownBlock = some k → B ≤ k := by
  obtain ⟨g, hg, h1, _⟩ := h.block
  intro k hk
  rw [hg] at hk
  cases hk
  exact h1
/-- A value is handed back; the memory that was there stands. -/
def RetV (w : World) (v : Value) (e : Ending) (w' : World) : Prop := e = .returned v ∧ Below w.heap.size w w'
/-- A slice of ints in new memory and one value more are handed back. -/
def RetI2 (w : World) (l : List Int) (x : Value) (e : Ending) (w' : World) : Prop := ∃ v, e = .returned (.tuple #[v, x]) ∧ OwnI w' w.heap.size v l ∧ Below w.heap.size w w'
end Go.Proofs.Ytpebiacdkfpnpaa
