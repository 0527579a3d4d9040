/- A slice of ints held against nil. Conditions: none. -/
import Derived.Test.YtpebiacdkfpnpaaInts
namespace Go.Proofs.Ytpebiacdkfpnpaa
open Go.RowKit

theorem equalIn_nil (P : Program) (t e : TypeId) (ht : P.underlying t = some (.slice e)) (d : Nat) (w : World) :
    (∀ a n c, (Op.equalIn (d + 1) t (.slice (some a) n c) (.slice none 0 0)).run P w = .ok false w) ∧ (Op.equalIn (d + 1) t (.slice none 0 0) (.slice none 0 0)).run P w = .ok true w := by
  constructor
  · intro a n c
    rw [Op.equalIn]
    simp only [Sem.run_bind, run_underlying ht, Result.andThen_ok, Sem.run_pure]
  · rw [Op.equalIn]
    simp only [Sem.run_bind, run_underlying ht, Result.andThen_ok, Sem.run_pure, Option.isNone_none]
theorem equal_nil (P : Program) (t e : TypeId) (ht : P.underlying t = some (.slice e)) (w : World) :
    (∀ a n c, (Op.equal t (.slice (some a) n c) (.slice none 0 0)).run P w = .ok false w) ∧ (Op.equal t (.slice none 0 0) (.slice none 0 0)).run P w = .ok true w := equalIn_nil P t e ht 9999 w
theorem eql_nil_any (P : Program) (t e : TypeId) (ht : P.underlying t = some (.slice e)) (w : World) :
    (∀ a n c, (binOp .eql t (.slice (some a) n c) (.slice none 0 0)).run P w = .ok (.bool false) w) ∧ (binOp .eql t (.slice none 0 0) (.slice none 0 0)).run P w = .ok (.bool true) w := by
  obtain ⟨h1, h2⟩ := equal_nil P t e ht w
  constructor
  · intro a n c
    simp only [binOp, Sem.run_bind, h1, Result.andThen_ok, Sem.run_pure]
  · simp only [binOp, Sem.run_bind, h2, Result.andThen_ok, Sem.run_pure]
theorem eql_nil_no (a : Addr) (n c : Nat) (w : World) : (binOp .eql 33 (.slice (some a) n c) (.slice none 0 0)).run Try.prog w = .ok (.bool false) w := (eql_nil_any _ _ _ Try.underlying33 w).1 a n c
theorem eql_nil_yes (w : World) : (binOp .eql 33 (.slice none 0 0) (.slice none 0 0)).run Try.prog w = .ok (.bool true) w := (eql_nil_any _ _ _ Try.underlying33 w).2
end Go.Proofs.Ytpebiacdkfpnpaa
