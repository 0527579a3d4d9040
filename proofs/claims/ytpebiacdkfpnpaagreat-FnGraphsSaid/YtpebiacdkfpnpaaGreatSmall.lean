/- Bytes: the element type. Conditions: none. -/
import Derived.Test.YtpebiacdkfpnpaaGreatWithin
namespace Go.Proofs.YtpebiacdkfpnpaaGreat
open Go.RowKit

theorem elemB : Elem Tryz.prog 22 5 (.int .u8 0) 1 1 := ⟨Tryz.underlying22, by kernel_rfl, rfl, by decide, by decide⟩

theorem u8_cell (n : Nat) (h : n < 256) : Value.int .u8 (n : Int) = Value.int .u8 ((UInt8.ofNat n).toNat : Int) := by
  rw [UInt8.toNat_ofNat', Nat.mod_eq_of_lt h]
theorem bytesV_one (n : Nat) (h : n < 256) : [Value.int .u8 (n : Int)] = bytesV [UInt8.ofNat n] := by
  rw [u8_cell n h]; rfl
end Go.Proofs.YtpebiacdkfpnpaaGreat
