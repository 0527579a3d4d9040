/- The head of the translation, read by its characters: it may be entered, nothing is lifted, it is a plain cut. Conditions: none. -/
import Derived.Test.YtpebiacdkfpnpaaGreatRows
import Derived.ProofKit
namespace Go.Proofs.YtpebiacdkfpnpaaGreat
def headL : List Char := [Char.ofNat 104, Char.ofNat 97, Char.ofNat 114, Char.ofNat 110, Char.ofNat 101, Char.ofNat 115, Char.ofNat 115, Char.ofNat 32, Char.ofNat 55, Char.ofNat 54, Char.ofNat 57, Char.ofNat 52, Char.ofNat 49, Char.ofNat 102, Char.ofNat 55, Char.ofNat 50, Char.ofNat 102, Char.ofNat 98, Char.ofNat 48, Char.ofNat 101, Char.ofNat 56, Char.ofNat 49, Char.ofNat 98, Char.ofNat 50, Char.ofNat 99, Char.ofNat 98, Char.ofNat 97, Char.ofNat 50, Char.ofNat 102, Char.ofNat 100, Char.ofNat 99, Char.ofNat 56, Char.ofNat 101, Char.ofNat 53, Char.ofNat 99, Char.ofNat 101, Char.ofNat 54, Char.ofNat 56, Char.ofNat 99, Char.ofNat 49, Char.ofNat 57, Char.ofNat 48, Char.ofNat 98, Char.ofNat 48, Char.ofNat 57, Char.ofNat 100, Char.ofNat 48, Char.ofNat 48, Char.ofNat 99, Char.ofNat 56, Char.ofNat 49, Char.ofNat 55, Char.ofNat 100, Char.ofNat 51, Char.ofNat 57, Char.ofNat 49, Char.ofNat 51, Char.ofNat 54, Char.ofNat 48, Char.ofNat 50, Char.ofNat 52, Char.ofNat 99, Char.ofNat 55, Char.ofNat 99, Char.ofNat 48, Char.ofNat 49, Char.ofNat 97, Char.ofNat 49, Char.ofNat 100, Char.ofNat 99, Char.ofNat 50, Char.ofNat 53, Char.ofNat 32, Char.ofNat 99, Char.ofNat 117, Char.ofNat 116, Char.ofNat 32, Char.ofNat 97, Char.ofNat 116, Char.ofNat 32, Char.ofNat 108, Char.ofNat 111, Char.ofNat 111, Char.ofNat 112, Char.ofNat 46, Char.ofNat 101, Char.ofNat 120, Char.ofNat 97, Char.ofNat 109, Char.ofNat 112, Char.ofNat 108, Char.ofNat 101, Char.ofNat 47, Char.ofNat 103, Char.ofNat 48, Char.ofNat 50, Char.ofNat 48, Char.ofNat 55, Char.ofNat 53, Char.ofNat 47, Char.ofNat 108, Char.ofNat 97, Char.ofNat 119, Char.ofNat 115, Char.ofNat 46, Char.ofNat 70, Char.ofNat 110, Char.ofNat 71, Char.ofNat 114, Char.ofNat 97, Char.ofNat 112, Char.ofNat 104, Char.ofNat 115]
theorem head_eq : Tryz.checked.prog.initOrder = String.ofList headL := by
  dsimp only [Tryz.checked, Tryz.prog, Tryz.progTables]
  unfold headL
  kernel_rfl
theorem head_list : Tryz.checked.prog.initOrder.toList = headL := by rw [head_eq, String.toList_ofList]
def restL : List (List Char) := (behindMainWord (wordsSigns headL)).tail
theorem head_words : behindMainWord (wordsSigns headL) = "cut".toList :: restL := by kernel_rfl
theorem head_strip : stripLifts liftWords ("cut".toList :: restL) = ([], "cut".toList :: restL) := by kernel_rfl
theorem mayEnter_of (P : Program) {L : List Char} {r : List (List Char)} (h : P.initOrder.toList = L) (hw : behindMainWord (wordsSigns L) = "cut".toList :: r) (hs : stripLifts liftWords ("cut".toList :: r) = ([], "cut".toList :: r))
    (h1 : P.laysLater = false) (h2 : P.bearsReflect = false) (h3 : P.doorFits [] = true) : P.mayEnter = true := by
  unfold Program.mayEnter
  rw [h, hw]
  simp only [hs]
  simp [h1, h2, h3]
theorem lifts_of (P : Program) {L : List Char} {r : List (List Char)} (h : P.initOrder.toList = L) (hw : behindMainWord (wordsSigns L) = "cut".toList :: r) (hs : stripLifts liftWords ("cut".toList :: r) = ([], "cut".toList :: r)) : P.liftsFinal = false := by
  unfold Program.liftsFinal Program.headLifts
  rw [h, hw]
  simp only [hs]
  simp
theorem make_of (P : Program) {L : List Char} {r : List (List Char)} (h : P.initOrder.toList = L) (hw : behindMainWord (wordsSigns L) = "cut".toList :: r) : P.make = some .cut := by
  unfold Program.make
  rw [h, hw]
  simp
theorem head_mayEnter : Tryz.checked.prog.mayEnter = true := mayEnter_of _ head_list head_words head_strip (by kernel_rfl) (by kernel_rfl) (by kernel_rfl)
theorem head_lifts : Tryz.checked.prog.liftsFinal = false := lifts_of _ head_list head_words head_strip
theorem head_make : Tryz.checked.prog.make = some .cut := make_of _ head_list head_words
theorem own : ownKnob Tryz.prog.godebug = none := by kernel_rfl
theorem laidOut : laidOutB Tryz.prog = true := by kernel_rfl
end Go.Proofs.YtpebiacdkfpnpaaGreat
