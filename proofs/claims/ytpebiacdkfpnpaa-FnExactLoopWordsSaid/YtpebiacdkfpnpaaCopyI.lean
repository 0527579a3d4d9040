/- Contract of copyInts. Conditions: lists of at most 2^27 numbers. -/
import Derived.Test.YtpebiacdkfpnpaaWordB
import Derived.Test.YtpebiacdkfpnpaaArgs
namespace Go.Proofs.Ytpebiacdkfpnpaa
open Go.RowKit

theorem copyInts_any (v : Value) (l : List Int) (w : World) (h : Ints w v l) (hn : l.length ≤ 134217728) :
    Calls Try.prog 73 #[v] w (RetI w l) := by
  obtain ⟨b1, off1, cap1, rfl, hb1, hcap1⟩ := h.form
  have hr1 := h.range
  go_enter Try.func73, Try.ntmps73
  go_wp2_with (at_builtin; refine wpl_app elemI rfl (.tmp 3) (.tmp 4) rfl rfl (World.ownsRow_made _ _ _ (Nat.le_refl _) (by decide) rfl) rfl (by simp [intsV]) (h.keep ((Below.refl _ _).alloc (Nat.le_refl _) _)).news (intsV_one _) (by omega) ?_; intro g1 c1 w1 hown1 hgrow1 hat1; simp only [Nat.zero_add, List.nil_append] at hown1; have hB1 := below_push (Below.refl _ _) hgrow1 (Nat.le_refl _) (Nat.le_refl _))
  go_ret
  exact RetI.mk rfl hown1 hr1 hB1
end Go.Proofs.Ytpebiacdkfpnpaa
