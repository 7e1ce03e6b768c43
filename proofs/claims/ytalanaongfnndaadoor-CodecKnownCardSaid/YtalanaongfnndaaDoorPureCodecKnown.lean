/- CodecKnown, over bytes alone: letters that all know. -/
import Derived.Test.YtalanaongfnndaaDoorG2
namespace Go.Proofs.YtalanaongfnndaaDoor.Pure
open Go.RowKit Go.Proofs.YtalanaongfnndaaDoor Go.Proofs.YtalanaongfnndaaDoor.G Go.Proofs.YtalanaongfnndaaDoorW.PrintWords Go.Proofs.YtalanaongfnndaaDoorW.PrintLast

theorem tmod7 (a : Int) (h0 : 0 ≤ a) (h1 : a < 256) : Int.tmod (wrap64 a) 7 = a % 7 := by
  rw [show wrap64 a = a by unfold wrap64; omega, Int.tmod_eq_emod_of_nonneg h0]
theorem CodecKnown : shelfmarklaw5_CodecKnown.Pure := by
  intro a0 h
  have hr : 0 ≤ a0 ∧ a0 < 256 := by
    simp [Lit.wf, IntKind.min, IntKind.max, IntKind.signed, IntKind.bits] at h
    omega
  unfold shelfmarklaw5_CodecKnown.f
  rw [tmod7 a0 hr.1 hr.2]
  have h7 : a0 % 7 = 0 ∨ a0 % 7 = 1 ∨ a0 % 7 = 2 ∨ a0 % 7 = 3 ∨ a0 % 7 = 4 ∨ a0 % 7 = 5 ∨ a0 % 7 = 6 := by omega
  rcases h7 with h | h | h | h | h | h | h <;> rw [h] <;> decide +kernel
end Go.Proofs.YtalanaongfnndaaDoor.Pure
