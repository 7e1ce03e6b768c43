/- Strings by their order. -/
import Derived.Test.YtmlefodnbbkilaaStr1
import Derived.Test.YtmlefodnbbkilaaPureTree
import Derived.Laws.Strings
namespace Go.Proofs.Ytmlefodnbbkilaa
theorem ltB_less : ∀ (a b : Bs), Op.bytesLess a b = ltB a b
  | _, [] => by simp [Op.bytesLess, ltB]
  | [], _ :: _ => by simp [Op.bytesLess, ltB]
  | a :: x, b :: y => by
    have ih := ltB_less x y
    simp only [Op.bytesLess, ltB, ih]
    by_cases h1 : a < b
    · simp [h1]
    · simp only [h1, decide_false, Bool.false_or, if_false]
      by_cases h2 : b < a
      · have : (a == b) = false := by
          simp only [beq_eq_false_iff_ne, ne_eq]
          rintro rfl
          exact h1 h2
        simp [h2, this]
      · have : a = b := by
          apply UInt8.toNat_inj.1
          have h1' : ¬ a.toNat < b.toNat := h1
          have h2' : ¬ b.toNat < a.toNat := h2
          omega
        simp [this]
theorem ltB_le : ∀ (a b : Bs), (ltB a b || a == b) = !(ltB b a)
  | [], [] => by simp [ltB]
  | _ :: _, [] => by simp [ltB]
  | [], _ :: _ => by simp [ltB]
  | a :: x, b :: y => by
    have ih := ltB_le x y
    simp only [ltB]
    by_cases h1 : a < b
    · have : ¬ b < a := by
        have h1' : a.toNat < b.toNat := h1
        intro h
        have h' : b.toNat < a.toNat := h
        omega
      simp [h1, this]
    · by_cases h2 : b < a
      · have : ¬ a = b := by rintro rfl; exact h1 h2
        simp [h1, h2, this]
      · have : a = b := by
          apply UInt8.toNat_inj.1
          have h1' : ¬ a.toNat < b.toNat := h1
          have h2' : ¬ b.toNat < a.toNat := h2
          omega
        subst this
        simp only [h1, if_false]
        rw [← ih]
        simp
theorem leq_str (t : TypeId) (a b : Bs) : binOp .leq t (.string ⟨a.toArray⟩) (.string ⟨b.toArray⟩) = pure (.bool (!(ltB b a))) := by
  rw [← ltB_le, ← ltB_less]
  simp [binOp, Op.stringOp]
theorem geq_str (t : TypeId) (a b : Bs) : binOp .geq t (.string ⟨a.toArray⟩) (.string ⟨b.toArray⟩) = pure (.bool (!(ltB a b))) := by
  rw [← ltB_less]
  simp [binOp, Op.stringOp]
theorem gtr_str (t : TypeId) (a b : Bs) : binOp .gtr t (.string ⟨a.toArray⟩) (.string ⟨b.toArray⟩) = pure (.bool (ltB b a)) := by
  rw [← Bool.not_not (ltB b a), ← ltB_le, ← ltB_less]
  simp [binOp, Op.stringOp]
theorem lss_str (t : TypeId) (a b : Bs) : binOp .lss t (.string ⟨a.toArray⟩) (.string ⟨b.toArray⟩) = pure (.bool (ltB a b)) := by
  simp only [binOp, Op.stringOp, ByteArray.toList_mk, ltB_less]
attribute [go_sem] leq_str geq_str gtr_str lss_str
end Go.Proofs.Ytmlefodnbbkilaa
