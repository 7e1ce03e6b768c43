/- Walks: whether a name may be. -/
import Derived.Test.YtmlefodnbbkilaaNa2
namespace Go.Proofs.Ytmlefodnbbkilaa
open Go.RowKit

def Cont (s : Bs) : Prop := ∀ W : World, Calls Try.prog 43 #[strV s, .string ⟨#[0, 47]⟩] W fun e w' => e = .returned (.bool (s.contains 0 || s.contains 47)) ∧ Below W.heap.size W w'
def ContAll : Prop := ∀ s : Bs, s.length ≤ 1000000 → Cont s
set_option maxRecDepth 100000 in
theorem mayName_any (hC : ContAll) (s : Bs) (w : World) (hs : s.length ≤ 1000000) : Calls Try.prog 21 #[strV s] w fun e w' => e = .returned (.bool (mayNameN s)) ∧ Below w.heap.size w w' := by
  have HC := Lib.hid (hC s hs)
  obtain ⟨b, hb⟩ : ∃ b, mayNameN s = b := ⟨_, rfl⟩
  rw [hb]
  have HB := Lib.hid hb
  clear hb
  go_enter Try.func21, Try.ntmps21
  go_wp2_with fail
  · rename_i h0
    obtain rfl : s = [] := h0
    have hb0 : b = false := HB.out.symm
    subst hb0
    exact bodyPost_ret (v := .bool false) (by simp [results, Try.results21, go_sem]) rfl ⟨rfl, Below.refl _ _⟩
  · refine (HC.out w).mono ?_
    rintro _ V ⟨rfl, hbel⟩
    obtain ⟨cz, hcz⟩ : ∃ cz, (s.contains 0 || s.contains 47) = cz := ⟨_, rfl⟩
    rw [hcz]
    have HCZ := Lib.hid hcz
    clear hcz
    cases cz with
    | true =>
      have hb0 : b = false := by
        have h := HCZ.out
        rw [← HB.out]
        simp only [mayNameN]
        cases h1 : s.contains 0 <;> cases h2 : s.contains 47 <;> simp_all
      subst hb0
      go_wp2_with fail
      exact bodyPost_ret (v := .bool false) (by simp [results, Try.results21, go_sem]) rfl ⟨rfl, hbel⟩
    | false =>
      have hcc : s.contains 0 = false ∧ s.contains 47 = false := by
        have h := HCZ.out
        cases h1 : s.contains 0 <;> cases h2 : s.contains 47 <;> simp_all
      have HCC := Lib.hid hcc
      clear hcc
      go_wp2_with fail
      · rename_i h46
        subst h46
        have hb0 : b = false := HB.out.symm
        subst hb0
        exact bodyPost_ret (v := .bool false) (by simp [results, Try.results21, go_sem]) rfl ⟨rfl, hbel⟩
      · rename_i h1 h2 h3
        refine bodyPost_ret (v := .bool (!List.isEmpty s && !s == [46] && !s == [46, 46])) (by simp [results, Try.results21, go_sem]) rfl ⟨?_, hbel⟩
        rw [← HB.out]
        simp only [mayNameN, HCC.out.1, HCC.out.2]
        have : decide (s.length ≤ 255) = true := by simp; omega
        rw [this]
        simp [bne]
  · rename_i h0 h1
    have hb0 : b = false := by
      rw [← HB.out]
      have : decide (s.length ≤ 255) = false := by simp; omega
      simp [mayNameN, this]
    subst hb0
    exact bodyPost_ret (v := .bool false) (by simp [results, Try.results21, go_sem]) rfl ⟨rfl, Below.refl _ _⟩
end Go.Proofs.Ytmlefodnbbkilaa
