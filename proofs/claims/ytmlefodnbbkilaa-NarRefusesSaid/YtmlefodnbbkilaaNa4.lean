/- Walks: whether a node may be. -/
import Derived.Test.YtmlefodnbbkilaaNa3
namespace Go.Proofs.Ytmlefodnbbkilaa
open Go.RowKit


def encNd (x : Nd) : List Value := [strV x.1, .int .i64 x.2.1, strV x.2.2]
set_option maxRecDepth 100000 in
theorem mayNode_any (x : Nd) (w : World) : Calls Try.prog 34 #[.agg #[strV x.1, .int .i64 x.2.1, strV x.2.2]] w fun e w' => e = .returned (.bool (mayNodeN x)) ∧ Below w.heap.size w w' := by
  obtain ⟨p, k, d⟩ := x
  obtain ⟨b, hb⟩ : ∃ b, mayNodeN (p, k, d) = b := ⟨_, rfl⟩
  rw [hb]
  have HB := Lib.hid hb
  clear hb
  have HC := Lib.hid fun W => Try.strings_Contains_one ⟨d.toArray⟩ 0 W
  have HCB := Lib.hid (Lib.contains_iff_indexByte d 0)
  have hbel : Below w.heap.size w (w.alloc (.cells #[strV p, .int .i64 k, strV d] 37)) := (Below.refl _ w).alloc (Nat.le_refl _) _
  have HBL := Lib.hid hbel
  clear hbel
  dsimp only
  have hcell := new_at w (.cells #[strV p, .int .i64 k, strV d] 37)
  have hle : ∀ n : Nat, decide ((d.length : Int) ≤ (n : Int)) = decide (d.length ≤ n) := fun n => decide_eq_decide.2 (by omega)
  have hle1 : decide ((d.length : Int) ≤ 65536) = decide (d.length ≤ 65536) := hle 65536
  have hle2 : decide ((d.length : Int) ≤ 4096) = decide (d.length ≤ 4096) := hle 4096
  have HLE := Lib.hid (And.intro hle1 hle2)
  clear hle hle1 hle2
  by_cases h1 : k = 1
  · subst h1
    go_enter Try.func34, Try.ntmps34
    go_wp2_with fail
    exact bodyPost_ret (v := .bool (decide ((d.length : Int) ≤ 65536))) (by simp [results, Try.results34, go_sem]) rfl ⟨by rw [HLE.out.1, ← HB.out]; rfl, HBL.out⟩
  by_cases h2 : k = 2
  · subst h2
    go_enter Try.func34, Try.ntmps34
    go_wp2_with fail
    exact bodyPost_ret (v := .bool (decide ((d.length : Int) ≤ 65536))) (by simp [results, Try.results34, go_sem]) rfl ⟨by rw [HLE.out.1, ← HB.out]; rfl, HBL.out⟩
  by_cases h3 : k = 3
  · subst h3
    have hbe : b = (!d.isEmpty && decide (d.length ≤ 4096) && !d.contains 0) := HB.out.symm
    have HBE := Lib.hid hbe
    clear hbe h1 h2
    go_enter Try.func34, Try.ntmps34
    go_wp2_with fail
    · rename_i h0
      obtain rfl : d = [] := h0
      have hb0 : b = false := by rw [HBE.out]; rfl
      subst hb0
      exact bodyPost_ret (v := .bool false) (by simp [results, Try.results34, go_sem]) rfl ⟨rfl, HBL.out⟩
    · rename_i h0 hl4
      refine (HC.out _).mono ?_
      rintro _ V ⟨rfl, hV⟩
      rw [hV]
      clear hV
      simp only [← HCB.out]
      have hbe2 : b = !d.contains 0 := by
        rw [HBE.out]
        have h1 : d.isEmpty = false := by cases d <;> simp_all
        have h2 : decide (d.length ≤ 4096) = true := by simp; omega
        rw [h1, h2]
        simp
      have HB2 := Lib.hid hbe2
      obtain ⟨cz, hcz⟩ : ∃ cz, d.contains 0 = cz := ⟨_, rfl⟩
      rw [hcz] at HB2
      have HI : Hid (d.isEmpty = false) := Lib.hid (by cases d <;> simp_all)
      simp only [hcz]
      clear hcz hbe2
      go_wp2_with fail
      refine bodyPost_ret (v := .bool (!cz)) (by simp [results, Try.results34, go_sem, HI.out]) rfl ⟨by rw [HB2.out], HBL.out⟩
    · rename_i h0 hl4
      have hb0 : b = false := by
        rw [HBE.out]
        have h2 : decide (d.length ≤ 4096) = false := by simp; omega
        rw [h2]
        simp
      subst hb0
      exact bodyPost_ret (v := .bool false) (by simp [results, Try.results34, go_sem]) rfl ⟨rfl, HBL.out⟩
  by_cases h4 : k = 4
  · subst h4
    have hbe : b = d.isEmpty := HB.out.symm
    have HBE := Lib.hid hbe
    clear hbe h1 h2 h3
    go_enter Try.func34, Try.ntmps34
    go_wp2_with fail
    exact bodyPost_ret (v := .bool d.isEmpty) (by simp [results, Try.results34, go_sem]) rfl ⟨by rw [HBE.out], HBL.out⟩
  · have hbe : b = false := by
      rw [← HB.out]
      simp [mayNodeN, h1, h2, h3, h4]
    subst hbe
    have e1 : (k == 1) = false := by simpa using h1
    have e2 : (k == 2) = false := by simpa using h2
    have e3 : (k == 3) = false := by simpa using h3
    have e4 : (k == 4) = false := by simpa using h4
    go_enter Try.func34, Try.ntmps34
    go_wp2_with fail
    exact bodyPost_ret (v := .bool false) (by simp [results, Try.results34, go_sem]) rfl ⟨rfl, HBL.out⟩
end Go.Proofs.Ytmlefodnbbkilaa
