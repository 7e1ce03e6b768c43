/- Plain mathematics: inverses and roots modulo 2^255 - 19. No Go in it. -/
import Derived.Test.YtihbjlpohjohpaaFermat
namespace Go.Proofs.Ytihbjlpohjohpaa.Ar

theorem pp_two : 2 ≤ pp := by decide +kernel
theorem pp_pos : 0 < pp := by decide +kernel

/-- The difference. -/
def subN (a b : Nat) : Nat := (a % pp + (pp - b % pp)) % pp
def mulN (a b : Nat) : Nat := a * b % pp
def addN (a b : Nat) : Nat := (a + b) % pp
def powN (a n : Nat) : Nat := a ^ n % pp
def invN (a : Nat) : Nat := powN a (pp - 2)
def isqN : Nat := powN 2 ((pp - 1) / 4)
def tryN (a : Nat) : Nat :=
  if mulN (powN a ((pp + 3) / 8)) (powN a ((pp + 3) / 8)) = a then powN a ((pp + 3) / 8) else mulN (powN a ((pp + 3) / 8)) isqN
def rootN (a : Nat) : Nat × Bool :=
  if mulN (tryN (a % pp)) (tryN (a % pp)) = a % pp then (if tryN (a % pp) % 2 = 1 then subN 0 (tryN (a % pp)) else tryN (a % pp), true) else (0, false)

theorem mulN_lt (a b : Nat) : mulN a b < pp := Nat.mod_lt _ pp_pos
theorem powN_lt (a b : Nat) : powN a b < pp := Nat.mod_lt _ pp_pos
theorem subN_lt (a b : Nat) : subN a b < pp := Nat.mod_lt _ pp_pos
theorem addN_lt (a b : Nat) : addN a b < pp := Nat.mod_lt _ pp_pos
theorem tryN_lt (a : Nat) : tryN a < pp := by
  unfold tryN
  split
  · exact powN_lt _ _
  · exact mulN_lt _ _
theorem rootN_lt (a : Nat) : (rootN a).1 < pp := by
  unfold rootN
  split
  · split
    · exact subN_lt _ _
    · exact tryN_lt _
  · exact pp_pos

theorem mulN_comm (a b : Nat) : mulN a b = mulN b a := by unfold mulN; rw [Nat.mul_comm]
theorem mulN_mod_left (a b : Nat) : mulN (a % pp) b = mulN a b := by unfold mulN; rw [Nat.mod_mul_mod]
theorem mulN_mod_right (a b : Nat) : mulN a (b % pp) = mulN a b := by rw [mulN_comm, mulN_mod_left, mulN_comm]
theorem mulN_assoc (a b c : Nat) : mulN (mulN a b) c = mulN a (mulN b c) := by
  show a * b % pp * c % pp = a * (b * c % pp) % pp
  rw [Nat.mod_mul_mod, Nat.mul_mod_mod, Nat.mul_assoc]
theorem addN_mod_left (a b : Nat) : addN (a % pp) b = addN a b := by unfold addN; rw [Nat.mod_add_mod]
theorem addN_mod_right (a b : Nat) : addN a (b % pp) = addN a b := by unfold addN; rw [Nat.add_mod_mod]
theorem powN_mod (a n : Nat) : powN (a % pp) n = powN a n := by unfold powN; rw [← Nat.pow_mod]
theorem powN_mul (a b n : Nat) : powN (a * b) n = mulN (powN a n) (powN b n) := by unfold powN mulN; rw [Nat.mul_pow, Nat.mul_mod]
theorem powN_add (a m n : Nat) : powN a (m + n) = mulN (powN a m) (powN a n) := by unfold powN mulN; rw [Nat.pow_add, Nat.mul_mod]
theorem powN_zero_base (a n : Nat) (h : a % pp = 0) (hn : 0 < n) : powN a n = 0 := by
  rw [← powN_mod, h]; unfold powN; rw [Nat.zero_pow hn, Nat.zero_mod]

theorem ndvd {a : Nat} (h : a % pp ≠ 0) : ¬ pp ∣ a := fun hd => h (Nat.mod_eq_zero_of_dvd hd)

theorem powN_full {a : Nat} (h : a % pp ≠ 0) : powN a (pp - 1) = 1 := pr_pp.little (ndvd h)

theorem e_inv : 1 + (pp - 2) = pp - 1 := by decide +kernel
theorem e_half : (pp - 1) / 2 + (pp - 1) / 2 = pp - 1 := by decide +kernel
theorem e_quarter : (pp - 1) / 4 + (pp - 1) / 4 = (pp - 1) / 2 := by decide +kernel
theorem e_eight : (pp + 3) / 8 + (pp + 3) / 8 = 1 + (pp - 1) / 4 := by decide +kernel
theorem pos_inv : 0 < pp - 2 := by decide +kernel
theorem pos_eight : 0 < (pp + 3) / 8 := by decide +kernel
theorem powN_eq (b e : Nat) (h : e < 2 ^ 256) : powN b e = pmod pp 256 b e := by rw [pmod_eq pp 256 b e h]; rfl
theorem two_half : powN 2 ((pp - 1) / 2) = pp - 1 := by rw [powN_eq 2 ((pp - 1) / 2) (by decide +kernel)]; decide +kernel
theorem minus_half : powN (pp - 1) ((pp - 1) / 2) = 1 := by rw [powN_eq (pp - 1) ((pp - 1) / 2) (by decide +kernel)]; decide +kernel
theorem pp_odd : pp % 2 = 1 := by decide +kernel
theorem powN_one (a : Nat) : powN a 1 = a % pp := by unfold powN; rw [Nat.pow_one]
theorem powN_of_one (n : Nat) : powN 1 n = 1 := by unfold powN; rw [Nat.one_pow]; decide +kernel

theorem mul_inv {a : Nat} (h : a % pp ≠ 0) : mulN a (invN a) = 1 := by
  have e := powN_add a 1 (pp - 2)
  rw [e_inv, powN_full h, powN_one, mulN_mod_left] at e
  exact e.symm

theorem inv_zero {a : Nat} (h : a % pp = 0) : invN a = 0 := powN_zero_base a _ h pos_inv

/-- What squares to one. -/
theorem pm_of_sq {x y : Nat} (hx : x < pp) (hy : y < pp) (h : mulN x x = mulN y y) : x = y ∨ x + y = pp ∨ x = 0 ∧ y = 0 := by
  have key : ∀ u v : Nat, u < pp → v ≤ u → mulN u u = mulN v v → u = v ∨ u + v = pp ∨ u = 0 ∧ v = 0 := by
    intro u v hu hvu h
    have hd : pp ∣ u * u - v * v := dvd_of_mod_eq h
    rw [Nat.mul_self_sub_mul_self_eq] at hd
    rcases pr_pp.mul hd with h1 | h1
    · rcases Nat.eq_zero_or_pos (u + v) with h0 | h0
      · exact .inr (.inr (by omega))
      · obtain ⟨c, hc⟩ := h1
        have hc0 : c ≠ 0 := by rintro rfl; omega
        have hc2 : c < 2 := by
          rcases Nat.lt_or_ge c 2 with h' | h'
          · exact h'
          · have := Nat.mul_le_mul_left pp h'; omega
        have : c = 1 := by omega
        subst this
        exact .inr (.inl (by omega))
    · left
      rcases Nat.eq_zero_or_pos (u - v) with h0 | h0
      · omega
      · have := Nat.le_of_dvd h0 h1; omega
  rcases Nat.le_total y x with h' | h'
  · exact key x y hx h' h
  · rcases key y x hy h' h.symm with h1 | h1 | h1
    · exact .inl h1.symm
    · exact .inr (.inl (by omega))
    · exact .inr (.inr ⟨h1.2, h1.1⟩)

theorem one_lt_pp : 1 < pp := by decide +kernel
theorem mulN_one_one : mulN 1 1 = 1 := by decide +kernel
theorem sq_minus : mulN (pp - 1) (pp - 1) = 1 := by decide +kernel

theorem half_pm {a : Nat} (h : a % pp ≠ 0) : powN a ((pp - 1) / 2) = 1 ∨ powN a ((pp - 1) / 2) = pp - 1 := by
  have e := powN_add a ((pp - 1) / 2) ((pp - 1) / 2)
  rw [e_half, powN_full h] at e
  have h1 := one_lt_pp
  rcases pm_of_sq (powN_lt _ _) one_lt_pp (e.symm.trans mulN_one_one.symm) with h2 | h2 | h2
  · exact .inl h2
  · exact .inr (by omega)
  · omega

theorem minus_ne_one : pp - 1 ≠ 1 := by decide +kernel

theorem mulN_pos {a : Nat} (ha : a < pp) : mulN a 1 = a := by unfold mulN; rw [Nat.mul_one, Nat.mod_eq_of_lt ha]

theorem neg_sq {y : Nat} (hy : y < pp) : mulN (pp - y) (pp - y) = mulN y y := by
  unfold mulN
  have e : (pp - y) * (pp - y) + 2 * (y * pp) = y * y + pp * pp := by
    obtain ⟨z, hz⟩ : ∃ z, pp = y + z := ⟨pp - y, by omega⟩
    have e1 : pp - y = z := by omega
    rw [e1, hz]
    grind
  have e2 : ((pp - y) * (pp - y) + 2 * (y * pp)) % pp = (pp - y) * (pp - y) % pp := by
    rw [show 2 * (y * pp) = pp * (2 * y) by grind, Nat.add_mul_mod_self_left]
  have e3 : (y * y + pp * pp) % pp = y * y % pp := by rw [Nat.add_mul_mod_self_left]
  rw [← e2, e, e3]

theorem subN_zero {y : Nat} (hy : y < pp) (h0 : 0 < y) : subN 0 y = pp - y := by
  unfold subN
  rw [Nat.zero_mod, Nat.mod_eq_of_lt hy, Nat.zero_add, Nat.mod_eq_of_lt (by omega)]

theorem subN_zero_zero : subN 0 0 = 0 := by decide +kernel

/-- The root's square, and that it is even. -/
theorem root_ok {a : Nat} (h : (rootN a).2 = true) : mulN (rootN a).1 (rootN a).1 = a % pp ∧ (rootN a).1 % 2 = 0 := by
  unfold rootN at *
  split at h
  · rename_i hs
    rw [if_pos hs]
    simp only
    by_cases ho : tryN (a % pp) % 2 = 1
    · rw [if_pos ho, subN_zero (tryN_lt _) (by omega), neg_sq (tryN_lt _)]
      exact ⟨hs, by have := pp_odd; have := tryN_lt (a % pp); omega⟩
    · rw [if_neg ho]
      exact ⟨hs, by omega⟩
  · simp at h

theorem try_sq {a : Nat} (ha : a < pp) (h : powN a ((pp - 1) / 2) = 1) : mulN (tryN a) (tryN a) = a := by
  have e := powN_add a ((pp + 3) / 8) ((pp + 3) / 8)
  rw [e_eight, powN_add, powN_one, mulN_mod_left] at e
  have e4 := powN_add a ((pp - 1) / 4) ((pp - 1) / 4)
  rw [e_quarter, h] at e4
  have h1 := one_lt_pp
  unfold tryN
  split
  · rename_i hs; exact hs
  · rename_i hs
    rcases pm_of_sq (powN_lt a ((pp - 1) / 4)) one_lt_pp (e4.symm.trans mulN_one_one.symm) with h2 | h2 | h2
    · exact absurd (by rw [← e, h2, mulN_pos ha]) hs
    · have h3 : powN a ((pp - 1) / 4) = pp - 1 := by omega
      have es : mulN isqN isqN = pp - 1 := by
        have := powN_add 2 ((pp - 1) / 4) ((pp - 1) / 4)
        rw [e_quarter, two_half] at this
        exact this.symm
      rw [h3] at e
      rw [mulN_assoc, mulN_comm isqN, mulN_assoc, es, ← mulN_assoc, ← e, mulN_assoc, sq_minus, mulN_pos ha]
    · omega

/-- What has a root. -/
theorem root_iff (a : Nat) : (rootN a).2 = true ↔ a % pp = 0 ∨ powN a ((pp - 1) / 2) = 1 := by
  constructor
  · intro h
    by_cases h0 : a % pp = 0
    · exact .inl h0
    · right
      have hs := (root_ok h).1
      have hx : (rootN a).1 % pp ≠ 0 := by
        intro hx
        rw [← mulN_mod_left, hx] at hs
        unfold mulN at hs
        rw [Nat.zero_mul, Nat.zero_mod] at hs
        exact h0 hs.symm
      rw [← powN_mod, ← hs]
      have := powN_full hx
      rw [← e_half, powN_add, ← powN_mul, ← powN_mod] at this
      exact this
  · rintro (h0 | h1)
    · unfold rootN
      rw [h0]
      have e : tryN 0 = 0 := by
        unfold tryN
        rw [powN_zero_base 0 _ (Nat.zero_mod _) pos_eight]
        simp [mulN]
      rw [e]
      simp [mulN]
    · by_cases h0 : a % pp = 0
      · rw [powN_zero_base a _ h0 (by decide +kernel)] at h1
        omega
      · unfold rootN
        rw [if_pos (try_sq (Nat.mod_lt _ pp_pos) (by rw [powN_mod]; exact h1))]

theorem root_zero {a : Nat} (h0 : a % pp = 0) : rootN a = (0, true) := by
  unfold rootN
  rw [h0]
  have e : tryN 0 = 0 := by
    unfold tryN
    rw [powN_zero_base 0 _ (Nat.zero_mod _) pos_eight]
    simp [mulN]
  rw [e]
  simp [mulN]

theorem root_square (a : Nat) : (rootN (mulN a a)).2 = true := by
  rw [root_iff]
  by_cases h0 : a % pp = 0
  · left
    rw [← mulN_mod_left, h0]; simp [mulN]
  · right
    unfold mulN
    rw [powN_mod, powN_mul, ← powN_add, e_half, powN_full h0]

theorem root_of_square (a : Nat) : (rootN (mulN a a)).1 = a % pp ∨ (rootN (mulN a a)).1 = subN 0 (a % pp) := by
  have h := (root_ok (root_square a)).1
  rw [Nat.mod_eq_of_lt (mulN_lt _ _), ← mulN_mod_left, ← mulN_mod_right] at h
  have h' : mulN (rootN (mulN a a)).1 (rootN (mulN a a)).1 = mulN (a % pp) (a % pp) := by
    have e : mulN (a % pp) (a % pp) = mulN a a := by rw [mulN_mod_left, mulN_mod_right]
    have e2 := (root_ok (root_square a)).1
    rw [e2, Nat.mod_eq_of_lt (mulN_lt _ _), e]
  have hm : a % pp < pp := Nat.mod_lt _ pp_pos
  rcases pm_of_sq (rootN_lt _) hm h' with h1 | h1 | h1
  · exact .inl h1
  · right
    by_cases h0 : a % pp = 0
    · have := rootN_lt (mulN a a); omega
    · rw [subN_zero hm (by omega)]; omega
  · exact .inl (by omega)

theorem root_twice {a : Nat} (h0 : a % pp ≠ 0) : (rootN a).2 ≠ (rootN (mulN a 2)).2 := by
  have h2 : mulN a 2 % pp ≠ 0 := by
    unfold mulN
    rw [Nat.mod_mod]
    intro h
    rcases pr_pp.mul (Nat.dvd_of_mod_eq_zero h) with h' | h'
    · exact h0 (Nat.mod_eq_zero_of_dvd h')
    · exact absurd (Nat.mod_eq_zero_of_dvd h') (by decide +kernel)
  have e : powN (mulN a 2) ((pp - 1) / 2) = mulN (powN a ((pp - 1) / 2)) (pp - 1) := by
    unfold mulN
    rw [powN_mod, powN_mul, two_half]; rfl
  have i1 := root_iff a
  have i2 := root_iff (mulN a 2)
  rw [e] at i2
  rcases half_pm h0 with h | h
  · rw [h] at i1 i2
    have t1 : (rootN a).2 = true := i1.2 (.inr rfl)
    have t2 : (rootN (mulN a 2)).2 = false := by
      cases hc : (rootN (mulN a 2)).2
      · rfl
      · rcases i2.1 hc with h' | h'
        · exact absurd h' h2
        · exact absurd h' (by decide +kernel)
    rw [t1, t2]; simp
  · rw [h] at i1 i2
    have t2 : (rootN (mulN a 2)).2 = true := i2.2 (.inr sq_minus)
    have t1 : (rootN a).2 = false := by
      cases hc : (rootN a).2
      · rfl
      · rcases i1.1 hc with h' | h'
        · exact absurd h' h0
        · exact absurd h' minus_ne_one
    rw [t1, t2]; simp

theorem root_one : rootN 1 = (pp - 1, true) := by
  have e : tryN 1 = 1 := by
    unfold tryN
    rw [powN_of_one]
    simp [mulN_one_one]
  unfold rootN
  rw [Nat.mod_eq_of_lt one_lt_pp, e, if_pos mulN_one_one, if_pos (by decide), subN_zero one_lt_pp (by decide)]

theorem root_minus : (rootN (pp - 1)).2 = true := (root_iff _).2 (.inr minus_half)

theorem root_two : (rootN 2).2 = false := by
  cases hc : (rootN 2).2
  · rfl
  · rcases (root_iff 2).1 hc with h | h
    · exact absurd h (by decide +kernel)
    · rw [two_half] at h
      exact absurd h minus_ne_one

end Go.Proofs.Ytihbjlpohjohpaa.Ar
