/- Plain mathematics: numbers of 256 bits as words of 64: sums and differences word by word. No Go in it. -/
namespace Go.Proofs.Ytihbjlpohjohpaa

/-- 2^64. -/
def B : Nat := 18446744073709551616
theorem B_pos : 0 < B := by decide
theorem B_one : 1 < B := by decide

/-- A word of a number. -/
def nw (n i : Nat) : Nat := n / B ^ i % B
theorem nw_lt (n i : Nat) : nw n i < B := Nat.mod_lt _ B_pos
theorem nw_lt' (n i : Nat) : nw n i < 18446744073709551616 := nw_lt n i
theorem pow_B_pos (i : Nat) : 0 < B ^ i := Nat.pow_pos B_pos

def addS (x y c : Nat) : Nat := (x + y + c) % B
def addC (x y c : Nat) : Nat := (x + y + c) / B
def subS (x y b : Nat) : Nat := (x + B - y - b) % B
def subB (x y b : Nat) : Nat := if x < y + b then 1 else 0
theorem subB_le (x y b : Nat) : subB x y b ≤ 1 := by unfold subB; split <;> omega

theorem mod_succ (a i : Nat) : a % B ^ (i + 1) = a % B ^ i + B ^ i * nw a i := by
  unfold nw
  rw [Nat.pow_succ, Nat.mod_mul]

theorem nw_eq_of_mod {a b : Nat} (i : Nat) (h : a % B ^ (i + 1) = b % B ^ (i + 1)) : nw a i = nw b i := by
  unfold nw
  rw [← Nat.mod_mul_right_div_self, ← Nat.mod_mul_right_div_self, ← Nat.pow_succ, h]

/-! ### A number and a word -/
/-- What is carried into word i of a and n. -/
def cy (a n i : Nat) : Nat := (a % B ^ i + n) / B ^ i
theorem cy_zero (a n : Nat) : cy a n 0 = n := by simp [cy, Nat.mod_one]
theorem addC_cy (a n i : Nat) : addC (nw a i) (cy a n i) 0 = cy a n (i + 1) := by
  unfold addC cy
  rw [mod_succ, Nat.pow_succ, ← Nat.div_div_eq_div_mul, Nat.add_zero,
    show a % B ^ i + B ^ i * nw a i + n = a % B ^ i + n + B ^ i * nw a i by omega, Nat.add_mul_div_left _ _ (pow_B_pos i), Nat.add_comm]
theorem addS_cy (a n i : Nat) : addS (nw a i) (cy a n i) 0 = nw (a + n) i := by
  unfold addS cy nw
  have e : (a + n) / B ^ i = (a % B ^ i + n) / B ^ i + a / B ^ i := by
    have h := Nat.div_add_mod a (B ^ i)
    rw [show a + n = a % B ^ i + n + B ^ i * (a / B ^ i) by omega, Nat.add_mul_div_left _ _ (pow_B_pos i)]
  rw [e, Nat.add_zero, Nat.mod_add_mod, Nat.add_comm]
theorem addC_cy0 (a n : Nat) : addC (nw a 0) n 0 = cy a n 1 := by have := addC_cy a n 0; rwa [cy_zero] at this
theorem addS_cy0 (a n : Nat) : addS (nw a 0) n 0 = nw (a + n) 0 := by have := addS_cy a n 0; rwa [cy_zero] at this
theorem addC_cy1 (a n : Nat) : addC (nw a 1) (cy a n 1) 0 = cy a n 2 := addC_cy a n 1
theorem addC_cy2 (a n : Nat) : addC (nw a 2) (cy a n 2) 0 = cy a n 3 := addC_cy a n 2
theorem addC_cy3 (a n : Nat) : addC (nw a 3) (cy a n 3) 0 = cy a n 4 := addC_cy a n 3

/-! ### Two numbers -/
def cz (a b i : Nat) : Nat := (a % B ^ i + b % B ^ i) / B ^ i
theorem cz_zero (a b : Nat) : cz a b 0 = 0 := by simp [cz, Nat.mod_one]
theorem cz_le (a b i : Nat) : cz a b i ≤ 1 := by
  have h1 := Nat.mod_lt a (pow_B_pos i)
  have h2 := Nat.mod_lt b (pow_B_pos i)
  unfold cz
  have : a % B ^ i + b % B ^ i < 2 * B ^ i := by omega
  have := Nat.div_lt_of_lt_mul (m := a % B ^ i + b % B ^ i) (n := B ^ i) (k := 2) (by omega)
  omega
theorem addC_cz (a b i : Nat) : addC (nw a i) (nw b i) (cz a b i) = cz a b (i + 1) := by
  unfold addC cz
  rw [mod_succ, mod_succ, Nat.pow_succ, ← Nat.div_div_eq_div_mul,
    show a % B ^ i + B ^ i * nw a i + (b % B ^ i + B ^ i * nw b i) = a % B ^ i + b % B ^ i + B ^ i * (nw a i + nw b i) by rw [Nat.mul_add]; omega,
    Nat.add_mul_div_left _ _ (pow_B_pos i), Nat.add_comm]
theorem addS_cz (a b i : Nat) : addS (nw a i) (nw b i) (cz a b i) = nw (a + b) i := by
  unfold addS cz nw
  have e : (a + b) / B ^ i = (a % B ^ i + b % B ^ i) / B ^ i + (a / B ^ i + b / B ^ i) := by
    have h1 := Nat.div_add_mod a (B ^ i)
    have h2 := Nat.div_add_mod b (B ^ i)
    have h3 : B ^ i * (a / B ^ i + b / B ^ i) = B ^ i * (a / B ^ i) + B ^ i * (b / B ^ i) := Nat.mul_add _ _ _
    rw [show a + b = a % B ^ i + b % B ^ i + B ^ i * (a / B ^ i + b / B ^ i) by omega, Nat.add_mul_div_left _ _ (pow_B_pos i)]
  rw [e, Nat.add_comm _ (a / B ^ i + b / B ^ i), ← Nat.mod_add_mod (a / B ^ i + b / B ^ i), Nat.add_mod (a / B ^ i), Nat.mod_add_mod]
theorem addC_cz0 (a b : Nat) : addC (nw a 0) (nw b 0) 0 = cz a b 1 := by have := addC_cz a b 0; rwa [cz_zero] at this
theorem addS_cz0 (a b : Nat) : addS (nw a 0) (nw b 0) 0 = nw (a + b) 0 := by have := addS_cz a b 0; rwa [cz_zero] at this
theorem addC_cz1 (a b : Nat) : addC (nw a 1) (nw b 1) (cz a b 1) = cz a b 2 := addC_cz a b 1
theorem addC_cz2 (a b : Nat) : addC (nw a 2) (nw b 2) (cz a b 2) = cz a b 3 := addC_cz a b 2
theorem addC_cz3 (a b : Nat) : addC (nw a 3) (nw b 3) (cz a b 3) = cz a b 4 := addC_cz a b 3

/-! ### Differences -/
def bo (a b i : Nat) : Nat := if a % B ^ i < b % B ^ i then 1 else 0
theorem bo_zero (a b : Nat) : bo a b 0 = 0 := by simp [bo, Nat.mod_one]
theorem bo_le (a b i : Nat) : bo a b i ≤ 1 := by unfold bo; split <;> omega
theorem subB_bo (a b i : Nat) : subB (nw a i) (nw b i) (bo a b i) = bo a b (i + 1) := by
  unfold subB bo
  rw [mod_succ a, mod_succ b]
  have h1 := Nat.mod_lt a (pow_B_pos i)
  have h2 := Nat.mod_lt b (pow_B_pos i)
  generalize nw a i = x
  generalize nw b i = y
  generalize a % B ^ i = u at *
  generalize b % B ^ i = v at *
  generalize B ^ i = k at *
  rcases Nat.lt_trichotomy x y with h | h | h
  · have : k * x + k ≤ k * y := by rw [← Nat.mul_succ]; exact Nat.mul_le_mul_left k h
    rw [if_pos (show x < y + _ by omega), if_pos (by omega)]
  · subst h
    by_cases h : u < v
    · rw [if_pos h, if_pos (by omega), if_pos (by omega)]
    · rw [if_neg h, if_neg (by omega), if_neg (by omega)]
  · have : k * y + k ≤ k * x := by rw [← Nat.mul_succ]; exact Nat.mul_le_mul_left k h
    have : (if u < v then 1 else 0) ≤ 1 := by split <;> omega
    rw [if_neg (show ¬ u + k * x < v + k * y by omega), if_neg (by omega)]

/-- A difference modulo 2^256. -/
def dif (a b : Nat) : Nat := a + B ^ 4 * (b / B ^ 4 + 1) - b
theorem dif_add (a b : Nat) : dif a b + b = a + B ^ 4 * (b / B ^ 4 + 1) := by
  unfold dif
  have h := Nat.div_add_mod b (B ^ 4)
  have h2 := Nat.mod_lt b (pow_B_pos 4)
  rw [Nat.mul_add, Nat.mul_one]
  omega

theorem nw_add_big (a m i : Nat) (hi : i < 4) : nw (a + B ^ 4 * m) i = nw a i := by
  refine nw_eq_of_mod i ?_
  have e : B ^ 4 * m = B ^ (i + 1) * (B ^ (3 - i) * m) := by
    rw [← Nat.mul_assoc, ← Nat.pow_add, show i + 1 + (3 - i) = 4 by omega]
  rw [e, Nat.add_mul_mod_self_left]

theorem subS_bo (a b i : Nat) (hi : i < 4) : subS (nw a i) (nw b i) (bo a b i) = nw (dif a b) i := by
  -- the difference's words, b's words and what is carried make a's words
  have hc : cz (dif a b) b i = bo a b i := by
    have e : (dif a b + b) % B ^ i = a % B ^ i := by
      rw [dif_add]
      have e2 : B ^ 4 * (b / B ^ 4 + 1) = B ^ i * (B ^ (4 - i) * (b / B ^ 4 + 1)) := by
        rw [← Nat.mul_assoc, ← Nat.pow_add, show i + (4 - i) = 4 by omega]
      rw [e2, Nat.add_mul_mod_self_left]
    rw [Nat.add_mod] at e
    have h1 := Nat.mod_lt (dif a b) (pow_B_pos i)
    have h2 := Nat.mod_lt b (pow_B_pos i)
    unfold cz bo
    generalize dif a b % B ^ i = x at *
    generalize b % B ^ i = y at *
    generalize a % B ^ i = z at *
    generalize B ^ i = k at *
    rcases Nat.lt_or_ge (x + y) k with h | h
    · rw [Nat.mod_eq_of_lt h] at e
      rw [Nat.div_eq_of_lt h, if_neg (by omega)]
    · rw [Nat.mod_eq_sub_mod h, Nat.mod_eq_of_lt (by omega)] at e
      rw [if_pos (by omega), show x + y = k * 1 + (x + y - k) by omega, Nat.mul_add_div (by omega), Nat.div_eq_of_lt (by omega)]
  have hs := addS_cz (dif a b) b i
  rw [hc, dif_add, nw_add_big _ _ _ hi] at hs
  unfold addS at hs
  have hb := bo_le a b i
  have g1 := nw_lt (dif a b) i
  have g2 := nw_lt b i
  unfold subS
  generalize nw (dif a b) i = x at *
  generalize nw b i = y at *
  generalize nw a i = z at *
  generalize bo a b i = c at *
  unfold B at *
  omega
theorem subB_bo0 (a b : Nat) : subB (nw a 0) (nw b 0) 0 = bo a b 1 := by have := subB_bo a b 0; rwa [bo_zero] at this
theorem subS_bo0 (a b : Nat) : subS (nw a 0) (nw b 0) 0 = nw (dif a b) 0 := by have := subS_bo a b 0 (by omega); rwa [bo_zero] at this
theorem subB_bo1 (a b : Nat) : subB (nw a 1) (nw b 1) (bo a b 1) = bo a b 2 := subB_bo a b 1
theorem subB_bo2 (a b : Nat) : subB (nw a 2) (nw b 2) (bo a b 2) = bo a b 3 := subB_bo a b 2
theorem subB_bo3 (a b : Nat) : subB (nw a 3) (nw b 3) (bo a b 3) = bo a b 4 := subB_bo a b 3
theorem subS_bo1 (a b : Nat) : subS (nw a 1) (nw b 1) (bo a b 1) = nw (dif a b) 1 := subS_bo a b 1 (by omega)
theorem subS_bo2 (a b : Nat) : subS (nw a 2) (nw b 2) (bo a b 2) = nw (dif a b) 2 := subS_bo a b 2 (by omega)
theorem subS_bo3 (a b : Nat) : subS (nw a 3) (nw b 3) (bo a b 3) = nw (dif a b) 3 := subS_bo a b 3 (by omega)
theorem addS_cy1 (a n : Nat) : addS (nw a 1) (cy a n 1) 0 = nw (a + n) 1 := addS_cy a n 1
theorem addS_cy2 (a n : Nat) : addS (nw a 2) (cy a n 2) 0 = nw (a + n) 2 := addS_cy a n 2
theorem addS_cy3 (a n : Nat) : addS (nw a 3) (cy a n 3) 0 = nw (a + n) 3 := addS_cy a n 3
theorem addS_cz1 (a b : Nat) : addS (nw a 1) (nw b 1) (cz a b 1) = nw (a + b) 1 := addS_cz a b 1
theorem addS_cz2 (a b : Nat) : addS (nw a 2) (nw b 2) (cz a b 2) = nw (a + b) 2 := addS_cz a b 2
theorem addS_cz3 (a b : Nat) : addS (nw a 3) (nw b 3) (cz a b 3) = nw (a + b) 3 := addS_cz a b 3

/-! ### Words and numbers -/
/-- The number of four words. -/
def ofw (a0 a1 a2 a3 : Nat) : Nat := a0 + B * (a1 + B * (a2 + B * a3))
theorem nw_zero (n : Nat) : nw n 0 = n % B := by unfold nw; rw [Nat.pow_zero, Nat.div_one]
theorem nw_succ (n i : Nat) : nw n (i + 1) = nw (n / B) i := by unfold nw; rw [Nat.pow_succ, Nat.mul_comm, Nat.div_div_eq_div_mul]
theorem ofw_lt {a0 a1 a2 a3 : Nat} (h0 : a0 < B) (h1 : a1 < B) (h2 : a2 < B) (h3 : a3 < B) : ofw a0 a1 a2 a3 < B ^ 4 := by
  unfold ofw
  simp only [Nat.pow_succ, Nat.pow_zero, Nat.one_mul]
  unfold B at *
  omega
theorem ofw_words {a0 a1 a2 a3 : Nat} (h0 : a0 < B) (h1 : a1 < B) (h2 : a2 < B) (h3 : a3 < B) :
    nw (ofw a0 a1 a2 a3) 0 = a0 ∧ nw (ofw a0 a1 a2 a3) 1 = a1 ∧ nw (ofw a0 a1 a2 a3) 2 = a2 ∧ nw (ofw a0 a1 a2 a3) 3 = a3 := by
  have e0 : ofw a0 a1 a2 a3 % B = a0 := by unfold ofw; rw [Nat.add_mul_mod_self_left, Nat.mod_eq_of_lt h0]
  have e1 : ofw a0 a1 a2 a3 / B = a1 + B * (a2 + B * a3) := by unfold ofw; rw [Nat.add_mul_div_left _ _ B_pos, Nat.div_eq_of_lt h0, Nat.zero_add]
  have e2 : (a1 + B * (a2 + B * a3)) / B = a2 + B * a3 := by rw [Nat.add_mul_div_left _ _ B_pos, Nat.div_eq_of_lt h1, Nat.zero_add]
  have e3 : (a2 + B * a3) / B = a3 := by rw [Nat.add_mul_div_left _ _ B_pos, Nat.div_eq_of_lt h2, Nat.zero_add]
  refine ⟨by rw [nw_zero, e0], ?_, ?_, ?_⟩
  · rw [nw_succ, nw_zero, e1, Nat.add_mul_mod_self_left, Nat.mod_eq_of_lt h1]
  · rw [nw_succ, nw_succ, nw_zero, e1, e2, Nat.add_mul_mod_self_left, Nat.mod_eq_of_lt h2]
  · rw [nw_succ, nw_succ, nw_succ, nw_zero, e1, e2, e3, Nat.mod_eq_of_lt h3]
/-- A number below 2^256 is its words'. -/
theorem ofw_nw {n : Nat} (h : n < B ^ 4) : ofw (nw n 0) (nw n 1) (nw n 2) (nw n 3) = n := by
  unfold ofw
  rw [nw_succ, nw_succ, nw_succ, nw_succ, nw_succ, nw_succ]
  simp only [nw_zero]
  have h3 : n / B / B / B < B := by
    have e : B ^ 4 = B * (B * (B * B)) := by simp only [Nat.pow_succ, Nat.pow_zero, Nat.one_mul]; grind
    rw [e] at h
    exact Nat.div_lt_of_lt_mul (Nat.div_lt_of_lt_mul (Nat.div_lt_of_lt_mul h))
  rw [Nat.mod_eq_of_lt h3]
  have := Nat.mod_add_div (n / B / B) B
  have := Nat.mod_add_div (n / B) B
  have := Nat.mod_add_div n B
  simp_all
theorem nw_inj {a b : Nat} (ha : a < B ^ 4) (hb : b < B ^ 4) (h0 : nw a 0 = nw b 0) (h1 : nw a 1 = nw b 1) (h2 : nw a 2 = nw b 2) (h3 : nw a 3 = nw b 3) : a = b := by
  rw [← ofw_nw ha, ← ofw_nw hb, h0, h1, h2, h3]
theorem nw_mod (n i : Nat) (hi : i < 4) : nw (n % B ^ 4) i = nw n i := by
  have h := Nat.mod_add_div n (B ^ 4)
  conv => rhs; rw [← h]
  rw [nw_add_big _ _ _ hi]

end Go.Proofs.Ytihbjlpohjohpaa
