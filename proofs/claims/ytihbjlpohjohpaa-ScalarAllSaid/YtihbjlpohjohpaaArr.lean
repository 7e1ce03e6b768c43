/- Plain mathematics: rows of words as numbers; a product word by word. No program in it. -/
import Derived.Test.YtihbjlpohjohpaaWords
import Derived.Test.YtihbjlpohjohpaaFieldMath
namespace Go.Proofs.Ytihbjlpohjohpaa

/-- The number of a row of words. -/
def vl : List Nat → Nat
  | [] => 0
  | x :: r => x + B * vl r

theorem vl_set : ∀ (l : List Nat) (j v : Nat), j < l.length → vl (l.set j v) + l.getD j 0 * B ^ j = vl l + v * B ^ j
  | x :: r, 0, v, _ => by simp [vl]; omega
  | x :: r, j + 1, v, h => by
    have ih := vl_set r j v (by simpa using h)
    simp only [List.set_cons_succ, vl, List.getD_cons_succ, Nat.pow_succ]
    have e1 : r.getD j 0 * (B ^ j * B) = B * (r.getD j 0 * B ^ j) := by grind
    have e2 : v * (B ^ j * B) = B * (v * B ^ j) := by grind
    rw [e1, e2]
    have : B * vl (r.set j v) + B * (r.getD j 0 * B ^ j) = B * vl r + B * (v * B ^ j) := by rw [← Nat.mul_add, ih, Nat.mul_add]
    omega

def mulL (x y : Nat) : Nat := x * y % B
def mulH (x y : Nat) : Nat := x * y / B
def macL (x y c z : Nat) : Nat := (x * y + c + z) % B
def macH (x y c z : Nat) : Nat := (x * y + c + z) / B % B
theorem macL_lt (x y c z : Nat) : macL x y c z < B := Nat.mod_lt _ B_pos
theorem macH_lt (x y c z : Nat) : macH x y c z < B := Nat.mod_lt _ B_pos
theorem mac_eq {x y c z : Nat} (hx : x < B) (hy : y < B) (hc : c < B) (hz : z < B) : macL x y c z + B * macH x y c z = x * y + c + z := by
  have h1 : x * y ≤ (B - 1) * (B - 1) := Nat.mul_le_mul (by omega) (by omega)
  have h2 : (x * y + c + z) / B < B := by
    apply Nat.div_lt_of_lt_mul
    have e : (B - 1) * (B - 1) + 2 * (B - 1) + 1 = B * B := by decide +kernel
    omega
  unfold macL macH
  rw [Nat.mod_eq_of_lt h2, Nat.mod_add_div]
/-- As the program writes it. -/
theorem mac_low (x y c z : Nat) : addS (addS (mulL x y) c 0) z 0 = macL x y c z := by
  unfold addS mulL macL
  simp only [Nat.add_zero, Nat.mod_add_mod]
theorem mac_high (x y c z : Nat) : addS (addS (mulH x y) (addC (mulL x y) c 0) 0) (addC (addS (mulL x y) c 0) z 0) 0 = macH x y c z := by
  have e : (x * y + c + z) / B = mulH x y + addC (mulL x y) c 0 + addC (addS (mulL x y) c 0) z 0 := by
    unfold mulH addC addS mulL
    simp only [Nat.add_zero, Nat.mod_add_mod]
    have h1 := Nat.mod_add_div (x * y) B
    have h2 := Nat.mod_add_div (x * y % B + c) B
    have h3 := Nat.mod_add_div (x * y + c) B
    have e1 : x * y + c = x * y % B + c + B * (x * y / B) := by omega
    have e2 : (x * y + c) / B = (x * y % B + c) / B + x * y / B := by rw [e1, Nat.add_mul_div_left _ _ B_pos]
    have e3 : x * y + c + z = (x * y + c) % B + z + B * ((x * y + c) / B) := by omega
    rw [e3, Nat.add_mul_div_left _ _ B_pos, e2]
    omega
  unfold macH
  rw [e]
  unfold addS
  simp only [Nat.add_zero, Nat.mod_add_mod]

theorem pow_split (a i : Nat) : a % B ^ (i + 1) = a % B ^ i + B ^ i * nw a i := mod_succ a i

/-- One word of a product on. -/
theorem mul_step {a b i k c : Nat} {l l' : List Nat} (hlen : l'.length = 8) (hik : i + k < 8) (hc : c < B) (hz : l'.getD (i + k) 0 < B)
    (h : vl l' + c * B ^ (i + k) = vl l + nw a i * (b % B ^ k) * B ^ i) :
    vl (l'.set (i + k) (macL (nw a i) (nw b k) c (l'.getD (i + k) 0))) + macH (nw a i) (nw b k) c (l'.getD (i + k) 0) * B ^ (i + (k + 1)) = vl l + nw a i * (b % B ^ (k + 1)) * B ^ i := by
  have h1 := vl_set l' (i + k) (macL (nw a i) (nw b k) c (l'.getD (i + k) 0)) (by omega)
  have h2 := mac_eq (nw_lt a i) (nw_lt b k) hc hz
  generalize l'.getD (i + k) 0 = z at *
  generalize macL (nw a i) (nw b k) c z = L at *
  generalize macH (nw a i) (nw b k) c z = H at *
  rw [pow_split b k]
  have e1 : (L + B * H) * B ^ (i + k) = (nw a i * nw b k + c + z) * B ^ (i + k) := by rw [h2]
  have e2 : H * B ^ (i + (k + 1)) = B * H * B ^ (i + k) := by rw [← Nat.add_assoc, Nat.pow_succ]; grind
  have e3 : nw a i * (b % B ^ k + B ^ k * nw b k) * B ^ i = nw a i * (b % B ^ k) * B ^ i + nw a i * nw b k * B ^ (i + k) := by rw [Nat.pow_add]; grind
  have e4 : (L + B * H) * B ^ (i + k) = L * B ^ (i + k) + B * H * B ^ (i + k) := Nat.add_mul _ _ _
  have e5 : (nw a i * nw b k + c + z) * B ^ (i + k) = nw a i * nw b k * B ^ (i + k) + c * B ^ (i + k) + z * B ^ (i + k) := by rw [Nat.add_mul, Nat.add_mul]
  rw [e2, e3]
  omega

/-- One word of the other number on. -/
theorem mul_row {a b i c : Nat} {l l' : List Nat} (hb : b < B ^ 4) (hlen : l'.length = 8) (hi : i < 4) (h0 : l'.getD (i + 4) 0 = 0)
    (hl : vl l = a % B ^ i * b) (h : vl l' + c * B ^ (i + 4) = vl l + nw a i * (b % B ^ 4) * B ^ i) : vl (l'.set (i + 4) c) = a % B ^ (i + 1) * b := by
  have h1 := vl_set l' (i + 4) c (by omega)
  rw [h0] at h1
  rw [Nat.mod_eq_of_lt hb, hl] at h
  rw [pow_split a i, Nat.add_mul]
  have : B ^ i * nw a i * b = nw a i * b * B ^ i := by grind
  omega

theorem vl_eight (l0 l1 l2 l3 l4 l5 l6 l7 : Nat) : vl [l0, l1, l2, l3, l4, l5, l6, l7] = ofw l0 l1 l2 l3 + B ^ 4 * ofw l4 l5 l6 l7 := by
  simp only [vl, ofw, Nat.pow_succ, Nat.pow_zero, Nat.one_mul]
  grind

/-- The upper half counts so many times. -/
theorem fold_eq {l0 l1 l2 l3 l4 l5 l6 l7 f : Nat} (h0 : l0 < B) (h1 : l1 < B) (h2 : l2 < B) (h3 : l3 < B) (h4 : l4 < B) (h5 : l5 < B) (h6 : l6 < B) (h7 : l7 < B) (hf : f < B)
    {w0 w1 w2 w3 c0 c1 c2 c3 : Nat} (e0 : w0 = macL l4 f 0 l0) (g0 : c0 = macH l4 f 0 l0) (e1 : w1 = macL l5 f c0 l1) (g1 : c1 = macH l5 f c0 l1)
    (e2 : w2 = macL l6 f c1 l2) (g2 : c2 = macH l6 f c1 l2) (e3 : w3 = macL l7 f c2 l3) (g3 : c3 = macH l7 f c2 l3) :
    ofw w0 w1 w2 w3 + B ^ 4 * c3 = ofw l0 l1 l2 l3 + f * ofw l4 l5 l6 l7 ∧ ofw w0 w1 w2 w3 < B ^ 4 := by
  have q0 := mac_eq h4 hf B_pos h0
  have q1 := mac_eq h5 hf (show c0 < B from g0 ▸ macH_lt _ _ _ _) h1
  have q2 := mac_eq h6 hf (show c1 < B from g1 ▸ macH_lt _ _ _ _) h2
  have q3 := mac_eq h7 hf (show c2 < B from g2 ▸ macH_lt _ _ _ _) h3
  rw [← e0, ← g0] at q0
  rw [← e1, ← g1] at q1
  rw [← e2, ← g2] at q2
  rw [← e3, ← g3] at q3
  refine ⟨?_, ofw_lt (e0 ▸ macL_lt _ _ _ _) (e1 ▸ macL_lt _ _ _ _) (e2 ▸ macL_lt _ _ _ _) (e3 ▸ macL_lt _ _ _ _)⟩
  clear e0 e1 e2 e3 g0 g1 g2 g3
  simp only [ofw, Nat.pow_succ, Nat.pow_zero, Nat.one_mul]
  grind

theorem B4_mod : B ^ 4 % Ar.pp = 38 := by decide +kernel
/-- What stands above 2^256 counts 38 times. -/
theorem fold_mod {n l h : Nat} (e : n = l + B ^ 4 * h) : (l + 38 * h) % Ar.pp = n % Ar.pp := by
  rw [e, Nat.add_mod, Nat.add_mod l (B ^ 4 * h), Nat.mul_mod (B ^ 4), B4_mod, Nat.mul_mod 38]
  simp

theorem set_lt {l : List Nat} {j v : Nat} (h : ∀ i, l.getD i 0 < B) (hv : v < B) : ∀ i, (l.set j v).getD i 0 < B := fun i => by
  have hi := h i
  simp only [List.getD_eq_getElem?_getD, List.getElem?_set] at *
  by_cases e : j = i
  · subst e
    by_cases e2 : j < l.length
    · simp [e2, hv]
    · simp [e2, B_pos]
  · simp [e, hi]
theorem set_far {l : List Nat} {j v : Nat} : ∀ i, j + 1 ≤ i → (l.set j v).getD i 0 = l.getD i 0 := fun i h => by
  simp only [List.getD_eq_getElem?_getD, List.getElem?_set]
  rw [if_neg (by omega)]

/-! ### What is carried beyond 2^256, folded -/
theorem carry_small {n c l h : Nat} (hl : l < B ^ 4) (hh : h < B ^ 4) (e : n + B ^ 4 * c = l + 38 * h) : c ≤ 38 := by
  rcases Nat.lt_or_ge 38 c with h1 | h1
  · have := Nat.mul_le_mul_left (B ^ 4) h1
    omega
  · exact h1
theorem carry_mod {n c v : Nat} (e : (n + B ^ 4 * c) % Ar.pp = v % Ar.pp) : (n + c * 38) % Ar.pp = v % Ar.pp := by
  rw [← e, Nat.add_mod n (B ^ 4 * c), Nat.mul_mod (B ^ 4), B4_mod, Nat.add_mod n (c * 38), Nat.mul_mod c]
  congr 2
  rw [Nat.mul_comm]
  simp [Nat.mul_mod]
theorem cy_four {n m : Nat} (hn : n < B ^ 4) : cy n m 4 = (n + m) / B ^ 4 := by unfold cy; rw [Nat.mod_eq_of_lt hn]
theorem cy_none {n m : Nat} (hn : n < B ^ 4) (h : ¬ 0 < cy n m 4) : n + m < B ^ 4 := by
  rw [cy_four hn] at h
  rcases Nat.lt_or_ge (n + m) (B ^ 4) with h1 | h1
  · exact h1
  · exact absurd (Nat.div_pos h1 (pow_B_pos 4)) h
theorem cy_some {n c : Nat} (hn : n < B ^ 4) (hc : c ≤ 38) (h : 0 < cy n (c * 38) 4) : cy n (c * 38) 4 = 1 ∧ B ^ 4 ≤ n + c * 38 ∧ cy (n + c * 38) 38 4 = 0 ∧ n + c * 38 + 38 - B ^ 4 < B ^ 4 := by
  have hb : 5000 < B ^ 4 := by decide +kernel
  rw [cy_four hn] at *
  have h1 : B ^ 4 ≤ n + c * 38 := by
    rcases Nat.lt_or_ge (n + c * 38) (B ^ 4) with h1 | h1
    · rw [Nat.div_eq_of_lt h1] at h; omega
    · exact h1
  refine ⟨?_, h1, ?_, by omega⟩
  · have : n + c * 38 < B ^ 4 * 2 := by omega
    have := Nat.div_lt_of_lt_mul this
    omega
  · unfold cy
    rw [Nat.mod_eq_sub_mod h1, Nat.mod_eq_of_lt (by omega), Nat.div_eq_of_lt (by omega)]
theorem fold_again {x v : Nat} (h1 : B ^ 4 ≤ x + 38) (e : x % Ar.pp = v % Ar.pp) : (x + 38 - B ^ 4) % Ar.pp = v % Ar.pp := by
  have h2 : (x + 38 - B ^ 4) + B ^ 4 = x + 38 := by omega
  have h3 : (x + 38 - B ^ 4 + B ^ 4) % Ar.pp = (x + 38) % Ar.pp := by rw [h2]
  have h4 : B ^ 4 = 38 + Ar.pp * 2 := by decide +kernel
  have h5 : x + 38 - B ^ 4 + Ar.pp * 2 = x := by omega
  rw [← e, ← h5, Nat.add_mul_mod_self_left, h5]

end Go.Proofs.Ytihbjlpohjohpaa
