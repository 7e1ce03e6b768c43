/- Plain mathematics: Fermat's little theorem, Pocklington's test, and that 2^255 - 19 is a prime. No Go in it. -/
namespace Go.Proofs.Ytihbjlpohjohpaa.Ar

/-- A prime. -/
def Pr (q : Nat) : Prop := 2 ≤ q ∧ ∀ d, d ∣ q → d = 1 ∨ d = q

theorem Pr.cop {q a : Nat} (h : Pr q) (ha : ¬ q ∣ a) : Nat.Coprime q a := by
  have hd : Nat.gcd q a ∣ q := Nat.gcd_dvd_left q a
  rcases h.2 _ hd with h1 | h1
  · exact h1
  · exact absurd (h1 ▸ Nat.gcd_dvd_right q a) ha

theorem Pr.mul {q a b : Nat} (h : Pr q) (hd : q ∣ a * b) : q ∣ a ∨ q ∣ b := by
  by_cases ha : q ∣ a
  · exact .inl ha
  · exact .inr ((h.cop ha).dvd_of_dvd_mul_left hd)

theorem Pr.pow {q a : Nat} (h : Pr q) : ∀ n, q ∣ a ^ n → q ∣ a
  | 0, hd => by
    have := Nat.le_of_dvd (by simp) hd
    have := h.1
    simp at *; omega
  | n + 1, hd => by
    rw [Nat.pow_succ] at hd
    rcases h.mul hd with h1 | h1
    · exact h.pow n h1
    · exact h1

def ch : Nat → Nat → Nat
  | _, 0 => 1
  | 0, _ + 1 => 0
  | n + 1, k + 1 => ch n k + ch n (k + 1)

theorem ch_zero (n : Nat) : ch n 0 = 1 := by cases n <;> rfl
theorem ch_zero_succ (k : Nat) : ch 0 (k + 1) = 0 := rfl
theorem ch_succ (n k : Nat) : ch (n + 1) (k + 1) = ch n k + ch n (k + 1) := rfl

theorem ch_gt : ∀ (n k : Nat), n < k → ch n k = 0
  | 0, 0, h => by omega
  | 0, _ + 1, _ => rfl
  | n + 1, 0, h => by omega
  | n + 1, k + 1, h => by rw [ch_succ, ch_gt n k (by omega), ch_gt n (k + 1) (by omega)]

theorem ch_self : ∀ n, ch n n = 1
  | 0 => rfl
  | n + 1 => by rw [ch_succ, ch_self n, ch_gt n (n + 1) (by omega)]

theorem ch_mul : ∀ (n k : Nat), (k + 1) * ch (n + 1) (k + 1) = (n + 1) * ch n k
  | 0, 0 => rfl
  | 0, k + 1 => by rw [ch_succ, ch_zero_succ, ch_zero_succ]; simp
  | n + 1, 0 => by
    have ih := ch_mul n 0
    rw [ch_zero n] at ih
    rw [ch_succ (n + 1) 0, ch_zero (n + 1)]
    omega
  | n + 1, k + 1 => by
    have ih1 := ch_mul n k
    have ih2 := ch_mul n (k + 1)
    have e1 := ch_succ (n + 1) (k + 1)
    have e2 := ch_succ n k
    rw [e1]
    have : (k + 1 + 1) * (ch (n + 1) (k + 1) + ch (n + 1) (k + 1 + 1)) = (k + 1) * ch (n + 1) (k + 1) + ch (n + 1) (k + 1) + (k + 1 + 1) * ch (n + 1) (k + 1 + 1) := by grind
    rw [this, ih1, ih2, e2]
    grind

def bs (n a : Nat) : Nat → Nat
  | 0 => 0
  | m + 1 => bs n a m + ch n m * a ^ m

theorem bs_next (n a : Nat) : ∀ m, bs (n + 1) a (m + 1) = bs n a (m + 1) + a * bs n a m
  | 0 => by simp [bs, ch_zero]
  | m + 1 => by
    have ih := bs_next n a m
    have e1 : bs (n + 1) a (m + 1 + 1) = bs (n + 1) a (m + 1) + ch (n + 1) (m + 1) * a ^ (m + 1) := rfl
    have e2 : bs n a (m + 1 + 1) = bs n a (m + 1) + ch n (m + 1) * a ^ (m + 1) := rfl
    have e3 : bs n a (m + 1) = bs n a m + ch n m * a ^ m := rfl
    rw [e1, ih, e2, ch_succ, Nat.pow_succ]
    have : a * bs n a (m + 1) = a * bs n a m + a * (ch n m * a ^ m) := by rw [e3, Nat.mul_add]
    rw [this]
    grind

theorem binom (a : Nat) : ∀ n, (a + 1) ^ n = bs n a (n + 1)
  | 0 => by simp [bs, ch_zero]
  | n + 1 => by
    have ih := binom a n
    have e2 : bs n a (n + 1 + 1) = bs n a (n + 1) + ch n (n + 1) * a ^ (n + 1) := rfl
    rw [bs_next, e2, ch_gt n (n + 1) (by omega), Nat.pow_succ, ih]
    grind

theorem Pr.dvd_ch {r : Nat} (h : Pr r) (k : Nat) (h0 : 0 < k) (hk : k < r) : r ∣ ch r k := by
  obtain ⟨r', rfl⟩ : ∃ m, r = m + 1 := ⟨r - 1, by omega⟩
  obtain ⟨k', rfl⟩ : ∃ m, k = m + 1 := ⟨k - 1, by omega⟩
  have e := ch_mul r' k'
  have hd : r' + 1 ∣ (k' + 1) * ch (r' + 1) (k' + 1) := ⟨_, e⟩
  rcases h.mul hd with h1 | h1
  · have := Nat.le_of_dvd (by omega) h1; omega
  · exact h1

theorem Pr.bs_mod {r a : Nat} (h : Pr r) : ∀ m, m < r → bs r a (m + 1) % r = 1
  | 0, _ => by
    have := h.1
    simp only [bs, ch_zero, Nat.pow_zero, Nat.zero_add, Nat.mul_one]
    exact Nat.mod_eq_of_lt (by omega)
  | m + 1, hm => by
    have ih := h.bs_mod m (by omega) (a := a)
    have e : bs r a (m + 1 + 1) = bs r a (m + 1) + ch r (m + 1) * a ^ (m + 1) := rfl
    obtain ⟨c, hc⟩ := h.dvd_ch (m + 1) (by omega) hm
    rw [e, hc, Nat.mul_assoc, Nat.add_mul_mod_self_left, ih]

theorem Pr.step {r : Nat} (h : Pr r) (a : Nat) : (a + 1) ^ r % r = (a ^ r + 1) % r := by
  have h2 := h.1
  have e : bs r a (r + 1) = bs r a r + ch r r * a ^ r := rfl
  obtain ⟨m, hm⟩ : ∃ m, r = m + 1 := ⟨r - 1, by omega⟩
  have e2 := h.bs_mod (a := a) m (by omega)
  rw [← hm] at e2
  rw [binom, e, ch_self, Nat.one_mul, Nat.add_mod, e2, Nat.add_mod (a ^ r) 1, Nat.mod_eq_of_lt (show 1 < r by omega), Nat.add_comm]

/-- Fermat: a^r is a, modulo a prime. -/
theorem Pr.fermat {r : Nat} (h : Pr r) : ∀ a, a ^ r % r = a % r
  | 0 => by
    have := h.1
    rw [Nat.zero_pow (by omega)]
  | a + 1 => by rw [h.step a, Nat.add_mod, h.fermat a, ← Nat.add_mod]

theorem dvd_of_mod_eq {a b r : Nat} (h : a % r = b % r) : r ∣ a - b := Nat.dvd_of_mod_eq_zero (Nat.sub_mod_eq_zero_of_mod_eq h)

theorem mod_one_of_dvd {x r : Nat} (hr : 2 ≤ r) (hx : 1 ≤ x) (h : r ∣ x - 1) : x % r = 1 := by
  obtain ⟨c, hc⟩ := h
  have : x = 1 + r * c := by omega
  rw [this, Nat.add_mul_mod_self_left, Nat.mod_eq_of_lt (by omega)]

/-- Fermat's little theorem. -/
theorem Pr.little {r : Nat} (h : Pr r) {a : Nat} (ha : ¬ r ∣ a) : a ^ (r - 1) % r = 1 := by
  have h2 := h.1
  have ha0 : 0 < a := Nat.pos_of_ne_zero (fun e => ha (e ▸ Nat.dvd_zero r))
  have e1 := dvd_of_mod_eq (h.fermat a)
  have e2 : a ^ r - a = a * (a ^ (r - 1) - 1) := by
    have e3 : a ^ r = a * a ^ (r - 1) := by
      have e4 : a ^ (r - 1 + 1) = a * a ^ (r - 1) := Nat.pow_succ'
      rwa [show r - 1 + 1 = r by omega] at e4
    rw [Nat.mul_sub, Nat.mul_one, e3]
  rw [e2] at e1
  exact mod_one_of_dvd h2 (Nat.pow_pos ha0) ((h.mul e1).resolve_left ha)

theorem pow_gcd {b r : Nat} (hr : 2 ≤ r) (m n : Nat) : b ^ m % r = 1 → b ^ n % r = 1 → b ^ Nat.gcd m n % r = 1 := by
  induction m, n using Nat.gcd.induction with
  | H0 n => intro _ h; simpa using h
  | H1 m n hm ih =>
    intro h1 h2
    rw [Nat.gcd_rec]
    refine ih ?_ h1
    have e : n = m * (n / m) + n % m := (Nat.div_add_mod n m).symm
    rw [e, Nat.pow_add, Nat.pow_mul, Nat.mul_mod, Nat.pow_mod (b ^ m), h1, Nat.one_pow, Nat.mod_eq_of_lt (show 1 < r by omega), Nat.one_mul, Nat.mod_mod] at h2
    exact h2

theorem least (Q : Nat → Prop) : ∀ n, Q n → ∃ m, Q m ∧ ∀ k, Q k → m ≤ k := by
  intro n
  induction n using Nat.strongRecOn with
  | _ n ih =>
    intro hn
    by_cases h : ∃ k, k < n ∧ Q k
    · obtain ⟨k, hk, hQ⟩ := h
      exact ih k hk hQ
    · exact ⟨n, hn, fun k hk => Nat.le_of_not_lt (fun hlt => h ⟨k, hlt, hk⟩)⟩

theorem pr_of_factors {N : Nat} (hN : 2 ≤ N) (h : ∀ r, Pr r → r ∣ N → N < r * r) : Pr N := by
  obtain ⟨r, ⟨hr2, hrN⟩, hmin⟩ := least (fun d => 2 ≤ d ∧ d ∣ N) N ⟨hN, Nat.dvd_refl N⟩
  have hpr : Pr r := ⟨hr2, fun d hd => by
    have hpos : 0 < d := Nat.pos_of_dvd_of_pos hd (by omega)
    by_cases h1 : d = 1
    · exact .inl h1
    · have := hmin d ⟨by omega, Nat.dvd_trans hd hrN⟩
      have := Nat.le_of_dvd (by omega) hd
      exact .inr (by omega)⟩
  obtain ⟨e, he⟩ := hrN
  have hlt := h r hpr ⟨e, he⟩
  by_cases h1 : e = 1
  · rw [h1, Nat.mul_one] at he
    exact he ▸ hpr
  · have h0 : e ≠ 0 := by rintro rfl; simp at he; omega
    have hle := hmin e ⟨by omega, ⟨r, by rw [he, Nat.mul_comm]⟩⟩
    have := Nat.mul_le_mul_left r hle
    omega

theorem pock {N q a r : Nat} (hN : 2 ≤ N) (hq : Pr q) (hr : Pr r) (hrN : r ∣ N) (hqN : q ∣ N - 1) (h1 : a ^ (N - 1) % N = 1)
    (h2 : Nat.gcd (a ^ ((N - 1) / q) % N + N - 1) N = 1) : q ∣ r - 1 := by
  have hr2 := hr.1
  have hq2 := hq.1
  generalize hb : a ^ ((N - 1) / q) = b at h2
  have hbq : b ^ q % r = 1 := by
    rw [← hb, ← Nat.pow_mul, Nat.div_mul_cancel hqN, ← Nat.mod_mod_of_dvd _ hrN, h1, Nat.mod_eq_of_lt (by omega)]
  have hnb : ¬ r ∣ b := fun hd => by
    have e4 : b ^ (q - 1 + 1) = b * b ^ (q - 1) := Nat.pow_succ'
    rw [show q - 1 + 1 = q by omega] at e4
    have : b ^ q % r = 0 := Nat.mod_eq_zero_of_dvd (Nat.dvd_trans hd ⟨_, e4⟩)
    omega
  have hl := hr.little hnb
  have hg := pow_gcd hr2 _ _ hbq hl
  rcases hq.2 _ (Nat.gcd_dvd_left q (r - 1)) with hc | hc
  · exfalso
    rw [hc, Nat.pow_one, ← Nat.mod_mod_of_dvd _ hrN] at hg
    have hd : r ∣ b % N + N - 1 := by
      have e : b % N = r * (b % N / r) + 1 := by have := Nat.div_add_mod (b % N) r; omega
      obtain ⟨l, hl'⟩ := hrN
      refine ⟨b % N / r + l, ?_⟩
      rw [Nat.mul_add, ← hl']
      omega
    have := Nat.dvd_gcd hd hrN
    rw [h2] at this
    have := Nat.le_of_dvd (by omega) this
    omega
  · rw [← hc]; exact Nat.gcd_dvd_right q (r - 1)

/-- With one prime. -/
theorem pr_one {N q a : Nat} (hN : 2 ≤ N) (hq : Pr q) (hqN : q ∣ N - 1) (hbig : N ≤ q * q) (h1 : a ^ (N - 1) % N = 1)
    (h2 : Nat.gcd (a ^ ((N - 1) / q) % N + N - 1) N = 1) : Pr N := by
  refine pr_of_factors hN (fun r hr hrN => ?_)
  have hd := pock hN hq hr hrN hqN h1 h2
  have hr2 := hr.1
  have := Nat.le_of_dvd (by omega) hd
  have : (q + 1) * (q + 1) ≤ r * r := Nat.mul_le_mul (by omega) (by omega)
  have : q * q < (q + 1) * (q + 1) := by grind
  omega

theorem Pr.ne_cop {p q : Nat} (hp : Pr p) (hq : Pr q) (h : p ≠ q) : Nat.Coprime p q := by
  refine hp.cop (fun hd => ?_)
  rcases hq.2 p hd with h1 | h1
  · have := hp.1; omega
  · exact h h1

/-- With two primes. -/
theorem pr_two {N p q a : Nat} (hN : 2 ≤ N) (hp : Pr p) (hq : Pr q) (hne : p ≠ q) (hpN : p ∣ N - 1) (hqN : q ∣ N - 1) (hbig : N ≤ (p * q) * (p * q)) (h1 : a ^ (N - 1) % N = 1)
    (h2 : Nat.gcd (a ^ ((N - 1) / p) % N + N - 1) N = 1) (h3 : Nat.gcd (a ^ ((N - 1) / q) % N + N - 1) N = 1) : Pr N := by
  refine pr_of_factors hN (fun r hr hrN => ?_)
  have hd1 := pock hN hp hr hrN hpN h1 h2
  have hd2 := pock hN hq hr hrN hqN h1 h3
  have hd := (hp.ne_cop hq hne).mul_dvd_of_dvd_of_dvd hd1 hd2
  have hr2 := hr.1
  have := Nat.le_of_dvd (by omega) hd
  have h4 : (p * q + 1) * (p * q + 1) ≤ r * r := Nat.mul_le_mul (by omega) (by omega)
  have h5 : (p * q) * (p * q) < (p * q + 1) * (p * q + 1) := Nat.mul_lt_mul_of_lt_of_lt (by omega) (by omega)
  omega

/-- Trial division. -/
def tdiv (n : Nat) : Nat → Bool
  | 0 => true
  | k + 1 => (Nat.ble (k + 1) 1 || !(Nat.beq (n % (k + 1)) 0)) && tdiv n k

theorem tdiv_no {n : Nat} : ∀ k, tdiv n k = true → ∀ d, 2 ≤ d → d ≤ k → ¬ d ∣ n
  | 0, _, d, h2, hk => by omega
  | k + 1, h, d, h2, hk => by
    simp only [tdiv, Bool.and_eq_true, Bool.or_eq_true, Bool.not_eq_true'] at h
    by_cases e : d = k + 1
    · intro hd
      subst e
      rcases h.1 with h' | h'
      · have := Nat.le_of_ble_eq_true h'; omega
      · have := Nat.mod_eq_zero_of_dvd hd
        rw [this] at h'
        simp at h'
    · exact tdiv_no k h.2 d h2 (by omega)

theorem pr_small {n : Nat} (k : Nat) (h2 : 2 ≤ n) (h : tdiv n k = true) (hk : n < (k + 1) * (k + 1)) : Pr n := by
  refine pr_of_factors h2 (fun r hr hrn => ?_)
  rcases Nat.lt_or_ge k r with h' | h'
  · exact Nat.lt_of_lt_of_le hk (Nat.mul_le_mul (by omega) (by omega))
  · exact absurd hrn (tdiv_no k h r hr.1 h')

/-- A power modulo m, by its bits. -/
def pmod (m : Nat) : Nat → Nat → Nat → Nat
  | 0, _, _ => 1 % m
  | f + 1, b, e => if e % 2 = 1 then b * pmod m f (b * b % m) (e / 2) % m else pmod m f (b * b % m) (e / 2)

theorem pmod_eq (m : Nat) : ∀ (f b e : Nat), e < 2 ^ f → pmod m f b e = b ^ e % m
  | 0, b, e, h => by
    have : e = 0 := by simpa using h
    subst this; simp [pmod]
  | f + 1, b, e, h => by
    have h' : e / 2 < 2 ^ f := by rw [Nat.pow_succ] at h; omega
    have ih := pmod_eq m f (b * b % m) (e / 2) h'
    have e1 : (b * b % m) ^ (e / 2) % m = b ^ (2 * (e / 2)) % m := by
      rw [← Nat.pow_mod, ← Nat.pow_two, ← Nat.pow_mul]
    simp only [pmod]
    split
    · rename_i hodd
      rw [ih, e1, Nat.mul_mod, Nat.mod_mod, ← Nat.mul_mod, ← Nat.pow_succ']
      congr 2
      omega
    · rw [ih, e1]
      congr 2
      omega

theorem pow_of_pmod {m b e c : Nat} (f : Nat) (h : pmod m f b e = c) (he : e < 2 ^ f) : b ^ e % m = c := by rw [← pmod_eq m f b e he, h]

theorem pr_8574133 : Pr 8574133 := pr_small 2928 (by omega) (by decide +kernel) (by omega)
theorem pr_127 : Pr 127 := pr_small 11 (by omega) (by decide +kernel) (by omega)
theorem pr_75707 : Pr 75707 := pr_small 275 (by omega) (by decide +kernel) (by omega)
theorem pr_430751 : Pr 430751 := pr_small 656 (by omega) (by decide +kernel) (by omega)
theorem pr_4153 : Pr 4153 := pr_small 64 (by omega) (by decide +kernel) (by omega)

/-- With two primes, as a program reckons it. -/
theorem pr_two' {N p q a : Nat} (f : Nat) (hN : 2 ≤ N) (hp : Pr p) (hq : Pr q) (hne : p ≠ q) (hpN : p ∣ N - 1) (hqN : q ∣ N - 1) (hbig : N ≤ (p * q) * (p * q)) (hf : N < 2 ^ f)
    (h1 : pmod N f a (N - 1) = 1) (h2 : Nat.gcd (pmod N f a ((N - 1) / p) + N - 1) N = 1) (h3 : Nat.gcd (pmod N f a ((N - 1) / q) + N - 1) N = 1) : Pr N := by
  have b1 : (N - 1) / p < 2 ^ f := Nat.lt_of_le_of_lt (Nat.div_le_self _ _) (by omega)
  have b2 : (N - 1) / q < 2 ^ f := Nat.lt_of_le_of_lt (Nat.div_le_self _ _) (by omega)
  rw [pmod_eq _ _ _ _ (by omega)] at h1
  rw [pmod_eq _ _ _ _ b1] at h2
  rw [pmod_eq _ _ _ _ b2] at h3
  exact pr_two hN hp hq hne hpN hqN hbig h1 h2 h3

theorem pr_one' {N q a : Nat} (f : Nat) (hN : 2 ≤ N) (hq : Pr q) (hqN : q ∣ N - 1) (hbig : N ≤ q * q) (hf : N < 2 ^ f)
    (h1 : pmod N f a (N - 1) = 1) (h2 : Nat.gcd (pmod N f a ((N - 1) / q) + N - 1) N = 1) : Pr N := by
  have b1 : (N - 1) / q < 2 ^ f := Nat.lt_of_le_of_lt (Nat.div_le_self _ _) (by omega)
  rw [pmod_eq _ _ _ _ (by omega)] at h1
  rw [pmod_eq _ _ _ _ b1] at h2
  exact pr_one hN hq hqN hbig h1 h2

theorem pr_a : Pr 1919519569386763 :=
  pr_two' (a := 2) 64 (by decide +kernel) pr_8574133 pr_127 (by decide +kernel) (by decide +kernel) (by decide +kernel) (by decide +kernel) (by decide +kernel) (by decide +kernel) (by decide +kernel) (by decide +kernel)

theorem pr_q2 : Pr 31757755568855353 :=
  pr_two' (a := 2) 64 (by decide +kernel) pr_430751 pr_4153 (by decide +kernel) (by decide +kernel) (by decide +kernel) (by decide +kernel) (by decide +kernel) (by decide +kernel) (by decide +kernel) (by decide +kernel)

theorem pr_q1 : Pr 75445702479781427272750846543864801 :=
  pr_two' (a := 2) 128 (by decide +kernel) pr_a pr_75707 (by decide +kernel) (by decide +kernel) (by decide +kernel) (by decide +kernel) (by decide +kernel) (by decide +kernel) (by decide +kernel) (by decide +kernel)

theorem pr_Q : Pr 74058212732561358302231226437062788676166966415465897661863160754340907 :=
  pr_two' (a := 2) 256 (by decide +kernel) pr_q1 pr_q2 (by decide +kernel) (by decide +kernel) (by decide +kernel) (by decide +kernel) (by decide +kernel) (by decide +kernel) (by decide +kernel) (by decide +kernel)

/-- 2^255 - 19. -/
def pp : Nat := 57896044618658097711785492504343953926634992332820282019728792003956564819949

theorem pr_pp : Pr pp :=
  pr_one' (a := 2) 256 (by decide +kernel) pr_Q (by decide +kernel) (by decide +kernel) (by decide +kernel) (by decide +kernel) (by decide +kernel)

end Go.Proofs.Ytihbjlpohjohpaa.Ar
