/- CodecLetters, over bytes alone: the last letter tells the lowest five bits, each letter is one of those there are, letters are ordered as the numbers are. -/
import Derived.Test.YtalanaongfnndaaG2
namespace Go.Proofs.Ytalanaongfnndaa.Pure
open Go.RowKit Go.Proofs.Ytalanaongfnndaa Go.Proofs.Ytalanaongfnndaa.G Go.Proofs.YtalanaongfnndaaW.PrintWords Go.Proofs.YtalanaongfnndaaW.PrintLast Go.Proofs.YtalanaongfnndaaW.PrintMore

theorem awake_f : shelfmarklaw5_awake.f = some true := by decide +kernel
theorem ba_size (l : List UInt8) : (ba l).size = l.length := rfl
theorem ba_toList (l : List UInt8) : (ba l).toList = l := by rw [ByteArray.toList_eq]; rfl
theorem bt_ba (l : List UInt8) (i : Nat) (h : i < l.length) : bt (ba l) (i : Int) = ((l.getD i 0).toNat : Int) := by
  unfold bt
  rw [dif_pos (show ((i : Int)).toNat < (ba l).size from h)]
  simp [h]
  rfl
theorem b32_f (l : List UInt8) (hl : l.length ≤ 1000000) : codec_Base32.f (ba l) = some (ba (b32N l)) := by
  unfold codec_Base32.f
  rw [if_pos (show (ba l).size ≤ 1000000 from hl)]
  rfl
theorem b32_length (l : List UInt8) : (b32N l).length = (8 * l.length + 4) / 5 := by unfold b32N; rw [List.length_reverse, let32_length]

theorem t32_less : ∀ d : Fin 32, ∀ e : Fin 32, decide (t32L.getD d.1 0 < t32L.getD e.1 0) = decide (d.1 < e.1) ∧ (t32L.getD d.1 0 == t32L.getD e.1 0) = decide (d.1 = e.1) := by decide +kernel
theorem t32_lt {d e : Nat} (hd : d < 32) (he : e < 32) : decide (t32L.getD d 0 < t32L.getD e 0) = decide (d < e) := (t32_less ⟨d, hd⟩ ⟨e, he⟩).1
theorem t32_eq {d e : Nat} (hd : d < 32) (he : e < 32) : (t32L.getD d 0 == t32L.getD e 0) = decide (d = e) := (t32_less ⟨d, hd⟩ ⟨e, he⟩).2
theorem mod_step (N m : Nat) : N % 2 ^ (5 * (m + 1)) = N % 2 ^ (5 * m) + 2 ^ (5 * m) * (N / 2 ^ (5 * m) % 32) := by
  rw [show 5 * (m + 1) = 5 * m + 5 by omega, Nat.pow_add, Nat.mod_mul]
theorem high_cmp {P a b x y : Nat} (ha : a < P) (hb : b < P) : (a + P * x < b + P * y ↔ x < y ∨ (x = y ∧ a < b)) ∧ (a + P * x = b + P * y ↔ x = y ∧ a = b) := by
  rcases Nat.lt_trichotomy x y with h | h | h
  · have : P * x + P ≤ P * y := by rw [← Nat.mul_succ]; exact Nat.mul_le_mul_left P h
    constructor <;> constructor <;> omega
  · subst h
    constructor <;> constructor <;> omega
  · have : P * y + P ≤ P * x := by rw [← Nat.mul_succ]; exact Nat.mul_le_mul_left P h
    constructor <;> constructor <;> omega
theorem letters_less (N M : Nat) : ∀ m, Op.bytesLess (let32 N m).reverse (let32 M m).reverse = decide (N % 2 ^ (5 * m) < M % 2 ^ (5 * m)) ∧ ((let32 N m).reverse == (let32 M m).reverse) = decide (N % 2 ^ (5 * m) = M % 2 ^ (5 * m))
  | 0 => by simp [let32, Op.bytesLess, Nat.mod_one]
  | m + 1 => by
    obtain ⟨i1, i2⟩ := letters_less N M m
    have hN : N / 2 ^ (5 * m) % 32 < 32 := Nat.mod_lt _ (by omega)
    have hM : M / 2 ^ (5 * m) % 32 < 32 := Nat.mod_lt _ (by omega)
    have hc := high_cmp (x := N / 2 ^ (5 * m) % 32) (y := M / 2 ^ (5 * m) % 32) (Nat.mod_lt N (Nat.pow_pos (n := 5 * m) (show 0 < 2 by omega))) (Nat.mod_lt M (Nat.pow_pos (n := 5 * m) (show 0 < 2 by omega)))
    have h1 := t32_lt hN hM
    have h2 := t32_eq hN hM
    rw [let32_succ, let32_succ, List.reverse_append, List.reverse_append]
    simp only [List.reverse_cons, List.reverse_nil, List.nil_append, List.cons_append]
    constructor
    · rw [Op.bytesLess, h1, h2, i1, mod_step, mod_step]
      rw [Bool.eq_iff_iff]
      simp only [Bool.or_eq_true, Bool.and_eq_true, decide_eq_true_eq]
      rw [hc.1]
    · rw [List.cons_beq_cons, h2, i2, mod_step, mod_step]
      rw [Bool.eq_iff_iff]
      simp only [Bool.and_eq_true, decide_eq_true_eq]
      rw [hc.2]

/-- How two numbers stand. -/
def cmp (N M : Nat) : Int := if N < M then -1 else if M < N then 1 else 0
theorem cmp_step {s t : List UInt8} {d : Nat} (hs : d < s.length) (ht : d < t.length) :
    cmp (ofle (s.take (d + 1))) (ofle (t.take (d + 1))) = if (s.getD d 0).toNat < (t.getD d 0).toNat then -1 else if (t.getD d 0).toNat < (s.getD d 0).toNat then 1 else cmp (ofle (s.take d)) (ofle (t.take d)) := by
  have h1 := ofle_take_lt s d
  have h2 := ofle_take_lt t d
  have hc := high_cmp (x := (s.getD d 0).toNat) (y := (t.getD d 0).toNat) h1 h2
  have hc2 := high_cmp (x := (t.getD d 0).toNat) (y := (s.getD d 0).toNat) h2 h1
  unfold cmp
  rw [ofle_take s d hs, ofle_take t d ht, Nat.mul_comm (s.getD d 0).toNat, Nat.mul_comm (t.getD d 0).toNat]
  generalize (s.getD d 0).toNat = x at *
  generalize (t.getD d 0).toNat = y at *
  rcases Nat.lt_trichotomy x y with h | h | h
  · rw [if_pos (hc.1.2 (.inl h)), if_pos h]
  · subst h
    rw [if_neg (Nat.lt_irrefl x), if_neg (Nat.lt_irrefl x)]
    by_cases e : ofle (s.take d) < ofle (t.take d)
    · rw [if_pos (hc.1.2 (.inr ⟨rfl, e⟩)), if_pos e]
    · rw [if_neg (fun h => by have := hc.1.1 h; omega), if_neg e]
      by_cases e2 : ofle (t.take d) < ofle (s.take d)
      · rw [if_pos (hc2.1.2 (.inr ⟨rfl, e2⟩)), if_pos e2]
      · rw [if_neg (fun h => by have := hc2.1.1 h; omega), if_neg e2]
  · rw [if_neg (fun h' => by have := hc.1.1 h'; omega), if_pos (hc2.1.2 (.inl h)), if_neg (show ¬ x < y by omega), if_pos h]

abbrev al32 : ByteArray := ⟨#[48, 49, 50, 51, 52, 53, 54, 55, 56, 57, 97, 98, 99, 100, 102, 103, 104, 105, 106, 107, 108, 109, 110, 112, 113, 114, 115, 118, 119, 120, 121, 122]⟩
theorem al32_size : al32.size = 32 := rfl
theorem bt_al (j : Nat) (h : j < 32) : bt al32 (j : Int) = ((t32L.getD j 0).toNat : Int) := bt_ba t32L j h

theorem order_end (s t a b : List UInt8) (n : Int) (c : Int) (R : Nat) (HL : ∀ k, R ≤ k → shelfmarklaw5_CodecLetters.l1 k (ba s) n (ba a) (ba b) c al32 0 = some true) (hc : c ≠ 0) (i : Int) :
    ∀ k, R + 2 ≤ k → shelfmarklaw5_CodecLetters.l0 k (ba s) (ba t) n (ba a) (ba b) c i = some true := by
  intro k hk
  obtain ⟨k, rfl⟩ : ∃ j, k = j + 2 := ⟨k - 2, by omega⟩
  simp only [shelfmarklaw5_CodecLetters.l0, shelfmarklaw5_CodecLetters.j1]
  have e : (c == 0) = false := by simpa using hc
  rw [e]
  by_cases h : i ≥ 0
  · rw [if_pos h, if_neg (by simp)]
    exact HL k (by omega)
  · rw [if_neg h, if_neg (by simp)]
    exact HL k (by omega)

theorem order_loop (s t a b : List UInt8) (n : Int) (C : Int) (R : Nat) (HL : ∀ k, R ≤ k → shelfmarklaw5_CodecLetters.l1 k (ba s) n (ba a) (ba b) C al32 0 = some true) :
    ∀ d, d ≤ s.length → d ≤ t.length → d ≤ 100 → cmp (ofle (s.take d)) (ofle (t.take d)) = C → ∀ k, R + 3 * d + 2 ≤ k → shelfmarklaw5_CodecLetters.l0 k (ba s) (ba t) n (ba a) (ba b) 0 ((d : Int) - 1) = some true := by
  intro d
  induction d with
  | zero =>
    intro _ _ _ hc k hk
    have : C = 0 := by rw [← hc]; simp [cmp, ofle]
    subst this
    obtain ⟨k, rfl⟩ : ∃ j, k = j + 2 := ⟨k - 2, by omega⟩
    simp only [shelfmarklaw5_CodecLetters.l0, shelfmarklaw5_CodecLetters.j1]
    rw [if_neg (by omega), if_neg (by simp)]
    exact HL k (by omega)
  | succ d ih =>
    intro hs ht h100 hc k hk
    have hstep := cmp_step (s := s) (t := t) (d := d) (by omega) (by omega)
    rw [hc] at hstep
    obtain ⟨k, rfl⟩ : ∃ j, k = j + 3 := ⟨k - 3, by omega⟩
    have hi : ((d + 1 : Nat) : Int) - 1 = (d : Int) := by omega
    have hw : wrap64 ((d : Int) - 1) = (d : Int) - 1 := by unfold wrap64; omega
    rw [hi]
    simp only [shelfmarklaw5_CodecLetters.l0, shelfmarklaw5_CodecLetters.j1, shelfmarklaw5_CodecLetters.j2]
    rw [if_pos (show ((d : Int) ≥ 0) by omega), if_pos (by rfl)]
    rw [if_pos (by omega), if_pos (by rw [ba_size]; omega), if_pos (by rw [ba_size]; omega), bt_ba s d (by omega), bt_ba t d (by omega)]
    by_cases h1 : (s.getD d 0).toNat < (t.getD d 0).toNat
    · rw [if_pos h1] at hstep
      rw [if_pos (by omega), if_pos (by omega), if_pos (by rw [ba_size]; omega), if_pos (by rw [ba_size]; omega), if_neg (by omega), hw]
      refine order_end s t a b n (-1) R ?_ (by decide) _ k (by omega)
      rw [← hstep]
      exact HL
    · rw [if_neg h1] at hstep
      rw [if_neg (by omega), if_pos (by omega), if_pos (by rw [ba_size]; omega), if_pos (by rw [ba_size]; omega), hw]
      by_cases h2 : (t.getD d 0).toNat < (s.getD d 0).toNat
      · rw [if_pos h2] at hstep
        rw [if_pos (by omega)]
        refine order_end s t a b n 1 R ?_ (by decide) _ k (by omega)
        rw [← hstep]
        exact HL
      · rw [if_neg h2] at hstep
        rw [if_neg (by omega)]
        exact ih (by omega) (by omega) (by omega) hstep.symm k (by omega)

section
variable (s a b : List UInt8) (n c : Int)
theorem in_true (i : Int) (R : Nat) (HL : ∀ k, R ≤ k → shelfmarklaw5_CodecLetters.l1 k (ba s) n (ba a) (ba b) c al32 (wrap64 (i + 1)) = some true) :
    ∀ d j : Nat, j + d = 32 → ∀ k, R + d + 1 ≤ k → shelfmarklaw5_CodecLetters.l2 k (ba s) n (ba a) (ba b) c al32 i true (j : Int) = some true := by
  intro d
  induction d with
  | zero =>
    intro j hj k hk
    obtain ⟨k, rfl⟩ : ∃ q, k = q + 1 := ⟨k - 1, by omega⟩
    simp only [shelfmarklaw5_CodecLetters.l2]
    rw [if_neg (by rw [al32_size]; omega), if_pos trivial]
    exact HL k (by omega)
  | succ d ih =>
    intro j hj k hk
    obtain ⟨k, rfl⟩ : ∃ q, k = q + 1 := ⟨k - 1, by omega⟩
    simp only [shelfmarklaw5_CodecLetters.l2]
    rw [if_pos (by rw [al32_size]; omega), if_pos trivial, show wrap64 ((j : Int) + 1) = ((j + 1 : Nat) : Int) by unfold wrap64; omega]
    exact ih (j + 1) (by omega) k (by omega)
theorem in_false (i : Nat) (hi : i < a.length) (x : Nat) (hx : x < 32) (hax : a.getD i 0 = t32L.getD x 0) (R : Nat) (HL : ∀ k, R ≤ k → shelfmarklaw5_CodecLetters.l1 k (ba s) n (ba a) (ba b) c al32 (wrap64 ((i : Int) + 1)) = some true) :
    ∀ d j : Nat, j + d = x → ∀ k, R + (32 - j) + 1 ≤ k → shelfmarklaw5_CodecLetters.l2 k (ba s) n (ba a) (ba b) c al32 (i : Int) false (j : Int) = some true := by
  intro d
  induction d with
  | zero =>
    intro j hj k hk
    obtain rfl : j = x := by omega
    obtain ⟨k, rfl⟩ : ∃ q, k = q + 1 := ⟨k - 1, by omega⟩
    simp only [shelfmarklaw5_CodecLetters.l2]
    rw [if_pos (by rw [al32_size]; omega), if_neg (by simp), if_pos (by omega), if_pos (by omega), if_pos (by rw [ba_size]; omega), bt_al j hx, bt_ba a i hi, hax]
    rw [show ((((t32L.getD j 0).toNat : Nat) : Int) == (((t32L.getD j 0).toNat : Nat) : Int)) = true by simp, show wrap64 ((j : Int) + 1) = ((j + 1 : Nat) : Int) by unfold wrap64; omega]
    exact in_true s a b n c i R HL (31 - j) (j + 1) (by omega) k (by omega)
  | succ d ih =>
    intro j hj k hk
    obtain ⟨k, rfl⟩ : ∃ q, k = q + 1 := ⟨k - 1, by omega⟩
    simp only [shelfmarklaw5_CodecLetters.l2]
    rw [if_pos (by rw [al32_size]; omega), if_neg (by simp), if_pos (by omega), if_pos (by omega), if_pos (by rw [ba_size]; omega), show wrap64 ((j : Int) + 1) = ((j + 1 : Nat) : Int) by unfold wrap64; omega]
    cases bt al32 (j : Int) == bt (ba a) (i : Int) with
    | true => exact in_true s a b n c i R HL (31 - j) (j + 1) (by omega) k (by omega)
    | false => exact ih (j + 1) (by omega) k (by omega)
theorem all_in (hlen : a.length ≤ 100) (hall : ∀ i, i < a.length → ∃ x, x < 32 ∧ a.getD i 0 = t32L.getD x 0) (R : Nat) (HL : ∀ k, R ≤ k → shelfmarklaw5_CodecLetters.l1 k (ba s) n (ba a) (ba b) c al32 ((a.length : Nat) : Int) = some true) :
    ∀ d i : Nat, i + d = a.length → ∀ k, R + 40 * d ≤ k → shelfmarklaw5_CodecLetters.l1 k (ba s) n (ba a) (ba b) c al32 (i : Int) = some true := by
  intro d
  induction d with
  | zero =>
    intro i hi k hk
    obtain rfl : i = a.length := by omega
    exact HL k (by omega)
  | succ d ih =>
    intro i hi k hk
    obtain ⟨k, rfl⟩ : ∃ q, k = q + 1 := ⟨k - 1, by omega⟩
    obtain ⟨x, hx, hax⟩ := hall i (by omega)
    simp only [shelfmarklaw5_CodecLetters.l1]
    rw [if_pos (by rw [ba_size]; omega)]
    have := in_false s a b n c i (by omega) x hx hax (R + 40 * d) (by
      rw [show wrap64 ((i : Int) + 1) = ((i + 1 : Nat) : Int) by unfold wrap64; omega]
      exact ih (i + 1) (by omega)) x 0 (by omega) k (by omega)
    exact this
end

theorem letters_in (N m i : Nat) (h : i < m) : ∃ x, x < 32 ∧ ((let32 N m).reverse).getD i 0 = t32L.getD x 0 := by
  refine ⟨N / 2 ^ (5 * (m - 1 - i)) % 32, Nat.mod_lt _ (by omega), ?_⟩
  have h1 : i < (let32 N m).reverse.length := by rw [List.length_reverse, let32_length]; exact h
  rw [List.getD_eq_getElem?_getD, List.getElem?_eq_getElem h1, Option.getD_some, List.getElem_reverse]
  simp [let32]
theorem first_byte (s : List UInt8) (h : 0 < s.length) : ofle s % 32 = (s.getD 0 0).toNat % 32 := by
  cases s with
  | nil => simp at h
  | cons b l => simp [ofle]; omega
theorem and_31 (a : Nat) (h : a < 256) : Go.bits .and .u8 (a : Int) 31 = ((a % 32 : Nat) : Int) := by
  have h1 := u8_and31 (x := (a : Int)) (by omega) (by omega)
  rw [h1]
  omega

theorem CodecLetters : shelfmarklaw5_CodecLetters.Pure := by
  intro a0 a1 _ _
  obtain ⟨s, rfl⟩ : ∃ s, a0 = ba s := ⟨a0.data.toList, rfl⟩
  obtain ⟨t, rfl⟩ : ∃ t, a1 = ba t := ⟨a1.data.toList, rfl⟩
  obtain ⟨n, hn, hns, hnt, h40⟩ : ∃ n : Nat, mn (mn (((ba s).size : Nat) : Int) (((ba t).size : Nat) : Int)) 40 = (n : Int) ∧ n ≤ s.length ∧ n ≤ t.length ∧ n ≤ 40 := by
    refine ⟨(mn (mn (s.length : Int) (t.length : Int)) 40).toNat, ?_, ?_, ?_, ?_⟩
    · rw [ba_size, ba_size]; unfold mn; (repeat' split) <;> omega
    · unfold mn; (repeat' split) <;> omega
    · unfold mn; (repeat' split) <;> omega
    · unfold mn; (repeat' split) <;> omega
  refine ⟨6000, ?_⟩
  unfold shelfmarklaw5_CodecLetters.f
  have hex : ∀ l : List UInt8, (ba l).extract 0 ((n : Int)).toNat = ba (l.take n) := fun l => by
    apply ByteArray.ext
    simp [ba]
  rw [hn, if_pos (by omega), if_pos (by rw [ba_size]; omega), hex, b32_f _ (by simp; omega)]
  simp only [Option.bind_some]
  rw [if_pos (by rw [ba_size]; omega), hex, b32_f _ (by simp; omega)]
  simp only [Option.bind_some]
  have hsl : (s.take n).length = n := by simp; omega
  have htl : (t.take n).length = n := by simp; omega
  obtain ⟨m, hm⟩ : ∃ m, (8 * n + 4) / 5 = m := ⟨_, rfl⟩
  have hA : b32N (s.take n) = (let32 (ofle (s.take n)) m).reverse := by unfold b32N; rw [hsl, hm]
  have hB : b32N (t.take n) = (let32 (ofle (t.take n)) m).reverse := by unfold b32N; rw [htl, hm]
  have hAl : (b32N (s.take n)).length = m := by rw [hA, List.length_reverse, let32_length]
  have hBl : (b32N (t.take n)).length = m := by rw [hB, List.length_reverse, let32_length]
  have hN := ofle_take_lt s n
  have hM := ofle_take_lt t n
  have h8 : 2 ^ (8 * n) ≤ 2 ^ (5 * m) := Nat.pow_le_pow_right (by omega) (by omega)
  obtain ⟨hless, heq⟩ := letters_less (ofle (s.take n)) (ofle (t.take n)) m
  rw [Nat.mod_eq_of_lt (show ofle (s.take n) < 2 ^ (5 * m) by omega), Nat.mod_eq_of_lt (show ofle (t.take n) < 2 ^ (5 * m) by omega), ← hA, ← hB] at hless heq
  have hin : ∀ i, i < (b32N (s.take n)).length → ∃ x, x < 32 ∧ (b32N (s.take n)).getD i 0 = t32L.getD x 0 := fun i hi => by
    rw [hA]
    exact letters_in _ m i (by omega)
  have hlast : 0 < n → (b32N (s.take n)).getD (m - 1) 0 = t32L.getD ((s.getD 0 0).toNat % 32) 0 := fun h0 => by
    have h1 : m - 1 < (let32 (ofle (s.take n)) m).reverse.length := by rw [List.length_reverse, let32_length]; omega
    rw [hA, List.getD_eq_getElem?_getD, List.getElem?_eq_getElem h1, Option.getD_some, List.getElem_reverse]
    have h2 := first_byte (s.take n) (by omega)
    have h3 : (s.take n).getD 0 0 = s.getD 0 0 := by simp [h0]
    rw [h3] at h2
    rw [← h2]
    simp [let32, show m - 1 - (m - 1) = 0 by omega]
  obtain ⟨A, hAe⟩ : ∃ A, b32N (s.take n) = A := ⟨_, rfl⟩
  obtain ⟨Bl, hBe⟩ : ∃ Bl, b32N (t.take n) = Bl := ⟨_, rfl⟩
  rw [hAe] at hAl hless heq hin hlast ⊢
  rw [hBe] at hBl hless heq ⊢
  obtain ⟨C, hC⟩ : ∃ C, cmp (ofle (s.take n)) (ofle (t.take n)) = C := ⟨_, rfl⟩
  refine order_loop s t A Bl (n : Int) C (1 + 40 * m) ?_ n hns hnt (by omega) hC 6000 (by omega)
  intro k hk
  refine all_in s A Bl (n : Int) C (by omega) hin 1 ?_ m 0 (by omega) k hk
  intro k hk
  obtain ⟨k, rfl⟩ : ∃ q, k = q + 1 := ⟨k - 1, by omega⟩
  simp only [shelfmarklaw5_CodecLetters.l1]
  rw [if_neg (by rw [ba_size]; omega)]
  by_cases h0 : n = 0
  · subst h0
    have : A = [] := List.eq_nil_of_length_eq_zero (by omega)
    rw [if_pos (by rfl), if_pos (by rw [ba_toList, this]), awake_f]
    rfl
  · have hl := hlast (by omega)
    have hs0 : 0 < s.length := by omega
    have hb := (s.getD 0 0).toNat_lt
    have hx32 : (s.getD 0 0).toNat % 32 < 32 := Nat.mod_lt _ (by omega)
    have hw : wrap64 ((((ba A).size : Nat) : Int) - 1) = ((m - 1 : Nat) : Int) := by rw [ba_size, hAl]; unfold wrap64; omega
    have hz : bt (ba s) 0 = (((s.getD 0 0).toNat : Nat) : Int) := bt_ba s 0 hs0
    rw [if_neg (by omega), if_pos (by rw [ba_size]; omega), if_pos (by rw [ba_size, ba_size]; omega), hw, if_pos (by omega), if_pos (by rw [ba_size]; omega), if_pos (by rw [ba_size]; omega), hz, and_31 _ hb, if_pos (by omega), if_pos (by rw [al32_size]; omega),
      bt_ba A (m - 1) (by omega), bt_al _ hx32, hl, if_pos rfl, ba_toList, ba_toList, hless, heq]
    have e1 : (decide (ofle (s.take n) < ofle (t.take n)) == decide (C < 0)) = true := by
      rw [← hC]; unfold cmp
      (repeat' split) <;> simp_all
    have e2 : (decide (ofle (s.take n) = ofle (t.take n)) == (C == 0)) = true := by
      rw [← hC]; unfold cmp
      (repeat' split) <;> simp_all <;> omega
    rw [if_pos e1, if_pos e2, awake_f]
    rfl
end Go.Proofs.Ytalanaongfnndaa.Pure
