/- No program in it: 64 letters are read back. -/
import Derived.Test.YtalanaongfnndaaDoorGet6
import Derived.Test.YtalanaongfnndaaDoorPureHex
namespace Go.Proofs.YtalanaongfnndaaDoor
open Go.RowKit Go.Shelf

theorem idx_t64L : ∀ i : Fin 64, Lib.indexByte t64L (t64L.getD i.1 0) = (i.1 : Int) ∧ t64L.getD i.1 0 ≠ 61 := by decide +kernel
theorem idx_t64L' {i : Nat} (h : i < 64) : Lib.indexByte t64L (t64L.getD i 0) = (i : Int) := (idx_t64L ⟨i, h⟩).1
theorem t64L_ne {i : Nat} (h : i < 64) : t64L.getD i 0 ≠ 61 := (idx_t64L ⟨i, h⟩).2
/-- How many letters; how many bits are filled in. -/
def m64 (L : Nat) : Nat := (8 * L + 5) / 6
theorem body_eq (l : List UInt8) : body64 l = let64 (ofbe l * 2 ^ (6 * m64 l.length - 8 * l.length)) (6 * m64 l.length) (m64 l.length) := by
  unfold body64 m64
  by_cases hr : 0 < 8 * l.length % 6
  · rw [if_pos hr, show (8 * l.length + 5) / 6 = 8 * l.length / 6 + 1 by omega, let64_succ, show 6 * (8 * l.length / 6 + 1) - 8 * l.length = 6 - 8 * l.length % 6 by omega, Nat.sub_self, Nat.pow_zero, Nat.div_one]
    congr 1
    unfold let64
    apply List.map_congr_left
    intro j hj
    have hj' := List.mem_range.1 hj
    rw [show 6 * (8 * l.length / 6 + 1) - 6 * (j + 1) = (6 - 8 * l.length % 6) + (8 * l.length - 6 * (j + 1)) by omega, Nat.pow_add, ← Nat.div_div_eq_div_mul, Nat.mul_div_cancel _ (Nat.pow_pos (by omega))]
  · rw [if_neg hr, List.append_nil, show (8 * l.length + 5) / 6 = 8 * l.length / 6 by omega, show 6 * (8 * l.length / 6) - 8 * l.length = 0 by omega, Nat.pow_zero, Nat.mul_one, show 6 * (8 * l.length / 6) = 8 * l.length by omega]
/-- The highest k bytes of a number of b bits. -/
def bytesB (X b k : Nat) : List UInt8 := (List.range k).map fun i => UInt8.ofNat (X / 2 ^ (b - 8 * (i + 1)) % 256)
theorem bytesB_succ (X b k : Nat) : bytesB X b (k + 1) = bytesB X b k ++ [UInt8.ofNat (X / 2 ^ (b - 8 * (k + 1)) % 256)] := by simp [bytesB, List.range_succ]
theorem byte16 (V g : Nat) (hg : g < 8) : V % 65536 / 2 ^ g % 256 = V / 2 ^ g % 256 := by
  match g, hg with
  | 0, _ | 1, _ | 2, _ | 3, _ | 4, _ | 5, _ | 6, _ | 7, _ => omega
theorem rd_b64 (X m : Nat) : ∀ j, j ≤ m → X < 2 ^ (6 * m) → ∃ k h, 6 * j = 8 * k + h ∧ h < 8 ∧ rdBits t64L 6 (let64 X (6 * m) j) = (X / 2 ^ (6 * m - 6 * j) % 65536, h, bytesB X (6 * m) k)
  | 0, _, hX => ⟨0, 0, rfl, by omega, by
    rw [Nat.mul_zero, Nat.sub_zero, Nat.div_eq_of_lt hX]
    rfl⟩
  | j + 1, hj, hX => by
    obtain ⟨k, h, hk, hh, he⟩ := rd_b64 X m j (by omega) hX
    obtain ⟨Y, hY⟩ : ∃ Y, X / 2 ^ (6 * m - 6 * (j + 1)) = Y := ⟨_, rfl⟩
    have hY6 : X / 2 ^ (6 * m - 6 * j) = Y / 64 := by
      rw [← hY, show 6 * m - 6 * j = (6 * m - 6 * (j + 1)) + 6 by omega, Nat.pow_add, Nat.div_div_eq_div_mul]
    have hn : ((Y / 64 % 65536 * 2 ^ 6 ||| Y % 64) % 65536) = Y % 65536 := by
      rw [or_low _ _ 6 (Nat.mod_lt _ (by omega))]
      omega
    rw [let64_succ, rd_snoc, he, hY6, hY]
    have hs : rdStep t64L 6 (Y / 64 % 65536, h, bytesB X (6 * m) k) (t64L.getD (Y % 64) 0) =
        if 8 ≤ h + 6 then (Y % 65536, h + 6 - 8, bytesB X (6 * m) k ++ [UInt8.ofNat (Y % 65536 / 2 ^ (h + 6 - 8))]) else (Y % 65536, h + 6, bytesB X (6 * m) k) := by
      unfold rdStep
      rw [idx_t64L' (Nat.mod_lt _ (by omega))]
      simp only [Int.toNat_natCast, hn]
    rw [hs]
    by_cases h8 : 8 ≤ h + 6
    · rw [if_pos h8]
      refine ⟨k + 1, h + 6 - 8, by omega, by omega, ?_⟩
      have e3 : UInt8.ofNat (Y % 65536 / 2 ^ (h + 6 - 8)) = UInt8.ofNat (X / 2 ^ (6 * m - 8 * (k + 1)) % 256) := by
        apply UInt8.toNat_inj.1
        rw [UInt8.toNat_ofNat', UInt8.toNat_ofNat', show (2 : Nat) ^ 8 = 256 from rfl, byte16 _ _ (by omega), Nat.mod_mod, ← hY, Nat.div_div_eq_div_mul, ← Nat.pow_add, show 6 * m - 6 * (j + 1) + (h + 6 - 8) = 6 * m - 8 * (k + 1) by omega]
      rw [e3, bytesB_succ]
    · rw [if_neg h8]
      exact ⟨k, h + 6, by omega, by omega, rfl⟩
theorem ofbe_lt : ∀ l : List UInt8, ofbe l < 2 ^ (8 * l.length) := by
  have H : ∀ n (l : List UInt8), l.length = n → ofbe l < 2 ^ (8 * l.length) := by
    intro n
    induction n with
    | zero => intro l hl; rw [List.eq_nil_of_length_eq_zero hl]; decide
    | succ n ih =>
      intro l hl
      have h1 := ofbe_take l n (by omega)
      rw [show n + 1 = l.length from hl.symm, List.take_length] at h1
      have h2 := ih (l.take n) (by simp; omega)
      have hlt : (l.take n).length = n := by simp; omega
      rw [hlt] at h2
      have hb := (l.getD n 0).toNat_lt
      rw [h1, hl, show 8 * (n + 1) = 8 * n + 8 by omega, Nat.pow_add]
      omega
  exact fun l => H _ l rfl
theorem ofbe_byte (l : List UInt8) : ∀ n i, i < n → n ≤ l.length → ofbe (l.take n) / 2 ^ (8 * n - 8 * (i + 1)) % 256 = (l.getD i 0).toNat
  | n + 1, i, hi, hn => by
    have hb := (l.getD n 0).toNat_lt
    rw [ofbe_take l n (by omega)]
    by_cases he : i = n
    · subst he
      rw [Nat.sub_self, Nat.pow_zero, Nat.div_one]
      omega
    · rw [show 8 * (n + 1) - 8 * (i + 1) = 8 + (8 * n - 8 * (i + 1)) by omega, Nat.pow_add, ← Nat.div_div_eq_div_mul, show (ofbe (l.take n) * 256 + (l.getD n 0).toNat) / 2 ^ 8 = ofbe (l.take n) by omega]
      exact ofbe_byte l n i (by omega) (by omega)
theorem body_back (l : List UInt8) : (rdBits t64L 6 (body64 l)).2.2 = l := by
  have hm : 8 * l.length ≤ 6 * m64 l.length ∧ 6 * m64 l.length < 8 * l.length + 6 := by unfold m64; omega
  obtain ⟨p, hp⟩ : ∃ p, 6 * m64 l.length - 8 * l.length = p := ⟨_, rfl⟩
  have hX : ofbe l * 2 ^ p < 2 ^ (6 * m64 l.length) := by
    rw [show 6 * m64 l.length = 8 * l.length + p by omega, Nat.pow_add]
    exact Nat.mul_lt_mul_of_pos_right (ofbe_lt l) (Nat.pow_pos (by omega))
  obtain ⟨k, h, hk, hh, he⟩ := rd_b64 _ (m64 l.length) (m64 l.length) (Nat.le_refl _) hX
  rw [body_eq, hp, he]
  have hkl : k = l.length := by omega
  show bytesB _ _ k = l
  rw [hkl]
  apply List.ext_getElem (by simp [bytesB])
  intro i h1 h2
  simp only [bytesB, List.getElem_map, List.getElem_range]
  have hb := ofbe_byte l l.length i h2 (Nat.le_refl _)
  rw [List.take_length] at hb
  rw [show 6 * m64 l.length - 8 * (i + 1) = p + (8 * l.length - 8 * (i + 1)) by omega, Nat.pow_add, ← Nat.div_div_eq_div_mul, Nat.mul_div_cancel _ (Nat.pow_pos (by omega)), hb]
  simp [h2]
theorem let64_ne (X b m : Nat) : ∀ c ∈ let64 X b m, c ≠ 61 ∧ 0 ≤ Lib.indexByte t64L c := by
  intro c hc
  unfold let64 at hc
  obtain ⟨j, _, rfl⟩ := List.mem_map.1 hc
  have h := Nat.mod_lt (X / 2 ^ (b - 6 * (j + 1))) (show 64 > 0 by omega)
  exact ⟨t64L_ne h, by rw [idx_t64L' h]; omega⟩
theorem body_ne (l : List UInt8) : ∀ c ∈ body64 l, c ≠ 61 ∧ 0 ≤ Lib.indexByte t64L c := by
  rw [body_eq]
  exact let64_ne _ _ _
theorem trimN_rep (c : UInt8) (l : List UInt8) : ∀ n, trimN c (l ++ List.replicate n c) = trimN c l
  | 0 => by simp
  | n + 1 => by rw [List.replicate_succ', ← List.append_assoc, trimN_snoc_eq, trimN_rep c l n]
theorem trimN_none (c : UInt8) (l : List UInt8) (h : ∀ d ∈ l, d ≠ c) : trimN c l = l := by
  rcases List.eq_nil_or_concat l with rfl | ⟨p, d, rfl⟩
  · rfl
  · rw [List.concat_eq_append] at *
    exact trimN_snoc_ne c d p (h d (by simp))
theorem trim_b64 (l : List UInt8) : trimN 61 (b64N l) = body64 l := by
  unfold b64N
  rw [trimN_rep, trimN_none 61 _ (fun d hd => (body_ne l d hd).1)]
/-- 64 letters are read back. -/
theorem getb64_back (l : List UInt8) : getB64N (b64N l) = (l, true) := by
  unfold getB64N
  rw [trim_b64, body_back, if_pos ⟨fun c hc => (body_ne l c hc).2, rfl⟩]
/-- What is said by letters is just what they say. -/
theorem getb64_only (l : List UInt8) (h : (getB64N l).2 = true) : l = b64N (getB64N l).1 := by
  unfold getB64N at *
  split at h
  · rename_i hh
    rw [if_pos hh, hh.2]
  · cases h
end Go.Proofs.YtalanaongfnndaaDoor
