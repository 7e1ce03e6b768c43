/- The tied card of CodecAll: it returns true for every input: the letters of bytes, what letters say, bytes folded, are the document's. -/
import Derived.Test.YtalanaongfnndaaDoorGet4
import Derived.Test.YtalanaongfnndaaDoorGet5
import Derived.Test.YtalanaongfnndaaDoorGet6
import Derived.Test.YtalanaongfnndaaDoorG3
import Derived.Test.YtalanaongfnndaaDoorG4
import Derived.Test.YtalanaongfnndaaDoorG5
import Derived.Test.YtalanaongfnndaaDoorG6
import Derived.Test.YtalanaongfnndaaDoorG7
import Derived.Test.YtalanaongfnndaaDoorG8
import Derived.Test.YtalanaongfnndaaDoorLaidW
import Derived.ShutString
import Derived.ChangeOld
import Derived.Below
import Derived.SizedLaws
/- No program in it: sixteen letters are read back. -/
namespace Go.Proofs.YtalanaongfnndaaDoor
open Go.RowKit Go.Shelf

theorem idx_hexL : ∀ i : Fin 16, Lib.indexByte hexL (hexL.getD i.1 0) = (i.1 : Int) := by decide +kernel
theorem idx_hexL' {i : Nat} (h : i < 16) : Lib.indexByte hexL (hexL.getD i 0) = (i : Int) := idx_hexL ⟨i, h⟩
theorem or_low (x y b : Nat) (h : y < 2 ^ b) : (x * 2 ^ b ||| y) = x * 2 ^ b + y := by
  rw [Nat.mul_comm, ← Nat.two_pow_add_eq_or_of_lt h]
theorem hexN_snoc (o : List UInt8) (c : UInt8) : hexN (o ++ [c]) = hexN o ++ [hexL.getD (c.toNat / 16) 0, hexL.getD (c.toNat % 16) 0] := by
  unfold hexN
  rw [List.flatMap_append]
  rfl
theorem rd_hex (o : List UInt8) : ∃ n, n < 65536 ∧ rdBits hexL 4 (hexN o) = (n, 0, o) := by
  have H : ∀ n (o : List UInt8), o.length = n → ∃ n, n < 65536 ∧ rdBits hexL 4 (hexN o) = (n, 0, o) := by
    intro n
    induction n with
    | zero => intro o ho; rw [List.eq_nil_of_length_eq_zero ho]; exact ⟨0, by omega, rfl⟩
    | succ n ih =>
      intro o ho
      have hne : o ≠ [] := by rintro rfl; simp at ho
      rw [← List.dropLast_concat_getLast hne]
      obtain ⟨a, ha, he⟩ := ih o.dropLast (by simp [ho])
      generalize o.getLast hne = c at *
      generalize o.dropLast = p at *
      have hc := c.toNat_lt
      rw [hexN_snoc, show hexN p ++ [hexL.getD (c.toNat / 16) 0, hexL.getD (c.toNat % 16) 0] = (hexN p ++ [hexL.getD (c.toNat / 16) 0]) ++ [hexL.getD (c.toNat % 16) 0] by simp, rd_snoc, rd_snoc, he]
      have s1 : rdStep hexL 4 (a, 0, p) (hexL.getD (c.toNat / 16) 0) = ((a * 2 ^ 4 ||| c.toNat / 16) % 65536, 4, p) := by
        unfold rdStep
        rw [idx_hexL' (show c.toNat / 16 < 16 by omega)]
        rfl
      have s2 : ∀ b, rdStep hexL 4 (b, 4, p) (hexL.getD (c.toNat % 16) 0) = ((b * 2 ^ 4 ||| c.toNat % 16) % 65536, 0, p ++ [UInt8.ofNat ((b * 2 ^ 4 ||| c.toNat % 16) % 65536 / 2 ^ 0)]) := fun b => by
        unfold rdStep
        rw [idx_hexL' (show c.toNat % 16 < 16 by omega)]
        rfl
      rw [s1, s2, or_low _ _ 4 (by omega), or_low _ _ 4 (by omega), Nat.pow_zero, Nat.div_one]
      refine ⟨((a * 2 ^ 4 + c.toNat / 16) % 65536 * 2 ^ 4 + c.toNat % 16) % 65536, Nat.mod_lt _ (by omega), ?_⟩
      congr 3
      congr 1
      apply UInt8.toNat_inj.1
      rw [UInt8.toNat_ofNat']
      omega
  exact H _ o rfl
theorem hex_letters (o : List UInt8) : ∀ c ∈ hexN o, 0 ≤ Lib.indexByte hexL c := by
  intro c hc
  obtain ⟨d, _, hd⟩ := List.mem_flatMap.1 hc
  have hl := d.toNat_lt
  simp only [List.mem_cons, List.not_mem_nil, or_false] at hd
  rcases hd with rfl | rfl
  · rw [idx_hexL' (by omega)]; omega
  · rw [idx_hexL' (by omega)]; omega
/-- Sixteen letters are read back. -/
theorem gethex_back (o : List UInt8) : getHexN (hexN o) = (o, true) := by
  obtain ⟨n, _, he⟩ := rd_hex o
  unfold getHexN
  rw [he, if_pos ⟨hex_letters o, rfl⟩]
/-- What is said by letters is just what they say. -/
theorem gethex_only (l : List UInt8) (h : (getHexN l).2 = true) : l = hexN (getHexN l).1 := by
  unfold getHexN at *
  split at h
  · rename_i hh
    rw [if_pos hh, hh.2]
  · cases h
end Go.Proofs.YtalanaongfnndaaDoor
/- No program in it: 32 letters are read back. -/
namespace Go.Proofs.YtalanaongfnndaaDoor
open Go.RowKit Go.Shelf

theorem idx_t32L : ∀ i : Fin 32, Lib.indexByte t32L (t32L.getD i.1 0) = (i.1 : Int) := by decide +kernel
theorem idx_t32L' {i : Nat} (h : i < 32) : Lib.indexByte t32L (t32L.getD i 0) = (i : Int) := idx_t32L ⟨i, h⟩
/-- The lowest k bytes of a number. -/
def bytesN (N k : Nat) : List UInt8 := (List.range k).map fun i => UInt8.ofNat (N / 2 ^ (8 * i) % 256)
theorem bytesN_succ (N k : Nat) : bytesN N (k + 1) = bytesN N k ++ [UInt8.ofNat (N / 2 ^ (8 * k) % 256)] := by simp [bytesN, List.range_succ]
theorem bytesN_ofle : ∀ o : List UInt8, bytesN (ofle o) o.length = o := by
  intro o
  apply List.ext_getElem (by simp [bytesN])
  intro i h1 h2
  simp only [bytesN, List.getElem_map, List.getElem_range]
  have key : ∀ (o : List UInt8) (i : Nat) (h : i < o.length), ofle o / 2 ^ (8 * i) % 256 = o[i].toNat := by
    intro o
    induction o with
    | nil => intro i h; simp at h
    | cons b l ih =>
      intro i h
      have hb := b.toNat_lt
      cases i with
      | zero => simp [ofle]
      | succ i =>
        rw [show 8 * (i + 1) = 8 + 8 * i by omega, Nat.pow_add, ← Nat.div_div_eq_div_mul, show ofle (b :: l) / 2 ^ 8 = ofle l by simp [ofle]; omega]
        exact ih i (by simpa using h)
  rw [key o i h2]
  simp
theorem rd_b32 (N : Nat) : ∀ j, ∃ k h, 5 * j = 8 * k + h ∧ h < 8 ∧ rd32 (let32 N j) = (N / 2 ^ (8 * k) % 2 ^ h, h, bytesN N k)
  | 0 => ⟨0, 0, rfl, by omega, by simp [let32, rd32, bytesN, Nat.mod_one]⟩
  | j + 1 => by
    obtain ⟨k, h, hj, hh, he⟩ := rd_b32 N j
    have hd : N / 2 ^ (5 * j) % 32 < 32 := Nat.mod_lt _ (by omega)
    have hx : N / 2 ^ (5 * j) = N / 2 ^ (8 * k) / 2 ^ h := by rw [hj, Nat.pow_add, Nat.div_div_eq_div_mul]
    have hn : ((N / 2 ^ (8 * k) % 2 ^ h) ||| (N / 2 ^ (5 * j) % 32) * 2 ^ h) = N / 2 ^ (8 * k) % 2 ^ (h + 5) := by
      have hlt : N / 2 ^ (8 * k) % 2 ^ h < 2 ^ h := Nat.mod_lt _ (Nat.pow_pos (by omega))
      rw [Nat.or_comm, Nat.mul_comm (N / 2 ^ (5 * j) % 32) (2 ^ h), ← Nat.two_pow_add_eq_or_of_lt hlt, hx, Nat.pow_add 2 h 5, Nat.mod_mul, show (2 : Nat) ^ 5 = 32 from rfl]
      omega
    rw [let32_succ, rd32_snoc, he]
    have hs : rdStep32 (N / 2 ^ (8 * k) % 2 ^ h, h, bytesN N k) (t32L.getD (N / 2 ^ (5 * j) % 32) 0) =
        if 8 ≤ h + 5 then (N / 2 ^ (8 * k) % 2 ^ (h + 5) / 256, h + 5 - 8, bytesN N k ++ [UInt8.ofNat (N / 2 ^ (8 * k) % 2 ^ (h + 5))]) else (N / 2 ^ (8 * k) % 2 ^ (h + 5), h + 5, bytesN N k) := by
      unfold rdStep32
      rw [idx_t32L' hd]
      simp only [Int.toNat_natCast, hn]
    rw [hs]
    by_cases h8 : 8 ≤ h + 5
    · rw [if_pos h8]
      refine ⟨k + 1, h + 5 - 8, by omega, by omega, ?_⟩
      have e1 : (2 : Nat) ^ (h + 5) = 2 ^ 8 * 2 ^ (h + 5 - 8) := by rw [← Nat.pow_add]; congr 1; omega
      have e2 : N / 2 ^ (8 * k) % 2 ^ (h + 5) / 256 = N / 2 ^ (8 * (k + 1)) % 2 ^ (h + 5 - 8) := by
        rw [e1, show (256 : Nat) = 2 ^ 8 from rfl, Nat.mod_mul_right_div_self, show 8 * (k + 1) = 8 * k + 8 by omega, Nat.pow_add 2 (8 * k) 8, Nat.div_div_eq_div_mul]
      have e3 : UInt8.ofNat (N / 2 ^ (8 * k) % 2 ^ (h + 5)) = UInt8.ofNat (N / 2 ^ (8 * k) % 256) := by
        apply UInt8.toNat_inj.1
        rw [UInt8.toNat_ofNat', UInt8.toNat_ofNat', e1, show (2 : Nat) ^ 8 = 256 from rfl, Nat.mod_mul_right_mod]
        omega
      rw [e2, e3, bytesN_succ]
    · rw [if_neg h8]
      exact ⟨k, h + 5, by omega, by omega, rfl⟩
theorem b32_letters (o : List UInt8) : ∀ c ∈ b32N o, 0 ≤ Lib.indexByte t32L c := by
  intro c hc
  unfold b32N let32 at hc
  obtain ⟨j, _, rfl⟩ := List.mem_map.1 (List.mem_reverse.1 hc)
  rw [idx_t32L' (Nat.mod_lt _ (by omega))]
  omega
/-- 32 letters are read back. -/
theorem getb32_back (o : List UInt8) (ho : o.length ≤ 64) : getB32N (b32N o) (o.length : Int) = (o, true) := by
  obtain ⟨k, h, hj, hh, he⟩ := rd_b32 (ofle o) ((8 * o.length + 4) / 5)
  have hk : k = o.length := by omega
  have hr : rd32 (b32N o).reverse = (ofle o / 2 ^ (8 * k) % 2 ^ h, h, bytesN (ofle o) k) := by
    unfold b32N
    rw [List.reverse_reverse]
    exact he
  have h3 : (rd32 (b32N o).reverse).2.2 = o := by rw [hr, hk]; exact bytesN_ofle o
  unfold getB32N
  rw [h3, if_pos ⟨by omega, by omega, b32_letters o, rfl, rfl⟩]
/-- What is said by letters is just what they say. -/
theorem getb32_only (l : List UInt8) (n : Int) (h : (getB32N l n).2 = true) : l = b32N (getB32N l n).1 ∧ ((getB32N l n).1.length : Int) = n ∧ 0 ≤ n ∧ n ≤ 64 := by
  unfold getB32N at *
  split at h
  · rename_i hh
    rw [if_pos hh]
    exact ⟨hh.2.2.2.2.symm, hh.2.2.2.1, hh.1, hh.2.1⟩
  · cases h
end Go.Proofs.YtalanaongfnndaaDoor
/- No program in it: 64 letters are read back. -/
namespace Go.Proofs.YtalanaongfnndaaDoor
open Go.RowKit Go.Shelf

theorem idx_t64L : ∀ i : Fin 64, Lib.indexByte t64L (t64L.getD i.1 0) = (i.1 : Int) ∧ t64L.getD i.1 0 ≠ 61 := by decide +kernel
theorem idx_t64L' {i : Nat} (h : i < 64) : Lib.indexByte t64L (t64L.getD i 0) = (i : Int) := (idx_t64L ⟨i, h⟩).1
theorem t64L_ne {i : Nat} (h : i < 64) : t64L.getD i 0 ≠ 61 := (idx_t64L ⟨i, h⟩).2
/-- How many letters; how many bits are filled in. -/
def m64 (L : Nat) : Nat := (8 * L + 5) / 6
theorem body_eq (l : List UInt8) : body64 l = let64 (ofbe l * 2 ^ (6 * m64 l.length - 8 * l.length)) (6 * m64 l.length) (m64 l.length) := by
  unfold body64 m64
  by_cases hr : 0 < 8 * l.length % 6
  · rw [if_pos hr, show (8 * l.length + 5) / 6 = 8 * l.length / 6 + 1 by omega, let64_succ, show 6 * (8 * l.length / 6 + 1) - 8 * l.length = 6 - 8 * l.length % 6 by omega, Nat.sub_self, Nat.pow_zero, Nat.div_one]
    congr 1
    unfold let64
    apply List.map_congr_left
    intro j hj
    have hj' := List.mem_range.1 hj
    rw [show 6 * (8 * l.length / 6 + 1) - 6 * (j + 1) = (6 - 8 * l.length % 6) + (8 * l.length - 6 * (j + 1)) by omega, Nat.pow_add, ← Nat.div_div_eq_div_mul, Nat.mul_div_cancel _ (Nat.pow_pos (by omega))]
  · rw [if_neg hr, List.append_nil, show (8 * l.length + 5) / 6 = 8 * l.length / 6 by omega, show 6 * (8 * l.length / 6) - 8 * l.length = 0 by omega, Nat.pow_zero, Nat.mul_one, show 6 * (8 * l.length / 6) = 8 * l.length by omega]
/-- The highest k bytes of a number of b bits. -/
def bytesB (X b k : Nat) : List UInt8 := (List.range k).map fun i => UInt8.ofNat (X / 2 ^ (b - 8 * (i + 1)) % 256)
theorem bytesB_succ (X b k : Nat) : bytesB X b (k + 1) = bytesB X b k ++ [UInt8.ofNat (X / 2 ^ (b - 8 * (k + 1)) % 256)] := by simp [bytesB, List.range_succ]
theorem byte16 (V g : Nat) (hg : g < 8) : V % 65536 / 2 ^ g % 256 = V / 2 ^ g % 256 := by
  match g, hg with
  | 0, _ | 1, _ | 2, _ | 3, _ | 4, _ | 5, _ | 6, _ | 7, _ => omega
theorem rd_b64 (X m : Nat) : ∀ j, j ≤ m → X < 2 ^ (6 * m) → ∃ k h, 6 * j = 8 * k + h ∧ h < 8 ∧ rdBits t64L 6 (let64 X (6 * m) j) = (X / 2 ^ (6 * m - 6 * j) % 65536, h, bytesB X (6 * m) k)
  | 0, _, hX => ⟨0, 0, rfl, by omega, by
    rw [Nat.mul_zero, Nat.sub_zero, Nat.div_eq_of_lt hX]
    rfl⟩
  | j + 1, hj, hX => by
    obtain ⟨k, h, hk, hh, he⟩ := rd_b64 X m j (by omega) hX
    obtain ⟨Y, hY⟩ : ∃ Y, X / 2 ^ (6 * m - 6 * (j + 1)) = Y := ⟨_, rfl⟩
    have hY6 : X / 2 ^ (6 * m - 6 * j) = Y / 64 := by
      rw [← hY, show 6 * m - 6 * j = (6 * m - 6 * (j + 1)) + 6 by omega, Nat.pow_add, Nat.div_div_eq_div_mul]
    have hn : ((Y / 64 % 65536 * 2 ^ 6 ||| Y % 64) % 65536) = Y % 65536 := by
      rw [or_low _ _ 6 (Nat.mod_lt _ (by omega))]
      omega
    rw [let64_succ, rd_snoc, he, hY6, hY]
    have hs : rdStep t64L 6 (Y / 64 % 65536, h, bytesB X (6 * m) k) (t64L.getD (Y % 64) 0) =
        if 8 ≤ h + 6 then (Y % 65536, h + 6 - 8, bytesB X (6 * m) k ++ [UInt8.ofNat (Y % 65536 / 2 ^ (h + 6 - 8))]) else (Y % 65536, h + 6, bytesB X (6 * m) k) := by
      unfold rdStep
      rw [idx_t64L' (Nat.mod_lt _ (by omega))]
      simp only [Int.toNat_natCast, hn]
    rw [hs]
    by_cases h8 : 8 ≤ h + 6
    · rw [if_pos h8]
      refine ⟨k + 1, h + 6 - 8, by omega, by omega, ?_⟩
      have e3 : UInt8.ofNat (Y % 65536 / 2 ^ (h + 6 - 8)) = UInt8.ofNat (X / 2 ^ (6 * m - 8 * (k + 1)) % 256) := by
        apply UInt8.toNat_inj.1
        rw [UInt8.toNat_ofNat', UInt8.toNat_ofNat', show (2 : Nat) ^ 8 = 256 from rfl, byte16 _ _ (by omega), Nat.mod_mod, ← hY, Nat.div_div_eq_div_mul, ← Nat.pow_add, show 6 * m - 6 * (j + 1) + (h + 6 - 8) = 6 * m - 8 * (k + 1) by omega]
      rw [e3, bytesB_succ]
    · rw [if_neg h8]
      exact ⟨k, h + 6, by omega, by omega, rfl⟩
theorem ofbe_lt : ∀ l : List UInt8, ofbe l < 2 ^ (8 * l.length) := by
  have H : ∀ n (l : List UInt8), l.length = n → ofbe l < 2 ^ (8 * l.length) := by
    intro n
    induction n with
    | zero => intro l hl; rw [List.eq_nil_of_length_eq_zero hl]; decide
    | succ n ih =>
      intro l hl
      have h1 := ofbe_take l n (by omega)
      rw [show n + 1 = l.length from hl.symm, List.take_length] at h1
      have h2 := ih (l.take n) (by simp; omega)
      have hlt : (l.take n).length = n := by simp; omega
      rw [hlt] at h2
      have hb := (l.getD n 0).toNat_lt
      rw [h1, hl, show 8 * (n + 1) = 8 * n + 8 by omega, Nat.pow_add]
      omega
  exact fun l => H _ l rfl
theorem ofbe_byte (l : List UInt8) : ∀ n i, i < n → n ≤ l.length → ofbe (l.take n) / 2 ^ (8 * n - 8 * (i + 1)) % 256 = (l.getD i 0).toNat
  | n + 1, i, hi, hn => by
    have hb := (l.getD n 0).toNat_lt
    rw [ofbe_take l n (by omega)]
    by_cases he : i = n
    · subst he
      rw [Nat.sub_self, Nat.pow_zero, Nat.div_one]
      omega
    · rw [show 8 * (n + 1) - 8 * (i + 1) = 8 + (8 * n - 8 * (i + 1)) by omega, Nat.pow_add, ← Nat.div_div_eq_div_mul, show (ofbe (l.take n) * 256 + (l.getD n 0).toNat) / 2 ^ 8 = ofbe (l.take n) by omega]
      exact ofbe_byte l n i (by omega) (by omega)
theorem body_back (l : List UInt8) : (rdBits t64L 6 (body64 l)).2.2 = l := by
  have hm : 8 * l.length ≤ 6 * m64 l.length ∧ 6 * m64 l.length < 8 * l.length + 6 := by unfold m64; omega
  obtain ⟨p, hp⟩ : ∃ p, 6 * m64 l.length - 8 * l.length = p := ⟨_, rfl⟩
  have hX : ofbe l * 2 ^ p < 2 ^ (6 * m64 l.length) := by
    rw [show 6 * m64 l.length = 8 * l.length + p by omega, Nat.pow_add]
    exact Nat.mul_lt_mul_of_pos_right (ofbe_lt l) (Nat.pow_pos (by omega))
  obtain ⟨k, h, hk, hh, he⟩ := rd_b64 _ (m64 l.length) (m64 l.length) (Nat.le_refl _) hX
  rw [body_eq, hp, he]
  have hkl : k = l.length := by omega
  show bytesB _ _ k = l
  rw [hkl]
  apply List.ext_getElem (by simp [bytesB])
  intro i h1 h2
  simp only [bytesB, List.getElem_map, List.getElem_range]
  have hb := ofbe_byte l l.length i h2 (Nat.le_refl _)
  rw [List.take_length] at hb
  rw [show 6 * m64 l.length - 8 * (i + 1) = p + (8 * l.length - 8 * (i + 1)) by omega, Nat.pow_add, ← Nat.div_div_eq_div_mul, Nat.mul_div_cancel _ (Nat.pow_pos (by omega)), hb]
  simp [h2]
theorem let64_ne (X b m : Nat) : ∀ c ∈ let64 X b m, c ≠ 61 ∧ 0 ≤ Lib.indexByte t64L c := by
  intro c hc
  unfold let64 at hc
  obtain ⟨j, _, rfl⟩ := List.mem_map.1 hc
  have h := Nat.mod_lt (X / 2 ^ (b - 6 * (j + 1))) (show 64 > 0 by omega)
  exact ⟨t64L_ne h, by rw [idx_t64L' h]; omega⟩
theorem body_ne (l : List UInt8) : ∀ c ∈ body64 l, c ≠ 61 ∧ 0 ≤ Lib.indexByte t64L c := by
  rw [body_eq]
  exact let64_ne _ _ _
theorem trimN_rep (c : UInt8) (l : List UInt8) : ∀ n, trimN c (l ++ List.replicate n c) = trimN c l
  | 0 => by simp
  | n + 1 => by rw [List.replicate_succ', ← List.append_assoc, trimN_snoc_eq, trimN_rep c l n]
theorem trimN_none (c : UInt8) (l : List UInt8) (h : ∀ d ∈ l, d ≠ c) : trimN c l = l := by
  rcases List.eq_nil_or_concat l with rfl | ⟨p, d, rfl⟩
  · rfl
  · rw [List.concat_eq_append] at *
    exact trimN_snoc_ne c d p (h d (by simp))
theorem trim_b64 (l : List UInt8) : trimN 61 (b64N l) = body64 l := by
  unfold b64N
  rw [trimN_rep, trimN_none 61 _ (fun d hd => (body_ne l d hd).1)]
/-- 64 letters are read back. -/
theorem getb64_back (l : List UInt8) : getB64N (b64N l) = (l, true) := by
  unfold getB64N
  rw [trim_b64, body_back, if_pos ⟨fun c hc => (body_ne l c hc).2, rfl⟩]
/-- What is said by letters is just what they say. -/
theorem getb64_only (l : List UInt8) (h : (getB64N l).2 = true) : l = b64N (getB64N l).1 := by
  unfold getB64N at *
  split at h
  · rename_i hh
    rw [if_pos hh, hh.2]
  · cases h
end Go.Proofs.YtalanaongfnndaaDoor
/- The reference's letters, over bytes alone: sixteen letters. -/
namespace Go.Proofs.YtalanaongfnndaaDoor.Pure
open Go.RowKit Go.Proofs.YtalanaongfnndaaDoor Go.Proofs.YtalanaongfnndaaDoor.G Go.Proofs.YtalanaongfnndaaDoorW.PrintWords Go.Proofs.YtalanaongfnndaaDoorW.PrintLast

theorem ba_size (l : List UInt8) : (ba l).size = l.length := rfl
theorem ba_toList (l : List UInt8) : (ba l).toList = l := by rw [ByteArray.toList_eq]; rfl
theorem bt_ba (l : List UInt8) (i : Nat) (h : i < l.length) : bt (ba l) (i : Int) = ((l.getD i 0).toNat : Int) := by
  unfold bt
  rw [dif_pos (show ((i : Int)).toNat < (ba l).size from h)]
  simp [h]
  rfl
/-- Bytes as numbers. -/
def nums (l : List UInt8) : List Int := l.map fun b => (b.toNat : Int)
theorem nums_length (l : List UInt8) : (nums l).length = l.length := by simp [nums]
theorem nums_append (l m : List UInt8) : nums (l ++ m) = nums l ++ nums m := by simp [nums]
theorem rd_nums (l : List UInt8) (i : Nat) (h : i < l.length) : rd (nums l) (i : Int) = ((l.getD i 0).toNat : Int) := by
  unfold rd nums
  simp [h]
theorem nums_set (l : List UInt8) (i : Nat) (c : UInt8) : (nums l).set i ((c.toNat : Nat) : Int) = nums (l.set i c) := by
  unfold nums
  rw [List.map_set]
theorem str_nums (l : List UInt8) : strOfNums (nums l) = ba l := by
  unfold strOfNums nums ba
  simp only [List.map_map]
  rw [(List.map_congr_left (g := id) (fun b _ => by simp)).trans (List.map_id l)]
theorem and15_u8 (b : Nat) (hb : b < 256) : Go.bits .and .u8 (b : Int) 15 = ((b % 16 : Nat) : Int) := by
  have := u8_and15 (x := (b : Int)) (by omega) (by omega)
  rw [this]
  omega
theorem rhex_loop (l : List UInt8) (hl : l.length ≤ 1000000) : ∀ d k, k + d = l.length → ∀ f, d < f → shelfmarkref1_Hex.l0 f (ba l) (ba hexL) (nums (hexN (l.take k))) (k : Int) = some (ba (hexN l))
  | 0, k, hk, f + 1, _ => by
    simp only [shelfmarkref1_Hex.l0]
    rw [if_neg (by rw [ba_size]; omega), str_nums, List.take_of_length_le (by omega)]
  | d + 1, k, hk, f + 1, hf => by
    have hlt : k < l.length := by omega
    have hb := bt_ba l k hlt
    obtain ⟨b, hbe⟩ : ∃ b, l.getD k 0 = b := ⟨_, rfl⟩
    have hb256 := b.toNat_lt
    have hs := hexN_succ l k hlt
    rw [hbe] at hb hs
    simp only [shelfmarkref1_Hex.l0]
    have hh : (ba hexL).size = 16 := rfl
    have hd : ((b.toNat : Nat) : Int) / 16 = ((b.toNat / 16 : Nat) : Int) := by omega
    have hlen := hexN_length (l.take k)
    have hlt2 : (l.take k).length ≤ 1000000 := by simp; omega
    rw [if_pos (by rw [ba_size]; omega), if_pos (by omega), hb, hd, and15_u8 _ hb256, hh, if_pos (by omega), if_pos (by omega), if_pos (by omega), if_pos (by omega)]
    simp only [Option.bind_some]
    rw [bt_ba hexL (b.toNat / 16) (by simp [hexL]; omega), bt_ba hexL (b.toNat % 16) (by simp [hexL]; omega), if_pos (by rw [nums_length]; simp; omega), show wrap64 ((k : Int) + 1) = ((k + 1 : Nat) : Int) by unfold wrap64; omega]
    have e : nums (hexN (l.take k)) ++ [((hexL.getD (b.toNat / 16) 0).toNat : Int), ((hexL.getD (b.toNat % 16) 0).toNat : Int)] = nums (hexN (l.take (k + 1))) := by
      rw [hs, nums_append]
      rfl
    rw [e]
    exact rhex_loop l hl d (k + 1) (by omega) f (by omega)
theorem rhex (l : List UInt8) (hl : l.length ≤ 1000000) (f : Nat) (hf : l.length < f) : shelfmarkref1_Hex.f f (ba l) = some (ba (hexN l)) :=
  rhex_loop l hl l.length 0 (by omega) f hf
theorem rplace_loop (t : List UInt8) (ht : t.length ≤ 1000) (c : UInt8) : ∀ d k, k + d = t.length → ∀ f, d < f → shelfmarkref1_place.l0 f (ba t) ((c.toNat : Nat) : Int) (k : Int) = some (if Lib.indexByte (t.drop k) c = -1 then -1 else (k : Int) + Lib.indexByte (t.drop k) c)
  | 0, k, hk, f + 1, _ => by
    simp only [shelfmarkref1_place.l0]
    rw [if_neg (by rw [ba_size]; omega), List.drop_of_length_le (by omega)]
    rfl
  | d + 1, k, hk, f + 1, hf => by
    have hlt : k < t.length := by omega
    simp only [shelfmarkref1_place.l0]
    rw [if_pos (by rw [ba_size]; omega), if_pos (by omega), bt_ba t k hlt, List.drop_eq_getElem_cons hlt]
    have hg : t.getD k 0 = t[k] := by simp [hlt]
    rw [hg]
    unfold Lib.indexByte
    by_cases he : t[k] = c
    · rw [he, if_pos rfl]
      simp
    · have hne : ((t[k].toNat : Nat) : Int) ≠ ((c.toNat : Nat) : Int) := fun h => he (UInt8.toNat_inj.1 (Int.ofNat.inj h))
      have hb : (t[k] == c) = false := by simp [he]
      have hge := Lib.indexByte_ge (t.drop (k + 1)) c
      rw [if_neg hne, show wrap64 ((k : Int) + 1) = ((k + 1 : Nat) : Int) by unfold wrap64; omega, rplace_loop t ht c d (k + 1) (by omega) f (by omega), hb]
      generalize Lib.indexByte (t.drop (k + 1)) c = z at *
      by_cases hz : z = -1
      · simp [hz]
      · have hz2 : (z == -1) = false := by simp [hz]
        have hz3 : z + 1 ≠ -1 := by omega
        simp only [hz2, Bool.false_eq_true, if_false, if_neg hz, if_neg hz3, Option.some.injEq]
        omega
theorem rplace (t : List UInt8) (ht : t.length ≤ 1000) (c : UInt8) (f : Nat) (hf : t.length < f) : shelfmarkref1_place.f f (ba t) ((c.toNat : Nat) : Int) = some (Lib.indexByte t c) := by
  have h := rplace_loop t ht c t.length 0 (by omega) f hf
  rw [List.drop_zero] at h
  unfold shelfmarkref1_place.f
  rw [show (0 : Int) = ((0 : Nat) : Int) from rfl, h]
  by_cases hz : Lib.indexByte t c = -1
  · rw [hz]; rfl
  · rw [if_neg hz]; simp
end Go.Proofs.YtalanaongfnndaaDoor.Pure
/- The reference's reading of sixteen letters, over bytes alone. -/
namespace Go.Proofs.YtalanaongfnndaaDoor.Pure
open Go.RowKit Go.Proofs.YtalanaongfnndaaDoor Go.Proofs.YtalanaongfnndaaDoor.G Go.Proofs.YtalanaongfnndaaDoorW.PrintWords Go.Proofs.YtalanaongfnndaaDoorW.PrintLast

/-- Two letters as a byte, whatever they are. -/
def decB (a b : UInt8) : UInt8 := UInt8.ofNat ((Go.bits .or .i64 (wrap64 (Lib.indexByte hexL a * 16)) (Go.bits .and .i64 (Lib.indexByte hexL b) 15)) % 256).toNat
def decHex : List UInt8 → List UInt8
  | a :: b :: l => decB a b :: decHex l
  | _ => []
theorem decHex_length : ∀ l, (decHex l).length ≤ l.length
  | [] => by simp [decHex]
  | [_] => by simp [decHex]
  | a :: b :: l => by have := decHex_length l; simp [decHex]; omega
theorem decB_back : ∀ c : Fin 256, decB (hexL.getD (c.1 / 16) 0) (hexL.getD (c.1 % 16) 0) = UInt8.ofNat c.1 := by decide +kernel
theorem decHex_back : ∀ o : List UInt8, decHex (hexN o) = o
  | [] => rfl
  | c :: o => by
    have h := decB_back ⟨c.toNat, c.toNat_lt⟩
    have : hexN (c :: o) = hexL.getD (c.toNat / 16) 0 :: hexL.getD (c.toNat % 16) 0 :: hexN o := rfl
    rw [this, decHex, decHex_back o, h]
    simp
theorem rgethex_loop (s : List UInt8) (hs : s.length ≤ 1000000) : ∀ (r : List UInt8) (i : Nat) (p : List UInt8) (f : Nat), s.drop i = r → i ≤ s.length → p.length ≤ i → r.length + s.length + 40 ≤ f →
    shelfmarkref1_GetHex.l0 f (ba s) (nums p) (i : Int) = some (if hexN (p ++ decHex r) = s then (ba (p ++ decHex r), true) else (ba [], false))
  | [], i, p, f + 1, hr, hi, hp, hf => by
    have hl : i = s.length := by have := congrArg List.length hr; simp at this; omega
    simp only [shelfmarkref1_GetHex.l0]
    rw [show wrap64 ((i : Int) + 1) = ((i + 1 : Nat) : Int) by unfold wrap64; omega, if_neg (by rw [ba_size]; omega), str_nums, rhex p (by omega) f (by simp at hf; omega)]
    simp only [Option.bind_some, decHex, List.append_nil, ba_toList]
    by_cases h : hexN p = s
    · rw [if_pos h, if_pos h]
    · rw [if_neg h, if_neg h]; rfl
  | [a], i, p, f + 1, hr, hi, hp, hf => by
    have hl : i + 1 = s.length := by have := congrArg List.length hr; simp at this; omega
    simp only [shelfmarkref1_GetHex.l0]
    rw [show wrap64 ((i : Int) + 1) = ((i + 1 : Nat) : Int) by unfold wrap64; omega, if_neg (by rw [ba_size]; omega), str_nums, rhex p (by omega) f (by simp at hf; omega)]
    simp only [Option.bind_some, decHex, List.append_nil, ba_toList]
    by_cases h : hexN p = s
    · rw [if_pos h, if_pos h]
    · rw [if_neg h, if_neg h]; rfl
  | a :: b :: r, i, p, f + 1, hr, hi, hp, hf => by
    have hl : i + 2 + r.length = s.length := by have := congrArg List.length hr; simp at this; omega
    have ha : s.getD i 0 = a := by
      have := congrArg (fun z => z[0]?) hr
      simp at this
      simp [this]
    have hb : s.getD (i + 1) 0 = b := by
      have := congrArg (fun z => z[1]?) hr
      simp at this
      simp [this]
    have hr2 : s.drop (i + 2) = r := by
      have := congrArg (List.drop 2) hr
      simpa [List.drop_drop] using this
    simp only [List.length_cons] at hf
    simp only [shelfmarkref1_GetHex.l0]
    rw [show wrap64 ((i : Int) + 1) = ((i + 1 : Nat) : Int) by unfold wrap64; omega, if_pos (by rw [ba_size]; omega), if_pos (by omega), if_pos (by rw [ba_size]; omega), bt_ba s i (by omega), bt_ba s (i + 1) (by omega), ha, hb,
      show (⟨#[48, 49, 50, 51, 52, 53, 54, 55, 56, 57, 97, 98, 99, 100, 101, 102]⟩ : ByteArray) = ba hexL from rfl, rplace hexL (by decide) a f (by simp [hexL]; omega)]
    simp only [Option.bind_some]
    rw [if_pos (by omega), rplace hexL (by decide) b f (by simp [hexL]; omega)]
    simp only [Option.bind_some]
    rw [if_pos (by rw [nums_length]; omega), show wrap64 ((i : Int) + 2) = ((i + 2 : Nat) : Int) by unfold wrap64; omega]
    have e : nums p ++ [Go.bits BinOp.or IntKind.i64 (wrap64 (Lib.indexByte hexL a * 16)) (Go.bits BinOp.and IntKind.i64 (Lib.indexByte hexL b) 15) % 256] = nums (p ++ [decB a b]) := by
      rw [nums_append]
      congr 1
      simp only [nums, List.map_cons, List.map_nil, decB]
      generalize Go.bits BinOp.or IntKind.i64 (wrap64 (Lib.indexByte hexL a * 16)) (Go.bits BinOp.and IntKind.i64 (Lib.indexByte hexL b) 15) = z
      congr 1
      rw [UInt8.toNat_ofNat']
      omega
    rw [e, rgethex_loop s hs r (i + 2) (p ++ [decB a b]) f hr2 (by omega) (by simp; omega) (by omega)]
    rw [show p ++ [decB a b] ++ decHex r = p ++ decHex (a :: b :: r) by simp [decHex]]
/-- The reference's reading is this program's. -/
theorem rgethex (s : List UInt8) (hs : s.length ≤ 1000000) (f : Nat) (hf : 2 * s.length + 40 ≤ f) : shelfmarkref1_GetHex.f f (ba s) = some (ba (getHexN s).1, (getHexN s).2) := by
  have h := rgethex_loop s hs s 0 [] f rfl (by omega) (by simp) (by omega)
  unfold shelfmarkref1_GetHex.f
  rw [show ([] : List Int) = nums [] from rfl, show (0 : Int) = ((0 : Nat) : Int) from rfl, h, List.nil_append]
  congr 1
  by_cases hx : hexN (decHex s) = s
  · rw [if_pos hx]
    have := gethex_back (decHex s)
    rw [hx] at this
    rw [this]
  · rw [if_neg hx]
    have h2 : (getHexN s).2 = false := by
      cases hg : (getHexN s).2 with
      | false => rfl
      | true =>
        exfalso
        have h3 := gethex_only s hg
        apply hx
        rw [h3, decHex_back]
    have h4 : getHexN s = ([], false) := by
      unfold getHexN at h2 ⊢
      split
      · rename_i hh; rw [if_pos hh] at h2; cases h2
      · rfl
    rw [h4]
end Go.Proofs.YtalanaongfnndaaDoor.Pure
/- The reference's 32 letters, over bytes alone. -/
namespace Go.Proofs.YtalanaongfnndaaDoor.Pure
open Go.RowKit Go.Proofs.YtalanaongfnndaaDoor Go.Proofs.YtalanaongfnndaaDoor.G Go.Proofs.YtalanaongfnndaaDoorW.PrintWords Go.Proofs.YtalanaongfnndaaDoorW.PrintLast Go.Proofs.YtalanaongfnndaaDoorW.PrintMore

theorem ofle_byte : ∀ (o : List UInt8) (i : Nat), i < o.length → ofle o / 2 ^ (8 * i) % 256 = (o.getD i 0).toNat
  | [], i, h => by simp at h
  | b :: l, i, h => by
    have hb := b.toNat_lt
    cases i with
    | zero => simp [ofle]
    | succ i =>
      rw [show 8 * (i + 1) = 8 + 8 * i by omega, Nat.pow_add, ← Nat.div_div_eq_div_mul, show ofle (b :: l) / 2 ^ 8 = ofle l by simp [ofle]; omega]
      rw [ofle_byte l i (by simpa using h)]
      simp
theorem shr_i64 (x r : Nat) (hr : r < 64) : shr .i64 (x : Int) (r : Int) = ((x / 2 ^ r : Nat) : Int) := by
  unfold shr
  rw [show IntKind.i64.bits = 64 from rfl, Int.toNat_natCast, Nat.min_eq_left (by omega)]
  simp
theorem and1_i64 (x : Nat) (hx : x < 2 ^ 62) : Go.bits .and .i64 (x : Int) 1 = ((x % 2 : Nat) : Int) := by
  have h := and_i64 (b := 1) hx (by omega)
  rw [Nat.and_one_is_mod] at h
  exact h
theorem rbit (l : List UInt8) (i : Nat) (hi : i ≤ 100000000) : shelfmarkref1_bit.f (ba l) (i : Int) = some ((ofle l / 2 ^ i % 2 : Nat) : Int) := by
  unfold shelfmarkref1_bit.f
  have hd : wrap64 (Int.tdiv (i : Int) 8) = ((i / 8 : Nat) : Int) := by
    rw [Int.tdiv_eq_ediv_of_nonneg (by omega)]
    unfold wrap64
    omega
  have hm : Int.tmod (i : Int) 8 = ((i % 8 : Nat) : Int) := by
    rw [Int.tmod_eq_emod_of_nonneg (by omega)]
    omega
  rw [hd, hm, ba_size]
  by_cases hge : ((i / 8 : Nat) : Int) ≥ (l.length : Int)
  · rw [if_pos hge]
    have h1 := ofle_lt l
    have h2 : (256 : Nat) ^ l.length ≤ 2 ^ i := by
      rw [show (256 : Nat) = 2 ^ 8 from rfl, ← Nat.pow_mul]
      exact Nat.pow_le_pow_right (by omega) (by omega)
    rw [Nat.div_eq_of_lt (by omega)]
    rfl
  · rw [if_neg hge, if_pos (by omega), if_pos (by omega), if_pos (by omega), bt_ba l (i / 8) (by omega)]
    have hb := (l.getD (i / 8) 0).toNat_lt
    have hy := ofle_byte l (i / 8) (by omega)
    generalize (l.getD (i / 8) 0).toNat = b at *
    rw [show wrap64 (b : Int) = (b : Int) by unfold wrap64; omega, shr_i64 b (i % 8) (by omega), and1_i64 _ (Nat.lt_of_le_of_lt (Nat.div_le_self _ _) (by omega))]
    congr 2
    have e : ofle l / 2 ^ i = ofle l / 2 ^ (8 * (i / 8)) / 2 ^ (i % 8) := by
      rw [Nat.div_div_eq_div_mul, ← Nat.pow_add, Nat.div_add_mod]
    rw [e]
    generalize ofle l / 2 ^ (8 * (i / 8)) = z at *
    have hr : i % 8 < 8 := Nat.mod_lt _ (by omega)
    subst hy
    match i % 8, hr with
    | 0, _ | 1, _ | 2, _ | 3, _ | 4, _ | 5, _ | 6, _ | 7, _ => omega
theorem rletters : shelfmarkref1_Letters.f = some (ba t32L) := rfl
theorem shl_i64 (t v : Nat) (ht : t < 2) (hv : v < 5) : shl .i64 (t : Int) (v : Int) = ((t * 2 ^ v : Nat) : Int) := by
  unfold shl
  rw [show IntKind.i64.bits = 64 from rfl, Int.toNat_natCast, Nat.min_eq_left (by omega), IntKind.wrap_i64]
  have h2 : t = 0 ∨ t = 1 := by omega
  rcases h2 with rfl | rfl <;> (match v, hv with | 0, _ | 1, _ | 2, _ | 3, _ | 4, _ => rfl)
theorem rb32_in (l : List UInt8) (m j : Nat) (X : List Int) (f : Nat) (hj : j < m) (hm : m ≤ 10000000) (hX : X.length = m) : ∀ e v : Nat, v + e = 5 →
    shelfmarkref1_Base32.l1 (e + 1 + f) (ba l) (m : Int) X (j : Int) ((ofle l / 2 ^ (5 * j) % 2 ^ v : Nat) : Int) (v : Int) = shelfmarkref1_Base32.l0 f (ba l) (m : Int) (X.set (m - 1 - j) ((t32L.getD (ofle l / 2 ^ (5 * j) % 32) 0).toNat : Int)) ((j + 1 : Nat) : Int)
  | 0, v, hv => by
    obtain rfl : v = 5 := by omega
    have hlt : ofle l / 2 ^ (5 * j) % 32 < 32 := Nat.mod_lt _ (by omega)
    rw [show 0 + 1 + f = f + 1 by omega, show (2 : Nat) ^ 5 = 32 from rfl]
    simp only [shelfmarkref1_Base32.l1]
    rw [if_neg (by omega), rletters]
    simp only [Option.bind_some]
    rw [if_pos (by omega), if_pos (by rw [ba_size]; simp [t32L]; omega), show wrap64 (wrap64 ((m : Int) - 1) - (j : Int)) = ((m - 1 - j : Nat) : Int) by unfold wrap64; omega, if_pos (by omega), if_pos (by rw [hX]; omega),
      bt_ba t32L _ (by simp [t32L]; omega), Int.toNat_natCast, show wrap64 ((j : Int) + 1) = ((j + 1 : Nat) : Int) by unfold wrap64; omega]
  | e + 1, v, hv => by
    rw [show e + 1 + 1 + f = (e + 1 + f) + 1 by omega]
    have ih := rb32_in l m j X f hj hm hX e (v + 1) (by omega)
    rw [← ih]
    conv => lhs; simp only [shelfmarkref1_Base32.l1]
    rw [if_pos (by omega), show wrap64 (wrap64 (5 * (j : Int)) + (v : Int)) = ((5 * j + v : Nat) : Int) by unfold wrap64; omega, rbit l _ (by omega)]
    simp only [Option.bind_some]
    have ht : ofle l / 2 ^ (5 * j + v) % 2 < 2 := Nat.mod_lt _ (by omega)
    have hlo : ofle l / 2 ^ (5 * j) % 2 ^ v < 2 ^ v := Nat.mod_lt _ (Nat.pow_pos (by omega))
    have hp : (2 : Nat) ^ v ≤ 2 ^ 4 := Nat.pow_le_pow_right (by omega) (by omega)
    have ht2 : ofle l / 2 ^ (5 * j + v) % 2 * 2 ^ v ≤ 1 * 2 ^ 4 := Nat.mul_le_mul (by omega) hp
    rw [if_pos (by omega), shl_i64 _ _ ht (by omega), or_i64 (by omega) (by omega), show wrap64 ((v : Int) + 1) = ((v + 1 : Nat) : Int) by unfold wrap64; omega]
    congr 2
    rw [Nat.or_comm, Nat.mul_comm (ofle l / 2 ^ (5 * j + v) % 2) (2 ^ v), ← Nat.two_pow_add_eq_or_of_lt hlo, Nat.pow_succ, Nat.mod_mul, Nat.pow_add 2 (5 * j) v, Nat.div_div_eq_div_mul]
    omega
theorem rb32_out (l : List UInt8) (m : Nat) (hm : m ≤ 10000000) : ∀ d j f, j + d = m →
    shelfmarkref1_Base32.l0 (7 * d + 1 + f) (ba l) (m : Int) (nums (List.replicate d 0 ++ (let32 (ofle l) j).reverse)) (j : Int) = some (ba (let32 (ofle l) m).reverse)
  | 0, j, f, hj => by
    obtain rfl : j = m := by omega
    rw [show 7 * 0 + 1 + f = f + 1 by omega]
    simp only [shelfmarkref1_Base32.l0]
    rw [if_neg (by omega), str_nums]
    rfl
  | d + 1, j, f, hj => by
    have h1 := rb32_in l m j (nums (List.replicate (d + 1) 0 ++ (let32 (ofle l) j).reverse)) (7 * d + 1 + f) (by omega) hm (by rw [nums_length]; simp [let32_length]; omega) 5 0 rfl
    rw [show 7 * (d + 1) + 1 + f = (5 + 1 + (7 * d + 1 + f)) + 1 by omega]
    simp only [shelfmarkref1_Base32.l0]
    rw [if_pos (by omega)]
    rw [Nat.pow_zero, Nat.mod_one] at h1
    refine h1.trans ?_
    rw [show m - 1 - j = d by omega, nums_set]
    have e : (List.replicate (d + 1) (0 : UInt8) ++ (let32 (ofle l) j).reverse).set d (t32L.getD (ofle l / 2 ^ (5 * j) % 32) 0) = List.replicate d 0 ++ (let32 (ofle l) (j + 1)).reverse := by
      rw [let32_succ, List.reverse_append, List.replicate_succ', List.append_assoc, List.set_append_right _ _ (by simp)]
      simp
    rw [e]
    exact rb32_out l m hm d (j + 1) f (by omega)
/-- The reference's 32 letters are this program's. -/
theorem rbase32 (l : List UInt8) (hl : l.length ≤ 1000000) (f : Nat) (hf : 14 * l.length + 20 ≤ f) : shelfmarkref1_Base32.f f (ba l) = some (ba (b32N l)) := by
  unfold shelfmarkref1_Base32.f b32N
  have e : wrap64 (Int.tdiv (wrap64 ((wrap64 (8 * ((ba l).size : Int))) + 4)) 5) = (((8 * l.length + 4) / 5 : Nat) : Int) := by
    rw [ba_size, show wrap64 ((wrap64 (8 * (l.length : Int))) + 4) = ((8 * l.length + 4 : Nat) : Int) by unfold wrap64; omega, Int.tdiv_eq_ediv_of_nonneg (by omega)]
    unfold wrap64
    omega
  rw [e]
  obtain ⟨m, hm⟩ : ∃ m, (8 * l.length + 4) / 5 = m := ⟨_, rfl⟩
  rw [hm, if_pos (by omega), if_pos (by omega)]
  have h := rb32_out l m (by omega) m 0 (f - (7 * m + 1)) (by omega)
  rw [show 7 * m + 1 + (f - (7 * m + 1)) = f by omega] at h
  have e2 : nums (List.replicate m 0 ++ (let32 (ofle l) 0).reverse) = List.replicate m 0 := by
    simp [nums, let32]
  rw [e2] at h
  exact h
end Go.Proofs.YtalanaongfnndaaDoor.Pure
/- The reference's reading of 32 letters, over bytes alone. -/
namespace Go.Proofs.YtalanaongfnndaaDoor.Pure
open Go.RowKit Go.Proofs.YtalanaongfnndaaDoor Go.Proofs.YtalanaongfnndaaDoor.G Go.Proofs.YtalanaongfnndaaDoorW.PrintWords Go.Proofs.YtalanaongfnndaaDoorW.PrintLast Go.Proofs.YtalanaongfnndaaDoorW.PrintMore

/-- A number that letters tell, the lowest first. -/
def num32 : List UInt8 → Nat
  | [] => 0
  | c :: r => (Lib.indexByte t32L c).toNat + 32 * num32 r
theorem num32_snoc (r : List UInt8) (c : UInt8) : num32 (r ++ [c]) = num32 r + (Lib.indexByte t32L c).toNat * 2 ^ (5 * r.length) := by
  induction r with
  | nil => simp [num32]
  | cons d r ih =>
    rw [List.cons_append, num32, ih, num32, List.length_cons, show 5 * (r.length + 1) = 5 + 5 * r.length by omega, Nat.pow_add, Nat.mul_add, ← Nat.mul_assoc, ← Nat.mul_assoc, show (2 : Nat) ^ 5 = 32 from rfl, Nat.mul_comm (Lib.indexByte t32L c).toNat 32]
    omega
theorem num32_lt : ∀ r : List UInt8, num32 r < 2 ^ (5 * r.length)
  | [] => by simp [num32]
  | c :: r => by
    have h1 := idx32 c
    have h2 := num32_lt r
    rw [List.length_cons, show 5 * (r.length + 1) = 5 * r.length + 5 by omega, Nat.pow_add, num32]
    omega
theorem num32_let (n : Nat) : ∀ m, num32 (let32 n m) = n % 2 ^ (5 * m)
  | 0 => by simp [let32, num32, Nat.mod_one]
  | m + 1 => by
    rw [let32_succ, num32_snoc, num32_let n m, let32_length, idx_t32L' (Nat.mod_lt _ (by omega)), Int.toNat_natCast, show 5 * (m + 1) = 5 * m + 5 by omega, Nat.pow_add 2 (5 * m) 5, Nat.mod_mul, Nat.mul_comm (2 ^ (5 * m))]
theorem bytesN_length (M n : Nat) : (bytesN M n).length = n := by simp [bytesN]
theorem bytesN_getD (M n i : Nat) (h : i < n) : ((bytesN M n).getD i 0).toNat = M / 2 ^ (8 * i) % 256 := by
  have e : (bytesN M n).getD i 0 = UInt8.ofNat (M / 2 ^ (8 * i) % 256) := by simp [bytesN, h]
  rw [e, UInt8.toNat_ofNat']
  exact Nat.mod_eq_of_lt (Nat.mod_lt _ (by omega))
theorem or_u8n (x y : Nat) (hx : x < 256) (hy : y < 256) : Go.bits .or .u8 (x : Int) (y : Int) = ((x ||| y : Nat) : Int) := (bits_nat .u8 8 (by decide) wraps_u8 x y hx hy).2
/-- One bit more. -/
theorem bytesN_set (M t n b : Nat) (hM : M < 2 ^ t) (hb : b < 2) (hq : t / 8 < n) :
    (nums (bytesN M n)).set (t / 8) (Go.bits .or .u8 (rd (nums (bytesN M n)) ((t / 8 : Nat) : Int)) (shl .u8 (b : Int) ((t % 8 : Nat) : Int))) = nums (bytesN (M + b * 2 ^ t) n) := by
  have hr : t % 8 < 8 := Nat.mod_lt _ (by omega)
  have hsh : shl .u8 (b : Int) ((t % 8 : Nat) : Int) = ((b * 2 ^ (t % 8) : Nat) : Int) := by
    unfold shl
    rw [show IntKind.u8.bits = 8 from rfl, Int.toNat_natCast, Nat.min_eq_left (by omega)]
    have h2 : b = 0 ∨ b = 1 := by omega
    rcases h2 with rfl | rfl <;> (match t % 8, hr with | 0, _ | 1, _ | 2, _ | 3, _ | 4, _ | 5, _ | 6, _ | 7, _ => rfl)
  have hp : (2 : Nat) ^ (t % 8) ≤ 2 ^ 7 := Nat.pow_le_pow_right (by omega) (by omega)
  have hbl : b * 2 ^ (t % 8) ≤ 1 * 2 ^ 7 := Nat.mul_le_mul (by omega) hp
  have hMq : M / 2 ^ (8 * (t / 8)) < 2 ^ (t % 8) := by
    rw [Nat.div_lt_iff_lt_mul (Nat.pow_pos (by omega)), ← Nat.pow_add, show t % 8 + 8 * (t / 8) = t by omega]
    exact hM
  have htq : (2 : Nat) ^ t = 2 ^ (t % 8) * 2 ^ (8 * (t / 8)) := by rw [← Nat.pow_add, show t % 8 + 8 * (t / 8) = t by omega]
  rw [hsh, rd_nums _ _ (by rw [bytesN_length]; exact hq), bytesN_getD _ _ _ hq, or_u8n _ _ (Nat.mod_lt _ (by omega)) (by omega), Nat.mod_eq_of_lt (by omega)]
  have hdiv : (M + b * 2 ^ t) / 2 ^ (8 * (t / 8)) = M / 2 ^ (8 * (t / 8)) + b * 2 ^ (t % 8) := by
    rw [htq, ← Nat.mul_assoc, Nat.add_mul_div_right _ _ (Nat.pow_pos (by omega))]
  have hbr : b * 2 ^ (t % 8) ≤ 1 * 2 ^ (t % 8) := Nat.mul_le_mul_right _ (by omega)
  have hor : (M / 2 ^ (8 * (t / 8)) ||| b * 2 ^ (t % 8)) = (M + b * 2 ^ t) / 2 ^ (8 * (t / 8)) % 256 := by
    rw [Nat.or_comm, Nat.mul_comm b (2 ^ (t % 8)), ← Nat.two_pow_add_eq_or_of_lt hMq, hdiv, Nat.mul_comm (2 ^ (t % 8)) b]
    generalize M / 2 ^ (8 * (t / 8)) = y at *
    generalize b * 2 ^ (t % 8) = z at *
    generalize (2 : Nat) ^ (t % 8) = u at *
    omega
  rw [hor]
  apply List.ext_getElem (by simp [nums_length, bytesN_length])
  intro i h1 h2
  have hi : i < n := by simpa [nums_length, bytesN_length] using h2
  rw [List.getElem_set]
  have hget : ∀ M (h : i < (nums (bytesN M n)).length), (nums (bytesN M n))[i] = ((M / 2 ^ (8 * i) % 256 : Nat) : Int) := by
    intro M h
    have := bytesN_getD M n i hi
    simp only [nums, List.getElem_map]
    rw [← this]
    simp [bytesN_length, hi]
  rw [hget, hget]
  by_cases he : t / 8 = i
  · rw [if_pos he, he]
  · rw [if_neg he]
    congr 1
    by_cases hlt : i < t / 8
    · have h8 : 2 ^ t = 2 ^ (8 * i) * (256 * 2 ^ (t - 8 * i - 8)) := by
        rw [show (256 : Nat) = 2 ^ 8 from rfl, ← Nat.pow_add, ← Nat.pow_add]
        congr 1
        omega
      rw [h8, show b * (2 ^ (8 * i) * (256 * 2 ^ (t - 8 * i - 8))) = (256 * (b * 2 ^ (t - 8 * i - 8))) * 2 ^ (8 * i) by ac_rfl, Nat.add_mul_div_right _ _ (Nat.pow_pos (by omega))]
      omega
    · have h8 : (2 : Nat) ^ (t + 1) ≤ 2 ^ (8 * i) := Nat.pow_le_pow_right (by omega) (by omega)
      rw [Nat.pow_succ] at h8
      have hb1 : b * 2 ^ t ≤ 1 * 2 ^ t := Nat.mul_le_mul_right _ (by omega)
      rw [Nat.div_eq_of_lt (by omega), Nat.div_eq_of_lt (by omega)]
theorem bytesN_beyond (M t n b : Nat) (hq : n ≤ t / 8) : bytesN (M + b * 2 ^ t) n = bytesN M n := by
  unfold bytesN
  apply List.map_congr_left
  intro i hi
  have hi' := List.mem_range.1 hi
  have h8 : 2 ^ t = 2 ^ (8 * i) * (256 * 2 ^ (t - 8 * i - 8)) := by
    rw [show (256 : Nat) = 2 ^ 8 from rfl, ← Nat.pow_add, ← Nat.pow_add]
    congr 1
    omega
  rw [h8, show b * (2 ^ (8 * i) * (256 * 2 ^ (t - 8 * i - 8))) = (256 * (b * 2 ^ (t - 8 * i - 8))) * 2 ^ (8 * i) by ac_rfl, Nat.add_mul_div_right _ _ (Nat.pow_pos (by omega))]
  congr 1
  omega
/-- One letter's bits. -/
theorem rg32_in (s : List UInt8) (n j : Nat) (c : UInt8) (M f : Nat) (hj : j ≤ 10000000) (hn : n ≤ 64) (hM : M < 2 ^ (5 * j)) : ∀ e v : Nat, v + e = 5 →
    shelfmarkref1_GetBase32.l1 (e + 1 + f) (ba s) (n : Int) (nums (bytesN (M + (Lib.indexByte t32L c).toNat % 2 ^ v * 2 ^ (5 * j)) n)) (j : Int) (Lib.indexByte t32L c) (v : Int) =
    shelfmarkref1_GetBase32.l0 f (ba s) (n : Int) (nums (bytesN (M + (Lib.indexByte t32L c).toNat * 2 ^ (5 * j)) n)) ((j + 1 : Nat) : Int)
  | 0, v, hv => by
    obtain rfl : v = 5 := by omega
    have hi := idx32 c
    rw [show 0 + 1 + f = f + 1 by omega, show (2 : Nat) ^ 5 = 32 from rfl, Nat.mod_eq_of_lt hi]
    simp only [shelfmarkref1_GetBase32.l1]
    rw [if_neg (by omega), show wrap64 ((j : Int) + 1) = ((j + 1 : Nat) : Int) by unfold wrap64; omega]
  | e + 1, v, hv => by
    have ih := rg32_in s n j c M f hj hn hM e (v + 1) (by omega)
    rw [← ih, show e + 1 + 1 + f = (e + 1 + f) + 1 by omega]
    have hi := idx32 c
    clear ih
    conv => lhs; simp only [shelfmarkref1_GetBase32.l1]
    have hd : wrap64 (Int.tdiv (wrap64 ((wrap64 (5 * (j : Int))) + (v : Int))) 8) = (((5 * j + v) / 8 : Nat) : Int) := by
      rw [show wrap64 ((wrap64 (5 * (j : Int))) + (v : Int)) = ((5 * j + v : Nat) : Int) by unfold wrap64; omega, Int.tdiv_eq_ediv_of_nonneg (by omega)]
      unfold wrap64
      omega
    have hm : Int.tmod (wrap64 ((wrap64 (5 * (j : Int))) + (v : Int))) 8 = (((5 * j + v) % 8 : Nat) : Int) := by
      rw [show wrap64 ((wrap64 (5 * (j : Int))) + (v : Int)) = ((5 * j + v : Nat) : Int) by unfold wrap64; omega, Int.tmod_eq_emod_of_nonneg (by omega)]
      omega
    rw [if_pos (by omega), hd, hm, show wrap64 ((v : Int) + 1) = ((v + 1 : Nat) : Int) by unfold wrap64; omega]
    generalize hx : Lib.indexByte t32L c = x at *
    have hv2 : x.toNat % 2 ^ (v + 1) = x.toNat % 2 ^ v + 2 ^ v * (x.toNat / 2 ^ v % 2) := by rw [Nat.pow_succ, Nat.mod_mul]
    by_cases hneg : x ≥ 0
    · rw [if_pos hneg]
      have hb : Go.bits .and .i64 (shr .i64 x (v : Int)) 1 % 256 = ((x.toNat / 2 ^ v % 2 : Nat) : Int) := by
        rw [show x = ((x.toNat : Nat) : Int) by omega, shr_i64 _ _ (by omega), and1_i64 _ (Nat.lt_of_le_of_lt (Nat.div_le_self _ _) (by omega)), Int.toNat_natCast]
        omega
      have hM2 : M + x.toNat % 2 ^ v * 2 ^ (5 * j) < 2 ^ (5 * j + v) := by
        have : x.toNat % 2 ^ v + 1 ≤ 2 ^ v := Nat.mod_lt _ (Nat.pow_pos (by omega))
        have h3 := Nat.mul_le_mul_right (2 ^ (5 * j)) this
        rw [Nat.add_mul, Nat.one_mul] at h3
        rw [Nat.pow_add, Nat.mul_comm (2 ^ (5 * j))]
        omega
      have hs : M + x.toNat % 2 ^ v * 2 ^ (5 * j) + (x.toNat / 2 ^ v % 2) * 2 ^ (5 * j + v) = M + x.toNat % 2 ^ (v + 1) * 2 ^ (5 * j) := by
        rw [hv2, Nat.pow_add, Nat.add_mul, Nat.add_assoc]
        congr 2
        ac_rfl
      by_cases hq : (((5 * j + v) / 8 : Nat) : Int) < (n : Int)
      · rw [if_pos hq, if_pos (by omega), if_pos (by rw [nums_length, bytesN_length]; exact hq), if_pos (by omega), if_pos (by omega), Int.toNat_natCast, hb, bytesN_set _ (5 * j + v) n _ hM2 (Nat.mod_lt _ (by omega)) (by omega), hs]
      · rw [if_neg hq, ← hs, bytesN_beyond _ (5 * j + v) n _ (by omega)]
    · rw [if_neg hneg, show x.toNat = 0 by omega, Nat.zero_mod, Nat.zero_mod]
theorem rg32_out (s : List UInt8) (hs : s.length ≤ 1000000) (n : Nat) (hn : n ≤ 64) : ∀ d j f, j + d = s.length → 1000 ≤ f →
    shelfmarkref1_GetBase32.l0 (7 * d + 1 + f) (ba s) (n : Int) (nums (bytesN (num32 (s.reverse.take j)) n)) (j : Int) =
    some (if b32N (bytesN (num32 s.reverse) n) = s then (ba (bytesN (num32 s.reverse) n), true) else (ba [], false))
  | 0, j, f, hj, hf => by
    rw [show 7 * 0 + 1 + f = f + 1 by omega]
    simp only [shelfmarkref1_GetBase32.l0]
    rw [if_neg (by rw [ba_size]; omega), str_nums, List.take_of_length_le (by simp; omega), rbase32 _ (by rw [bytesN_length]; omega) f (by rw [bytesN_length]; omega)]
    simp only [Option.bind_some, ba_toList]
    by_cases h : b32N (bytesN (num32 s.reverse) n) = s
    · rw [if_pos h, if_pos h]
    · rw [if_neg h, if_neg h]; rfl
  | d + 1, j, f, hj, hf => by
    have hlt : j < s.length := by omega
    have ih := rg32_out s hs n hn d (j + 1) f (by omega) hf
    obtain ⟨c, hc⟩ : ∃ c, s.getD (s.length - 1 - j) 0 = c := ⟨_, rfl⟩
    have htake : s.reverse.take (j + 1) = s.reverse.take j ++ [c] := by
      rw [List.take_add_one, List.getElem?_reverse hlt, ← hc]
      simp
      rw [List.getElem?_eq_getElem (by omega)]
      rfl
    have hlen : (s.reverse.take j).length = j := by simp; omega
    have hN := num32_lt (s.reverse.take j)
    rw [hlen] at hN
    rw [show 7 * (d + 1) + 1 + f = (5 + 1 + (7 * d + 1 + f)) + 1 by omega]
    have h1 := rg32_in s n j c (num32 (s.reverse.take j)) (7 * d + 1 + f) (by omega) hn hN 5 0 rfl
    rw [Nat.pow_zero, Nat.mod_one, Nat.zero_mul, Nat.add_zero] at h1
    rw [htake, num32_snoc, hlen] at ih
    conv => lhs; simp only [shelfmarkref1_GetBase32.l0]
    rw [if_pos (by rw [ba_size]; omega), rletters]
    simp only [Option.bind_some]
    rw [show wrap64 ((wrap64 (((ba s).size : Int) - 1)) - (j : Int)) = ((s.length - 1 - j : Nat) : Int) by rw [ba_size]; unfold wrap64; omega, if_pos (by omega), if_pos (by rw [ba_size]; omega), bt_ba s _ (by omega), hc,
      rplace t32L (by decide) c _ (by simp [t32L]; omega)]
    simp only [Option.bind_some]
    exact h1.trans ih
/-- The reference's reading is this program's. -/
theorem rgetb32 (s : List UInt8) (hs : s.length ≤ 1000000) (n : Int) (f : Nat) (hf : 7 * s.length + 1010 ≤ f) : shelfmarkref1_GetBase32.f f (ba s) n = some (ba (getB32N s n).1, (getB32N s n).2) := by
  have hno : (getB32N s n).2 = false → getB32N s n = ([], false) := by
    intro h
    unfold getB32N at h ⊢
    split
    · rename_i hh; rw [if_pos hh] at h; cases h
    · rfl
  obtain ⟨f, rfl⟩ : ∃ g, f = g + 1 := ⟨f - 1, by omega⟩
  have hfail : (getB32N s n).2 = false → shelfmarkref1_GetBase32.j0 (f + 1) (ba s) n true = some (ba (getB32N s n).1, (getB32N s n).2) := by
    intro h
    rw [hno h]
    simp only [shelfmarkref1_GetBase32.j0]
    rfl
  unfold shelfmarkref1_GetBase32.f
  by_cases h0 : n < 0
  · rw [if_pos h0]
    refine hfail ?_
    cases hg : (getB32N s n).2 with
    | false => rfl
    | true => have := (getb32_only s n hg).2.2.1; omega
  rw [if_neg h0]
  by_cases h64 : n > 64
  · rw [if_pos h64]
    refine hfail ?_
    cases hg : (getB32N s n).2 with
    | false => rfl
    | true => have := (getb32_only s n hg).2.2.2; omega
  rw [if_neg h64]
  obtain ⟨k, rfl⟩ : ∃ k : Nat, n = (k : Int) := ⟨n.toNat, by omega⟩
  have e : wrap64 (Int.tdiv (wrap64 ((wrap64 (8 * (k : Int))) + 4)) 5) = (((8 * k + 4) / 5 : Nat) : Int) := by
    rw [show wrap64 ((wrap64 (8 * (k : Int))) + 4) = ((8 * k + 4 : Nat) : Int) by unfold wrap64; omega, Int.tdiv_eq_ediv_of_nonneg (by omega)]
    unfold wrap64
    omega
  rw [e, ba_size]
  by_cases hlen : s.length = (8 * k + 4) / 5
  · rw [show ((s.length : Int) != (((8 * k + 4) / 5 : Nat) : Int)) = false by rw [hlen]; simp]
    simp only [shelfmarkref1_GetBase32.j0]
    rw [if_neg (by decide), if_pos (by omega), if_pos (by omega)]
    have h := rg32_out s hs k (by omega) s.length 0 (f - (7 * s.length + 1)) (by omega) (by omega)
    rw [show 7 * s.length + 1 + (f - (7 * s.length + 1)) = f by omega] at h
    have e0 : nums (bytesN (num32 (s.reverse.take 0)) k) = List.replicate ((k : Int)).toNat 0 := by
      rw [List.take_zero, Int.toNat_natCast]
      simp [num32, bytesN, nums]
      exact List.eq_replicate_iff.2 ⟨by simp, by simp⟩
    rw [e0] at h
    refine h.trans ?_
    congr 1
    by_cases hx : b32N (bytesN (num32 s.reverse) k) = s
    · rw [if_pos hx]
      have := getb32_back (bytesN (num32 s.reverse) k) (by rw [bytesN_length]; omega)
      rw [hx, bytesN_length] at this
      rw [this]
    · rw [if_neg hx]
      have h2 : (getB32N s (k : Int)).2 = false := by
        cases hg : (getB32N s (k : Int)).2 with
        | false => rfl
        | true =>
          exfalso
          obtain ⟨h3, h4, _⟩ := getb32_only s _ hg
          generalize (getB32N s (k : Int)).1 = o at *
          apply hx
          have hk : o.length = k := by omega
          have h5 : num32 s.reverse = ofle o := by
            rw [h3]
            unfold b32N
            rw [List.reverse_reverse, num32_let]
            have hlt := ofle_lt o
            have h256 : (256 : Nat) ^ o.length ≤ 2 ^ (5 * ((8 * o.length + 4) / 5)) := by
              rw [show (256 : Nat) = 2 ^ 8 from rfl, ← Nat.pow_mul]
              exact Nat.pow_le_pow_right (by omega) (by omega)
            exact Nat.mod_eq_of_lt (by omega)
          rw [h5, ← hk, bytesN_ofle]
          exact h3.symm
      rw [hno h2]
  · rw [show ((s.length : Int) != (((8 * k + 4) / 5 : Nat) : Int)) = true by simp; omega]
    refine hfail ?_
    cases hg : (getB32N s (k : Int)).2 with
    | false => rfl
    | true =>
      exfalso
      obtain ⟨h3, h4, _⟩ := getb32_only s _ hg
      generalize (getB32N s (k : Int)).1 = o at *
      apply hlen
      rw [h3]
      unfold b32N
      rw [List.length_reverse, let32_length]
      omega
end Go.Proofs.YtalanaongfnndaaDoor.Pure
/- The reference's 64 letters there and back, over bytes alone. -/
namespace Go.Proofs.YtalanaongfnndaaDoor.Pure
open Go.RowKit Go.Proofs.YtalanaongfnndaaDoor Go.Proofs.YtalanaongfnndaaDoor.G Go.Proofs.YtalanaongfnndaaDoorW.PrintWords Go.Proofs.YtalanaongfnndaaDoorW.PrintLast Go.Proofs.YtalanaongfnndaaDoorW.PrintMore

def L64 (n g : Nat) : UInt8 := t64L.getD (n / 2 ^ g % 64) 0
/-- Letters, three bytes at once. -/
def r64 : List UInt8 → List UInt8
  | [] => []
  | [a] => [L64 (a.toNat * 65536) 18, L64 (a.toNat * 65536) 12, 61, 61]
  | [a, b] => [L64 (a.toNat * 65536 + b.toNat * 256) 18, L64 (a.toNat * 65536 + b.toNat * 256) 12, L64 (a.toNat * 65536 + b.toNat * 256) 6, 61]
  | a :: b :: c :: l => [L64 (a.toNat * 65536 + b.toNat * 256 + c.toNat) 18, L64 (a.toNat * 65536 + b.toNat * 256 + c.toNat) 12, L64 (a.toNat * 65536 + b.toNat * 256 + c.toNat) 6, L64 (a.toNat * 65536 + b.toNat * 256 + c.toNat) 0] ++ r64 l
theorem ofbe_cons (l : List UInt8) : ∀ n : Nat, l.foldl (fun n b => n * 256 + b.toNat) n = n * 2 ^ (8 * l.length) + ofbe l := by
  induction l with
  | nil => intro n; simp [ofbe]
  | cons b l ih =>
    intro n
    have e : ofbe (b :: l) = (0 * 256 + b.toNat) * 2 ^ (8 * l.length) + ofbe l := ih (0 * 256 + b.toNat)
    rw [Nat.zero_mul, Nat.zero_add] at e
    rw [List.foldl_cons, ih, e, List.length_cons, show 8 * (l.length + 1) = 8 + 8 * l.length by omega, Nat.pow_add 2 8, show (2 : Nat) ^ 8 = 256 from rfl, Nat.add_mul, ← Nat.mul_assoc]
    omega
theorem let64_cat (X N b m k : Nat) (hN : N < 2 ^ b) (hb : b = 6 * m) : let64 (X * 2 ^ b + N) (6 * k + b) (k + m) = let64 X (6 * k) k ++ let64 N b m := by
  unfold let64
  rw [List.range_add, List.map_append, List.map_map]
  congr 1
  · apply List.map_congr_left
    intro j hj
    have hj' := List.mem_range.1 hj
    rw [show 6 * k + b - 6 * (j + 1) = b + (6 * k - 6 * (j + 1)) by omega, Nat.pow_add, ← Nat.div_div_eq_div_mul, Nat.mul_comm X, Nat.mul_add_div (Nat.pow_pos (by omega)), Nat.div_eq_of_lt hN, Nat.add_zero]
  · apply List.map_congr_left
    intro j hj
    have hj' := List.mem_range.1 hj
    simp only [Function.comp]
    rw [show 6 * k + b - 6 * (k + j + 1) = b - 6 * (j + 1) by omega]
    have h8 : 2 ^ b = 64 * (2 ^ (b - 6 * (j + 1)) * 2 ^ (6 * j)) := by
      rw [show (64 : Nat) = 2 ^ 6 from rfl, ← Nat.pow_add, ← Nat.pow_add]
      congr 1
      omega
    rw [h8, show X * (64 * (2 ^ (b - 6 * (j + 1)) * 2 ^ (6 * j))) = 2 ^ (b - 6 * (j + 1)) * (64 * (X * 2 ^ (6 * j))) by ac_rfl, Nat.mul_add_div (Nat.pow_pos (by omega))]
    congr 1
    omega
theorem let64_four (X : Nat) : let64 X (6 * 4) 4 = [L64 X 18, L64 X 12, L64 X 6, L64 X 0] := rfl
theorem body_cat (a b c : UInt8) (l : List UInt8) : body64 (a :: b :: c :: l) = [L64 (a.toNat * 65536 + b.toNat * 256 + c.toNat) 18, L64 (a.toNat * 65536 + b.toNat * 256 + c.toNat) 12, L64 (a.toNat * 65536 + b.toNat * 256 + c.toNat) 6, L64 (a.toNat * 65536 + b.toNat * 256 + c.toNat) 0] ++ body64 l := by
  have hX : a.toNat * 65536 + b.toNat * 256 + c.toNat = (a.toNat * 256 + b.toNat) * 256 + c.toNat := by omega
  have hbe : ofbe (a :: b :: c :: l) = (a.toNat * 65536 + b.toNat * 256 + c.toNat) * 2 ^ (8 * l.length) + ofbe l := by
    rw [hX]
    have := ofbe_cons l ((a.toNat * 256 + b.toNat) * 256 + c.toNat)
    rw [← this]
    simp [ofbe]
  obtain ⟨p, hp⟩ : ∃ p, 6 * m64 l.length - 8 * l.length = p := ⟨_, rfl⟩
  have hm : 8 * l.length ≤ 6 * m64 l.length := by unfold m64; omega
  have hm3 : m64 (l.length + 3) = 4 + m64 l.length := by unfold m64; omega
  have hlen : (a :: b :: c :: l).length = l.length + 3 := rfl
  rw [body_eq, body_eq l, hlen, hm3, ← let64_four, hbe, show 6 * (4 + m64 l.length) - 8 * (l.length + 3) = p by omega, hp, Nat.add_mul, Nat.mul_assoc, ← Nat.pow_add, show 8 * l.length + p = 6 * m64 l.length by omega, Nat.mul_add]
  refine let64_cat _ _ _ _ _ ?_ rfl
  rw [show 6 * m64 l.length = 8 * l.length + p by omega, Nat.pow_add]
  exact Nat.mul_lt_mul_of_pos_right (ofbe_lt l) (Nat.pow_pos (by omega))
theorem b64N_r64 : ∀ l : List UInt8, b64N l = r64 l
  | [] => rfl
  | [a] => by
    have hb : body64 [a] = [t64L.getD (ofbe [a] / 2 ^ 2 % 64) 0, t64L.getD (ofbe [a] * 2 ^ 4 % 64) 0] := by
      unfold body64
      generalize ofbe [a] = n
      rw [show ([a] : List UInt8).length = 1 from rfl, if_pos (by decide)]
      rfl
    unfold b64N
    rw [hb]
    simp only [r64, L64, show ofbe [a] = a.toNat by simp [ofbe]]
    rw [show a.toNat / 2 ^ 2 % 64 = a.toNat * 65536 / 2 ^ 18 % 64 by omega, show a.toNat * 2 ^ 4 % 64 = a.toNat * 65536 / 2 ^ 12 % 64 by omega]
    generalize t64L.getD (a.toNat * 65536 / 2 ^ 18 % 64) 0 = x
    generalize t64L.getD (a.toNat * 65536 / 2 ^ 12 % 64) 0 = y
    rfl
  | [a, b] => by
    have hb : body64 [a, b] = [t64L.getD (ofbe [a, b] / 2 ^ 10 % 64) 0, t64L.getD (ofbe [a, b] / 2 ^ 4 % 64) 0, t64L.getD (ofbe [a, b] * 2 ^ 2 % 64) 0] := by
      unfold body64
      generalize ofbe [a, b] = n
      rw [show ([a, b] : List UInt8).length = 2 from rfl, if_pos (by decide)]
      rfl
    unfold b64N
    rw [hb]
    simp only [r64, L64, show ofbe [a, b] = a.toNat * 256 + b.toNat by simp [ofbe]]
    rw [show (a.toNat * 256 + b.toNat) / 2 ^ 10 % 64 = (a.toNat * 65536 + b.toNat * 256) / 2 ^ 18 % 64 by omega, show (a.toNat * 256 + b.toNat) / 2 ^ 4 % 64 = (a.toNat * 65536 + b.toNat * 256) / 2 ^ 12 % 64 by omega, show (a.toNat * 256 + b.toNat) * 2 ^ 2 % 64 = (a.toNat * 65536 + b.toNat * 256) / 2 ^ 6 % 64 by omega]
    generalize t64L.getD ((a.toNat * 65536 + b.toNat * 256) / 2 ^ 18 % 64) 0 = x
    generalize t64L.getD ((a.toNat * 65536 + b.toNat * 256) / 2 ^ 12 % 64) 0 = y
    generalize t64L.getD ((a.toNat * 65536 + b.toNat * 256) / 2 ^ 6 % 64) 0 = z
    rfl
  | a :: b :: c :: l => by
    have ih := b64N_r64 l
    unfold b64N at *
    rw [body_cat, r64, List.append_assoc, ← ih, List.length_append]
    congr 3
    show (4 - (4 + (body64 l).length) % 4) % 4 = _
    congr 2
    omega
/-- One byte more. -/
theorem r1_byte (l : List UInt8) (hl : l.length ≤ 1000000) (X : List Int) (i many v n f : Nat) (hn : n < 65536) (hv : v < 3) (hm : v < many) (hi : i + v < l.length) :
    shelfmarkref1_Base64.l1 (f + 1) (ba l) X (i : Int) (n : Int) (many : Int) (v : Int) = shelfmarkref1_Base64.l1 f (ba l) X (i : Int) ((n * 256 + (l.getD (i + v) 0).toNat : Nat) : Int) (many : Int) ((v + 1 : Nat) : Int) := by
  have hb := (l.getD (i + v) 0).toNat_lt
  conv => lhs; simp only [shelfmarkref1_Base64.l1]
  rw [if_pos (by omega), if_pos (by omega), show wrap64 ((i : Int) + (v : Int)) = ((i + v : Nat) : Int) by unfold wrap64; omega, if_pos (by omega), if_pos (by rw [ba_size]; omega), bt_ba l _ hi,
    show wrap64 ((n : Int) * 256) = ((n * 256 : Nat) : Int) by unfold wrap64; omega, show wrap64 (((l.getD (i + v) 0).toNat : Nat) : Int) = (((l.getD (i + v) 0).toNat : Nat) : Int) by unfold wrap64; omega, or_i64 (by omega) (by omega),
    show wrap64 ((v : Int) + 1) = ((v + 1 : Nat) : Int) by unfold wrap64; omega, show n * 256 = n * 2 ^ 8 from rfl, or_low _ _ 8 (by omega)]
theorem r1_none (l : List UInt8) (X : List Int) (i many v n f : Nat) (hn : n < 65536) (hv : v < 3) (hm : many ≤ v) :
    shelfmarkref1_Base64.l1 (f + 1) (ba l) X (i : Int) (n : Int) (many : Int) (v : Int) = shelfmarkref1_Base64.l1 f (ba l) X (i : Int) ((n * 256 : Nat) : Int) (many : Int) ((v + 1 : Nat) : Int) := by
  conv => lhs; simp only [shelfmarkref1_Base64.l1]
  rw [if_pos (by omega), if_neg (by omega), show wrap64 ((n : Int) * 256) = ((n * 256 : Nat) : Int) by unfold wrap64; omega, show wrap64 ((v : Int) + 1) = ((v + 1 : Nat) : Int) by unfold wrap64; omega]
theorem r1_done (l : List UInt8) (X : List Int) (i many n f : Nat) :
    shelfmarkref1_Base64.l1 (f + 1) (ba l) X (i : Int) (n : Int) (many : Int) ((3 : Nat) : Int) = shelfmarkref1_Base64.l2 f (ba l) X (i : Int) (n : Int) (many : Int) ((0 : Nat) : Int) := by
  conv => lhs; simp only [shelfmarkref1_Base64.l1]
  rw [if_neg (by omega)]
  rfl
theorem rsixty : shelfmarkref1_sixty.f = some (ba t64L) := rfl
theorem r2_letter (l p : List UInt8) (hp : p.length ≤ 100000000) (i many j n f : Nat) (hn : n < 16777216) (hj : j < 4) (hm : j ≤ many) :
    shelfmarkref1_Base64.l2 (f + 1) (ba l) (nums p) (i : Int) (n : Int) (many : Int) (j : Int) = shelfmarkref1_Base64.l2 f (ba l) (nums (p ++ [L64 n (18 - 6 * j)])) (i : Int) (n : Int) (many : Int) ((j + 1 : Nat) : Int) := by
  conv => lhs; simp only [shelfmarkref1_Base64.l2]
  have hle := Nat.div_le_self n (2 ^ (18 - 6 * j))
  have hsh : shr .i64 (n : Int) (wrap64 (18 - wrap64 (6 * (j : Int)))) = ((n / 2 ^ (18 - 6 * j) : Nat) : Int) := by
    rw [show wrap64 (18 - wrap64 (6 * (j : Int))) = ((18 - 6 * j : Nat) : Int) by unfold wrap64; omega, shr_i64 _ _ (by omega)]
  have hg : (0 : Int) ≤ wrap64 (18 - wrap64 (6 * (j : Int))) := by
    rw [show wrap64 (18 - wrap64 (6 * (j : Int))) = ((18 - 6 * j : Nat) : Int) by unfold wrap64; omega]
    omega
  have hL : nums [L64 n (18 - 6 * j)] = [((t64L.getD (n / 2 ^ (18 - 6 * j) % 64) 0).toNat : Int)] := rfl
  have hj1 : wrap64 ((j : Int) + 1) = ((j + 1 : Nat) : Int) := by unfold wrap64; omega
  rw [nums_append, hL, hsh, hj1]
  clear hsh
  generalize n / 2 ^ (18 - 6 * j) = y at *
  have h63 : Go.bits .and .i64 (y : Int) 63 = ((y % 64 : Nat) : Int) := by
    rw [and63 (by omega)]
    omega
  have hy : y % 64 < t64L.length := Nat.mod_lt _ (by decide)
  have hb : bt (ba t64L) ((y % 64 : Nat) : Int) = ((t64L.getD (y % 64) 0).toNat : Int) := bt_ba t64L _ hy
  have hsz : ((y % 64 : Nat) : Int) < ((ba t64L).size : Int) := by rw [ba_size]; omega
  rw [rsixty, Option.bind_some, h63, hb, if_pos (by omega), if_pos (by omega), if_pos hg, if_pos (by omega), if_pos hsz, if_pos (by rw [nums_length]; omega)]
theorem r2_pad (l p : List UInt8) (hp : p.length ≤ 100000000) (i many j n f : Nat) (hj : j < 4) (hm : many < j) :
    shelfmarkref1_Base64.l2 (f + 1) (ba l) (nums p) (i : Int) (n : Int) (many : Int) (j : Int) = shelfmarkref1_Base64.l2 f (ba l) (nums (p ++ [61])) (i : Int) (n : Int) (many : Int) ((j + 1 : Nat) : Int) := by
  conv => lhs; simp only [shelfmarkref1_Base64.l2]
  rw [if_pos (by omega), if_neg (by omega), if_pos (by rw [nums_length]; omega), show wrap64 ((j : Int) + 1) = ((j + 1 : Nat) : Int) by unfold wrap64; omega, nums_append]
  rfl
theorem r2_done (l p : List UInt8) (i many n f : Nat) (hi : i ≤ 1000000) :
    shelfmarkref1_Base64.l2 (f + 1) (ba l) (nums p) (i : Int) (n : Int) (many : Int) ((4 : Nat) : Int) = shelfmarkref1_Base64.l0 f (ba l) (nums p) ((i + 3 : Nat) : Int) := by
  conv => lhs; simp only [shelfmarkref1_Base64.l2]
  rw [if_neg (by omega), show wrap64 ((i : Int) + 3) = ((i + 3 : Nat) : Int) by unfold wrap64; omega]
theorem r0_go (l : List UInt8) (hl : l.length ≤ 1000000) (X : List Int) (i many f : Nat) (hi : i < l.length) (hm : many = min 3 (l.length - i)) :
    shelfmarkref1_Base64.l0 (f + 1) (ba l) X (i : Int) = shelfmarkref1_Base64.l1 f (ba l) X (i : Int) ((0 : Nat) : Int) (many : Int) ((0 : Nat) : Int) := by
  conv => lhs; simp only [shelfmarkref1_Base64.l0]
  rw [if_pos (by rw [ba_size]; omega), ba_size, show mn 3 (wrap64 ((l.length : Int) - (i : Int))) = (many : Int) by unfold mn wrap64; split <;> omega]
  rfl
theorem getD_drop {l r : List UInt8} {i : Nat} (h : l.drop i = r) (k : Nat) : l.getD (i + k) 0 = r.getD k 0 := by
  rw [← h]
  simp
theorem rb64_loop (l : List UInt8) (hl : l.length ≤ 1000000) : ∀ (r : List UInt8) (i : Nat) (p : List UInt8) (f : Nat), l.drop i = r → (r = [] ∨ i + r.length = l.length) → l.length ≤ i + r.length → i ≤ l.length + 2 → p.length ≤ 4 * i → 
    shelfmarkref1_Base64.l0 (10 * r.length + 1 + f) (ba l) (nums p) (i : Int) = some (ba (p ++ r64 r))
  | [], i, p, f, hr, hi, hge, h2, hp => by
    rw [show 10 * ([] : List UInt8).length + 1 + f = f + 1 by simp; omega]
    simp only [shelfmarkref1_Base64.l0]
    simp only [List.length_nil, Nat.add_zero] at hge
    rw [if_neg (by rw [ba_size]; omega), str_nums]
    simp [r64]
  | [a], i, p, f, hr, hi, hge, h2, hp => by
    have hil : i + 1 = l.length := by rcases hi with h | h <;> simp at h; exact h
    have ha : l.getD (i + 0) 0 = a := by rw [getD_drop hr]; rfl
    have hab := a.toNat_lt
    rw [show 10 * [a].length + 1 + f = (f + 1) + 1 + 1 + 1 + 1 + 1 + 1 + 1 + 1 + 1 + 1 by simp; omega, r0_go l hl _ i 1 _ (by omega) (by omega), r1_byte l hl _ i 1 0 0 _ (by omega) (by omega) (by omega) (by omega), ha,
      r1_none l _ i 1 _ _ _ (by omega) (by omega) (by omega), r1_none l _ i 1 _ _ _ (by omega) (by omega) (by omega), r1_done,
      r2_letter l p (by omega) i 1 0 _ _ (by omega) (by omega) (by omega), r2_letter l _ (by simp; omega) i 1 _ _ _ (by omega) (by omega) (by omega),
      r2_pad l _ (by simp; omega) i 1 _ _ _ (by omega) (by omega), r2_pad l _ (by simp; omega) i 1 _ _ _ (by omega) (by omega), r2_done l _ i 1 _ _ (by omega)]
    simp only [shelfmarkref1_Base64.l0]
    rw [if_neg (by rw [ba_size]; omega), str_nums, show (0 * 256 + a.toNat) * 256 * 256 = a.toNat * 65536 by omega]
    simp [r64]
  | [a, b], i, p, f, hr, hi, hge, h2, hp => by
    have hil : i + 2 = l.length := by rcases hi with h | h <;> simp at h; exact h
    have ha : l.getD (i + 0) 0 = a := by rw [getD_drop hr]; rfl
    have hb : l.getD (i + (0 + 1)) 0 = b := by rw [getD_drop hr]; rfl
    have hab := a.toNat_lt
    have hbb := b.toNat_lt
    rw [show 10 * [a, b].length + 1 + f = (f + 11) + 1 + 1 + 1 + 1 + 1 + 1 + 1 + 1 + 1 + 1 by simp; omega, r0_go l hl _ i 2 _ (by omega) (by omega), r1_byte l hl _ i 2 0 0 _ (by omega) (by omega) (by omega) (by omega), ha,
      r1_byte l hl _ i 2 (0 + 1) _ _ (by omega) (by omega) (by omega) (by omega), hb, r1_none l _ i 2 _ _ _ (by omega) (by omega) (by omega), r1_done,
      r2_letter l p (by omega) i 2 0 _ _ (by omega) (by omega) (by omega), r2_letter l _ (by simp; omega) i 2 _ _ _ (by omega) (by omega) (by omega),
      r2_letter l _ (by simp; omega) i 2 _ _ _ (by omega) (by omega) (by omega), r2_pad l _ (by simp; omega) i 2 _ _ _ (by omega) (by omega), r2_done l _ i 2 _ _ (by omega), show f + 11 = (f + 10) + 1 by omega]
    simp only [shelfmarkref1_Base64.l0]
    rw [if_neg (by rw [ba_size]; omega), str_nums, show ((0 * 256 + a.toNat) * 256 + b.toNat) * 256 = a.toNat * 65536 + b.toNat * 256 by omega]
    simp [r64]
  | a :: b :: c :: r, i, p, f, hr, hi, hge, h2, hp => by
    have hil : i + (3 + r.length) = l.length := by rcases hi with h | h <;> simp at h; omega
    have ha : l.getD (i + 0) 0 = a := by rw [getD_drop hr]; rfl
    have hb : l.getD (i + (0 + 1)) 0 = b := by rw [getD_drop hr]; rfl
    have hc : l.getD (i + (0 + 1 + 1)) 0 = c := by rw [getD_drop hr]; rfl
    have hab := a.toNat_lt
    have hbb := b.toNat_lt
    have hcb := c.toNat_lt
    have hr2 : l.drop (i + 3) = r := by
      have := congrArg (List.drop 3) hr
      simpa [List.drop_drop] using this
    rw [show 10 * (a :: b :: c :: r).length + 1 + f = (10 * r.length + 1 + (f + 20)) + 1 + 1 + 1 + 1 + 1 + 1 + 1 + 1 + 1 + 1 by simp; omega, r0_go l hl _ i 3 _ (by omega) (by omega), r1_byte l hl _ i 3 0 0 _ (by omega) (by omega) (by omega) (by omega), ha,
      r1_byte l hl _ i 3 (0 + 1) _ _ (by omega) (by omega) (by omega) (by omega), hb, r1_byte l hl _ i 3 (0 + 1 + 1) _ _ (by omega) (by omega) (by omega) (by omega), hc, r1_done,
      r2_letter l p (by omega) i 3 0 _ _ (by omega) (by omega) (by omega), r2_letter l _ (by simp; omega) i 3 _ _ _ (by omega) (by omega) (by omega),
      r2_letter l _ (by simp; omega) i 3 _ _ _ (by omega) (by omega) (by omega), r2_letter l _ (by simp; omega) i 3 _ _ _ (by omega) (by omega) (by omega), r2_done l _ i 3 _ _ (by omega),
      rb64_loop l hl r (i + 3) _ (f + 20) hr2 (.inr (by omega)) (by omega) (by omega) (by simp; omega), show ((0 * 256 + a.toNat) * 256 + b.toNat) * 256 + c.toNat = a.toNat * 65536 + b.toNat * 256 + c.toNat by omega]
    simp [r64]
/-- The reference's 64 letters are this program's. -/
theorem rbase64 (l : List UInt8) (hl : l.length ≤ 1000000) (f : Nat) (hf : 10 * l.length + 1 ≤ f) : shelfmarkref1_Base64.f f (ba l) = some (ba (b64N l)) := by
  have h := rb64_loop l hl l 0 [] (f - (10 * l.length + 1)) rfl (.inr (by omega)) (by omega) (by omega) (by simp)
  rw [show 10 * l.length + 1 + (f - (10 * l.length + 1)) = f by omega, List.nil_append, ← b64N_r64] at h
  exact h
/-- Reading as the reference reads: what is no letter is passed over. -/
def stepR (st : Nat × Nat × List UInt8) (c : UInt8) : Nat × Nat × List UInt8 :=
  if Lib.indexByte t64L c < 0 then st else
  let n := (st.1 * 64 ||| (Lib.indexByte t64L c).toNat) % 1048576
  if 8 ≤ st.2.1 + 6 then (n, st.2.1 + 6 - 8, st.2.2 ++ [UInt8.ofNat (n / 2 ^ (st.2.1 + 6 - 8) % 256)]) else (n, st.2.1 + 6, st.2.2)
theorem byte20 (V g : Nat) (hg : g < 8) : V % 1048576 / 2 ^ g % 256 = V % 65536 / 2 ^ g % 256 := by
  match g, hg with
  | 0, _ | 1, _ | 2, _ | 3, _ | 4, _ | 5, _ | 6, _ | 7, _ => omega
theorem idx64 (c : UInt8) : Lib.indexByte t64L c < 64 := by
  have := idx_lt t64L c
  have : (t64L.length : Int) = 64 := by decide
  omega
theorem stepR_as (n1 n2 h : Nat) (p : List UInt8) (c : UInt8) (hn : n1 % 65536 = n2 % 65536) (hh : h < 8) (hc : 0 ≤ Lib.indexByte t64L c) :
    ∃ m1 m2 h' p', stepR (n1, h, p) c = (m1, h', p') ∧ rdStep t64L 6 (n2, h, p) c = (m2, h', p') ∧ m1 % 65536 = m2 % 65536 ∧ h' < 8 := by
  have hi := idx64 c
  unfold stepR rdStep
  rw [if_neg (by omega)]
  generalize Lib.indexByte t64L c = x at *
  have h1 : n1 * 64 ||| x.toNat = n1 * 64 + x.toNat := or_low n1 x.toNat 6 (by omega)
  have h2 : n2 * 2 ^ 6 ||| x.toNat = n2 * 64 + x.toNat := or_low n2 x.toNat 6 (by omega)
  simp only [h1, h2]
  by_cases h8 : 8 ≤ h + 6
  · rw [if_pos h8, if_pos h8]
    refine ⟨(n1 * 64 + x.toNat) % 1048576, (n2 * 64 + x.toNat) % 65536, h + 6 - 8, _, rfl, ?_, ?_, by omega⟩
    · have e : UInt8.ofNat ((n2 * 64 + x.toNat) % 65536 / 2 ^ (h + 6 - 8)) = UInt8.ofNat ((n1 * 64 + x.toNat) % 1048576 / 2 ^ (h + 6 - 8) % 256) := by
        apply UInt8.toNat_inj.1
        rw [UInt8.toNat_ofNat', UInt8.toNat_ofNat', show (2 : Nat) ^ 8 = 256 from rfl, Nat.mod_mod, byte20 _ _ (by omega), show (n1 * 64 + x.toNat) % 65536 = (n2 * 64 + x.toNat) % 65536 by omega]
      rw [e]
    · omega
  · rw [if_neg h8, if_neg h8]
    exact ⟨_, _, _, _, rfl, rfl, by omega, by omega⟩
theorem readR_as : ∀ (l : List UInt8) (n1 n2 h : Nat) (p : List UInt8), n1 % 65536 = n2 % 65536 → h < 8 → (∀ c ∈ l, 0 ≤ Lib.indexByte t64L c) → (l.foldl stepR (n1, h, p)).2.2 = (l.foldl (rdStep t64L 6) (n2, h, p)).2.2
  | [], _, _, _, _, _, _, _ => rfl
  | c :: l, n1, n2, h, p, hn, hh, hc => by
    obtain ⟨m1, m2, h', p', e1, e2, hm, hh'⟩ := stepR_as n1 n2 h p c hn hh (hc c (by simp))
    rw [List.foldl_cons, List.foldl_cons, e1, e2]
    exact readR_as l m1 m2 h' p' hm hh' fun d hd => hc d (by simp [hd])
theorem readR_pads (st : Nat × Nat × List UInt8) : ∀ n, (List.replicate n (61 : UInt8)).foldl stepR st = st
  | 0 => rfl
  | n + 1 => by
    have e : stepR st 61 = st := by
      unfold stepR
      rw [if_pos (by decide +kernel)]
    rw [List.replicate_succ, List.foldl_cons, e, readR_pads st n]
def dec64 (s : List UInt8) : List UInt8 := (s.foldl stepR (0, 0, [])).2.2
theorem dec64_back (o : List UInt8) : dec64 (b64N o) = o := by
  unfold dec64 b64N
  rw [List.foldl_append, readR_pads, readR_as _ 0 0 0 [] rfl (by omega) fun c hc => (body_ne o c hc).2]
  exact body_back o
theorem stepR_bounds (st : Nat × Nat × List UInt8) (c : UInt8) (h1 : st.1 < 1048576) (h2 : st.2.1 < 8) : (stepR st c).1 < 1048576 ∧ (stepR st c).2.1 < 8 ∧ (stepR st c).2.2.length ≤ st.2.2.length + 1 := by
  unfold stepR
  split
  · exact ⟨h1, h2, by omega⟩
  · simp only []
    split
    · refine ⟨Nat.mod_lt _ (by omega), by simp only []; omega, by simp⟩
    · refine ⟨Nat.mod_lt _ (by omega), by simp only []; omega, by simp⟩
theorem rg64_loop (s : List UInt8) (hs : s.length ≤ 1000000) : ∀ (r : List UInt8) (i : Nat) (st : Nat × Nat × List UInt8) (f : Nat), s.drop i = r → i + r.length = s.length → st.1 < 1048576 → st.2.1 < 8 → st.2.2.length ≤ i → r.length + 10 * s.length + 80 ≤ f →
    shelfmarkref1_GetBase64.l0 f (ba s) (nums st.2.2) (st.1 : Int) (st.2.1 : Int) (i : Int) = some (if b64N (r.foldl stepR st).2.2 = s then (ba (r.foldl stepR st).2.2, true) else (ba [], false))
  | [], i, st, f + 1, hr, hi, h1, h2, hp, hf => by
    simp only [List.length_nil] at hi hf
    simp only [shelfmarkref1_GetBase64.l0]
    rw [if_neg (by rw [ba_size]; omega), str_nums, rbase64 st.2.2 (by omega) f (by omega)]
    simp only [Option.bind_some, ba_toList]
    show _ = some (if b64N st.2.2 = s then (ba st.2.2, true) else (ba [], false))
    by_cases h : b64N st.2.2 = s
    · rw [if_pos h, if_pos h]
    · rw [if_neg h, if_neg h]; rfl
  | c :: r, i, st, f + 1, hr, hi, h1, h2, hp, hf => by
    simp only [List.length_cons] at hi hf
    have hc : s.getD i 0 = c := by rw [show i = i + 0 by omega, getD_drop hr]; rfl
    have hr2 : s.drop (i + 1) = r := by
      have := congrArg (List.drop 1) hr
      simpa [List.drop_drop] using this
    obtain ⟨hb1, hb2, hb3⟩ := stepR_bounds st c h1 h2
    have ih := rg64_loop s hs r (i + 1) (stepR st c) f hr2 (by omega) hb1 hb2 (by omega) (by omega)
    rw [List.foldl_cons, ← ih]
    clear ih
    have h64 : t64L.length = 64 := rfl
    have hx := idx64 c
    conv => lhs; simp only [shelfmarkref1_GetBase64.l0]
    rw [if_pos (by rw [ba_size]; omega), rsixty]
    simp only [Option.bind_some]
    rw [if_pos (by omega), bt_ba s i (by omega), hc, rplace t64L (by omega) c f (by omega)]
    simp only [Option.bind_some]
    rw [show wrap64 ((i : Int) + 1) = ((i + 1 : Nat) : Int) by unfold wrap64; omega]
    unfold stepR
    generalize Lib.indexByte t64L c = x at *
    obtain ⟨n, h, p⟩ := st
    simp only at h1 h2 hp ⊢
    by_cases hneg : x < 0
    · rw [if_pos hneg, if_pos hneg]
    · rw [if_neg hneg, if_neg hneg]
      have hst : Go.bits .and .i64 (Go.bits .or .i64 (wrap64 ((n : Int) * 64)) x) 1048575 = (((n * 64 ||| x.toNat) % 1048576 : Nat) : Int) := by
        have hlow : n * 64 ||| x.toNat = n * 64 + x.toNat := or_low n x.toNat 6 (by omega)
        have h0 := or_i64 (a := n * 64) (b := x.toNat) (by omega) (by omega)
        rw [show ((x.toNat : Nat) : Int) = x by omega] at h0
        rw [show wrap64 ((n : Int) * 64) = ((n * 64 : Nat) : Int) by unfold wrap64; omega, h0]
        have h3 := and_i64 (a := n * 64 ||| x.toNat) (b := 1048575) (by omega) (by omega)
        rw [show (n * 64 ||| x.toNat) &&& 1048575 = (n * 64 ||| x.toNat) % 1048576 from Nat.and_two_pow_sub_one_eq_mod _ 20] at h3
        exact h3
      rw [hst, show wrap64 ((h : Int) + 6) = ((h + 6 : Nat) : Int) by unfold wrap64; omega]
      obtain ⟨y, hy⟩ : ∃ y, (n * 64 ||| x.toNat) % 1048576 = y := ⟨_, rfl⟩
      rw [hy]
      by_cases h8 : 8 ≤ h + 6
      · rw [if_pos (by omega), if_pos h8, show wrap64 (((h + 6 : Nat) : Int) - 8) = ((h + 6 - 8 : Nat) : Int) by unfold wrap64; omega, if_pos (by omega), if_pos (by rw [nums_length]; omega), shr_i64 _ _ (by omega), nums_append]
        congr 1
        congr 1
        simp only [nums, List.map_cons, List.map_nil]
        rw [UInt8.toNat_ofNat']
        congr 1
        omega
      · rw [if_neg (by omega), if_neg h8]
/-- The reference's reading is this program's. -/
theorem rgetb64 (s : List UInt8) (hs : s.length ≤ 1000000) (f : Nat) (hf : 11 * s.length + 80 ≤ f) : shelfmarkref1_GetBase64.f f (ba s) = some (ba (getB64N s).1, (getB64N s).2) := by
  have h := rg64_loop s hs s 0 (0, 0, []) f rfl (by omega) (by simp) (by simp) (by simp) (by omega)
  refine h.trans ?_
  congr 1
  show (if b64N (dec64 s) = s then (ba (dec64 s), true) else (ba [], false)) = _
  by_cases hx : b64N (dec64 s) = s
  · rw [if_pos hx]
    have := getb64_back (dec64 s)
    rw [hx] at this
    rw [this]
  · rw [if_neg hx]
    have h2 : (getB64N s).2 = false := by
      cases hg : (getB64N s).2 with
      | false => rfl
      | true =>
        exfalso
        have h3 := getb64_only s hg
        apply hx
        rw [h3, dec64_back]
    have h4 : getB64N s = ([], false) := by
      unfold getB64N at h2 ⊢
      split
      · rename_i hh; rw [if_pos hh] at h2; cases h2
      · rfl
    rw [h4]
end Go.Proofs.YtalanaongfnndaaDoor.Pure
/- The reference's folding, over bytes alone. -/
namespace Go.Proofs.YtalanaongfnndaaDoor.Pure
open Go.RowKit Go.Proofs.YtalanaongfnndaaDoor Go.Proofs.YtalanaongfnndaaDoor.G Go.Proofs.YtalanaongfnndaaDoorW.PrintWords Go.Proofs.YtalanaongfnndaaDoorW.PrintLast

theorem rfold_loop (l : List UInt8) (hl : l.length ≤ 1000000) (n : Nat) (h1 : 1 ≤ n) (h2 : n ≤ 64) : ∀ d k, k + d = l.length → ∀ f, d < f → shelfmarkref1_Fold.l0 f (ba l) (n : Int) (nums (foldS l n k)) (k : Int) = some (ba (foldS l n l.length))
  | 0, k, hk, f + 1, _ => by
    simp only [shelfmarkref1_Fold.l0]
    rw [if_neg (by rw [ba_size]; omega), str_nums, show k = l.length by omega]
  | d + 1, k, hk, f + 1, hf => by
    have hlt : k < l.length := by omega
    have hm : Int.tmod (k : Int) (n : Int) = ((k % n : Nat) : Int) := by rw [Int.tmod_eq_emod_of_nonneg (by omega)]; simp
    have hmn : k % n < n := Nat.mod_lt _ (by omega)
    have hlen := foldS_length l n k
    simp only [shelfmarkref1_Fold.l0]
    rw [if_pos (by rw [ba_size]; omega), if_neg (by omega), hm, if_pos (by omega), if_pos (by rw [nums_length, hlen]; omega), if_pos (by omega), bt_ba l k hlt, rd_nums _ _ (by omega), xor_u8, Int.toNat_natCast, nums_set,
      show wrap64 ((k : Int) + 1) = ((k + 1 : Nat) : Int) by unfold wrap64; omega]
    exact rfold_loop l hl n h1 h2 d (k + 1) (by omega) f (by omega)
theorem rfold (l : List UInt8) (hl : l.length ≤ 1000000) (n : Int) (f : Nat) (hf : l.length + 2 < f) : shelfmarkref1_Fold.f f (ba l) n = some (ba (foldN l n)) := by
  obtain ⟨f, rfl⟩ : ∃ g, f = g + 1 := ⟨f - 1, by omega⟩
  unfold shelfmarkref1_Fold.f foldN
  by_cases h1 : n < 1
  · rw [if_pos h1, if_pos (.inl h1)]
    simp only [shelfmarkref1_Fold.j0]
    rfl
  · rw [if_neg h1]
    by_cases h2 : n > 64
    · rw [if_pos (.inr h2), decide_eq_true h2]
      simp only [shelfmarkref1_Fold.j0]
      rfl
    · rw [if_neg (by omega), decide_eq_false h2]
      simp only [shelfmarkref1_Fold.j0]
      rw [if_neg (by decide), if_pos (by omega), if_pos (by omega)]
      have h := rfold_loop l hl n.toNat (by omega) (by omega) l.length 0 (by omega) f (by omega)
      have e : nums (foldS l n.toNat 0) = List.replicate n.toNat 0 := by
        simp [foldS, nums]
      rw [e, show ((n.toNat : Nat) : Int) = n by omega] at h
      exact h
end Go.Proofs.YtalanaongfnndaaDoor.Pure
/- CodecAll, over bytes alone: all is the document's. -/
namespace Go.Proofs.YtalanaongfnndaaDoor.Pure
open Go.RowKit Go.Proofs.YtalanaongfnndaaDoor Go.Proofs.YtalanaongfnndaaDoor.G Go.Proofs.YtalanaongfnndaaDoorW.PrintWords Go.Proofs.YtalanaongfnndaaDoorW.PrintLast

theorem awake_f : shelfmarklaw5_awake.f = some true := by decide +kernel
theorem CodecAll (a0 a1 : ByteArray) (a2 : Int) : ∃ k, shelfmarklaw5_CodecAll.f k a0 a1 a2 = some true := by
  obtain ⟨⟨l0⟩⟩ := a0
  obtain ⟨⟨l1⟩⟩ := a1
  have e0 : (⟨⟨l0⟩⟩ : ByteArray) = ba l0 := rfl
  have e1 : (⟨⟨l1⟩⟩ : ByteArray) = ba l1 := rfl
  rw [e0, e1]
  refine ⟨100001, ?_⟩
  unfold shelfmarklaw5_CodecAll.f
  rw [ba_size, ba_size]
  by_cases h0 : (l0.length : Int) > 200
  · rw [if_pos h0]
    simp only [shelfmarklaw5_CodecAll.j0]
    rw [if_pos trivial, awake_f]
    rfl
  · rw [if_neg h0]
    by_cases h1 : (l1.length : Int) > 300
    · rw [decide_eq_true h1]
      simp only [shelfmarklaw5_CodecAll.j0]
      rw [if_pos trivial, awake_f]
      rfl
    · rw [decide_eq_false h1]
      simp only [shelfmarklaw5_CodecAll.j0]
      have g1 : codec_GetHex.f (ba l1) = some (ba (getHexN l1).1, (getHexN l1).2) := if_pos (by rw [ba_size]; omega)
      have g2 : codec_GetBase32.f (ba l1) a2 = some (ba (getB32N l1 a2).1, (getB32N l1 a2).2) := if_pos (by rw [ba_size]; omega)
      have g3 : codec_GetBase64.f (ba l1) = some (ba (getB64N l1).1, (getB64N l1).2) := if_pos (by rw [ba_size]; omega)
      have g4 : codec_Hex.f (ba l0) = some (ba (hexN l0)) := if_pos (by rw [ba_size]; omega)
      have g5 : codec_Base32.f (ba l0) = some (ba (b32N l0)) := if_pos (by rw [ba_size]; omega)
      have g6 : codec_Base64.f (ba l0) = some (ba (b64N l0)) := if_pos (by rw [ba_size]; omega)
      have g7 : codec_Fold.f (ba l0) a2 = some (ba (foldN l0 a2)) := if_pos (by rw [ba_size]; omega)
      rw [if_neg (by decide), g1, g2, g3, g4, g5, g6, g7, rgethex l1 (by omega) 100000 (by omega), rgetb32 l1 (by omega) a2 100000 (by omega), rgetb64 l1 (by omega) 100000 (by omega),
        rhex l0 (by omega) 100000 (by omega), rbase32 l0 (by omega) 100000 (by omega), rbase64 l0 (by omega) 100000 (by omega), rfold l0 (by omega) a2 100000 (by omega), awake_f]
      simp only [Option.bind_some, beq_self_eq_true, if_true]
theorem codecAll_walk (a0 a1 : ByteArray) (a2 : Int) (w : World) (_ : (Lit.int .i64 a2).wf = true) :
    Calls Tryd.prog 5 #[.string a0, .string a1, .int .i64 a2] w fun e w' => e = .returned (.bool true) ∧ Below w.heap.size w w' := by
  obtain ⟨k, h⟩ := CodecAll a0 a1 a2
  refine (shelfmarklaw5_CodecAll.calls k a0 a1 a2 true w h).mono ?_
  rintro e w' ⟨rfl, hd⟩
  exact ⟨rfl, hd⟩
end Go.Proofs.YtalanaongfnndaaDoor.Pure
/- The tied card of CodecAll, out of its walk. -/
namespace Go.Proofs.YtalanaongfnndaaDoor.codecAll
open Go.ChangeShapes Go.WideShapes Go.ChangeAt Go.RowKit
open Go.ChangeMaps (open_string shut_string)
set_option linter.unusedVariables false

theorem own : ownKnob Tryd.prog.godebug = none := by kernel_rfl
theorem contract (H : Type) (enc : TypeId × Value → H) (W : World) (base : Nat) (args : Array Value) (ds gs : List (DataW H)) (before : List MemPlace)
    (hval0 : ∀ (j : Nat) t v, Tryd.f5.params[j]? = some t → args[j]? = some v → Value.okWide Tryd.prog W .any base t v)
    (hW : DataW.Whole enc Tryd.prog Tryd.f5.params.toList Rows.codecAllSpec.vars false W args.toList ds gs before) :
    Calls Tryd.prog 5 args W fun e W' => ∃ v, e = .returned v ∧ Rows.codecAllSpec.post enc Tryd.prog Tryd.f5 false true false false W args v W' := by
  have hval : ∀ (j : Nat) t v, Tryd.f5.params[j]? = some t → args[j]? = some v → Value.okWide Tryd.prog W .any base t v := hval0
  have hW' := hW
  obtain ⟨p, q, hA0, hV, rfl, hfz, hnd⟩ := hW
  have hA : DataW.TrodAll enc Tryd.prog W 0 (fun _ => true) true Tryd.f5.params.toList args.toList ds p := hA0
  rw [Tryd.params5] at hA hval
  obtain ⟨v0, vs0, d0, ds0, p0, q0, hargs, rfl, rfl, h0, r0⟩ := trodAll_cons hA
  obtain ⟨v1, vs1, d1, ds1, p1, q1, rfl, rfl, rfl, h1, r1⟩ := trodAll_cons r0
  obtain ⟨v2, vs2, d2, ds2, p2, q2, rfl, rfl, rfl, h2, r2⟩ := trodAll_cons r1
  obtain ⟨rfl, rfl, rfl⟩ := trodAll_nil r2
  obtain rfl : args = #[v0, v1, v2] := by cases args; simp_all
  obtain ⟨rfl, rfl⟩ := trodVars_none hV
  obtain ⟨a0, rfl, rfl, rfl, y0⟩ := open_string Tryd.underlying9 (hval 0 9 v0 rfl rfl) h0
  obtain ⟨a1, rfl, rfl, rfl, y1⟩ := open_string Tryd.underlying9 (hval 1 9 v1 rfl rfl) h1
  obtain ⟨a2, rfl, rfl, rfl, w2⟩ := open_int Tryd.underlying3 (hval 2 3 v2 rfl rfl) h2
  clear hA0 hval0
  refine (Pure.codecAll_walk a0 a1 a2 W w2).mono fun e W' ⟨he, bel⟩ => ?_
  subst he
  exact ⟨_, rfl, _, _, _, [], _, [], hW', trodAll_mk1 (shut_bool Tryd.underlying4 _), (trodAll_cons_mk (shut_string Tryd.underlying9 y0) (trodAll_cons_mk (shut_string Tryd.underlying9 y1) (trodAll_cons_mk (shut_int Tryd.underlying3 w2) trodAll_mk0))), rfl, bel.frame _, fun h => by cases h⟩
theorem laid_met (os : Os) : laidMet Tryd.prog Rows.codecAllRow.laid ((laidWorld os #[.string ByteArray.empty, .string ByteArray.empty, .int .i64 0]).forCall (fun _ _ => 0) ⟨#[], #[.string ByteArray.empty, .string ByteArray.empty, .int .i64 0], []⟩).memory :=
  laidMet_of_run' 8 (by kernel_rfl) (by kernel_rfl)
theorem reads (os : Os) {H : Type} (enc : TypeId × Value → H) : ∃ places, DataW.whole enc Tryd.prog ((laidWorld os #[.string ByteArray.empty, .string ByteArray.empty, .int .i64 0]).forCall (fun _ _ => 0) ⟨#[], #[.string ByteArray.empty, .string ByteArray.empty, .int .i64 0], []⟩).memory Tryd.f5.params.toList Rows.codecAllSpec.vars false [.string ByteArray.empty, .string ByteArray.empty, .int .i64 0] 8 = some ([.lit (.string []), .lit (.string []), .lit (.int .i64 0)], [], places) :=
  ⟨[], by kernel_rfl⟩
set_option maxRecDepth 100000 in
theorem lifted (os : Os) (started : os.Started) (H : Type) (enc : TypeId × Value → H) (F : Stop.Interp) :
    ReturnsInHanded {} Tryd.checked os 5 .any ((OpenSpec.ofChange Rows.codecAllSpec).preRow enc Tryd.prog Tryd.f5 Rows.codecAllRow.domain false Rows.codecAllRow.laid) (((OpenSpec.ofChange Rows.codecAllSpec).at F).post enc Tryd.prog Tryd.f5 false true false false) := by
  obtain ⟨places, hx⟩ := reads os enc
  refine returnsInHanded_of_row (C := Tryd.checked) (s := OpenSpec.ofChange Rows.codecAllSpec) own started (by kernel_rfl) Tryd.func5
    (witness_row_at (enc := enc) (C := Tryd.checked) false (laidWorld os #[.string ByteArray.empty, .string ByteArray.empty, .int .i64 0]) #[.string ByteArray.empty, .string ByteArray.empty, .int .i64 0] rfl (by kernel_rfl) (by kernel_rfl) (by kernel_rfl)
      (OpenSpec.preRow_of_cond 8 hx (by kernel_rfl) (fun k hk => by cases hk) (by kernel_rfl) (laid_met os))) ?_
  intro W base args ds gs before hval hW _ _ _ _ _ _
  exact contract H enc W base args ds gs before hval hW
theorem said : Rows.CodecAllSaid :=
  OpenClaim.holds_of_cond 5 Tryd.f5 rfl rfl rfl rfl rfl rfl rfl ⟨rfl, rfl, rfl, rfl, rfl⟩ rfl rfl rfl rfl rfl (by kernel_rfl) Tryd.func5 (by kernel_rfl)
    (of_decide_eq_true (by kernel_rfl)) (by unfold Func.isWrapper; first | (rw [if_pos (by decide +kernel)]; kernel_rfl) | (rw [if_neg (by decide +kernel)]; exact ⟨rfl, rfl⟩))
    (fun os started H enc _ F => by rw [OpenClaim.pre_eq_preRow]; exact lifted os started H enc F)
/-- No parameter wants a stand-in; the program's own looks are off. -/
theorem plain (f : FuncId) (fn : Func) (hf : Tryd.pinned.checked.prog.funcNamed "shelfmark/shelfmarklaw5.CodecAll" = some f) (hfn : Tryd.pinned.checked.prog.funcs[f]? = some fn) :
    false = Tryd.pinned.checked.prog.looks [] ∧ ∀ (j : Nat) t, fn.params[j]? = some t → Tryd.pinned.checked.prog.wantsStandIn t = false := by
  obtain rfl : f = 5 := Option.some.inj ((show Tryd.prog.funcNamed "shelfmark/shelfmarklaw5.CodecAll" = some 5 by kernel_rfl).symm.trans hf) |>.symm
  obtain rfl : fn = Tryd.f5 := (Option.some.inj (Tryd.func5.symm.trans hfn)).symm
  refine ⟨by kernel_rfl, fun j t ht => ?_⟩
  rw [Tryd.params5] at ht
  have hm : t ∈ [9, 9, 3] := by simpa using Array.mem_of_getElem? ht
  have hall : ([9, 9, 3].all fun u => !Tryd.prog.wantsStandIn u) = true := by kernel_rfl
  exact (show Tryd.prog.wantsStandIn t = false by simpa using List.all_eq_true.1 hall t hm)
/-- The card. -/
theorem proved : Rows.CodecAllCardSaid :=
  Claim7.holds_tied_plain_at .later [] _ _ _ _ said (fun _ h => by cases h) (by kernel_rfl) (fun _ h => by cases h) codecAll_row_tie rfl ⟨rfl, rfl⟩ (by kernel_rfl) rfl plain (by kernel_rfl)
#print axioms proved
end Go.Proofs.YtalanaongfnndaaDoor.codecAll
