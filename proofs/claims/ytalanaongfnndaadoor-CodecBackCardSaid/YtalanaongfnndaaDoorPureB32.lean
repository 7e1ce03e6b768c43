/- No program in it: 32 letters are read back. -/
import Derived.Test.YtalanaongfnndaaDoorGet5
namespace Go.Proofs.YtalanaongfnndaaDoor
open Go.RowKit Go.Shelf

theorem idx_t32L : ∀ i : Fin 32, Lib.indexByte t32L (t32L.getD i.1 0) = (i.1 : Int) := by decide +kernel
theorem idx_t32L' {i : Nat} (h : i < 32) : Lib.indexByte t32L (t32L.getD i 0) = (i : Int) := idx_t32L ⟨i, h⟩
/-- The lowest k bytes of a number. -/
def bytesN (N k : Nat) : List UInt8 := (List.range k).map fun i => UInt8.ofNat (N / 2 ^ (8 * i) % 256)
theorem bytesN_succ (N k : Nat) : bytesN N (k + 1) = bytesN N k ++ [UInt8.ofNat (N / 2 ^ (8 * k) % 256)] := by simp [bytesN, List.range_succ]
theorem bytesN_ofle : ∀ o : List UInt8, bytesN (ofle o) o.length = o := by
  intro o
  apply List.ext_getElem (by simp [bytesN])
  intro i h1 h2
  simp only [bytesN, List.getElem_map, List.getElem_range]
  have key : ∀ (o : List UInt8) (i : Nat) (h : i < o.length), ofle o / 2 ^ (8 * i) % 256 = o[i].toNat := by
    intro o
    induction o with
    | nil => intro i h; simp at h
    | cons b l ih =>
      intro i h
      have hb := b.toNat_lt
      cases i with
      | zero => simp [ofle]
      | succ i =>
        rw [show 8 * (i + 1) = 8 + 8 * i by omega, Nat.pow_add, ← Nat.div_div_eq_div_mul, show ofle (b :: l) / 2 ^ 8 = ofle l by simp [ofle]; omega]
        exact ih i (by simpa using h)
  rw [key o i h2]
  simp
theorem rd_b32 (N : Nat) : ∀ j, ∃ k h, 5 * j = 8 * k + h ∧ h < 8 ∧ rd32 (let32 N j) = (N / 2 ^ (8 * k) % 2 ^ h, h, bytesN N k)
  | 0 => ⟨0, 0, rfl, by omega, by simp [let32, rd32, bytesN, Nat.mod_one]⟩
  | j + 1 => by
    obtain ⟨k, h, hj, hh, he⟩ := rd_b32 N j
    have hd : N / 2 ^ (5 * j) % 32 < 32 := Nat.mod_lt _ (by omega)
    have hx : N / 2 ^ (5 * j) = N / 2 ^ (8 * k) / 2 ^ h := by rw [hj, Nat.pow_add, Nat.div_div_eq_div_mul]
    have hn : ((N / 2 ^ (8 * k) % 2 ^ h) ||| (N / 2 ^ (5 * j) % 32) * 2 ^ h) = N / 2 ^ (8 * k) % 2 ^ (h + 5) := by
      have hlt : N / 2 ^ (8 * k) % 2 ^ h < 2 ^ h := Nat.mod_lt _ (Nat.pow_pos (by omega))
      rw [Nat.or_comm, Nat.mul_comm (N / 2 ^ (5 * j) % 32) (2 ^ h), ← Nat.two_pow_add_eq_or_of_lt hlt, hx, Nat.pow_add 2 h 5, Nat.mod_mul, show (2 : Nat) ^ 5 = 32 from rfl]
      omega
    rw [let32_succ, rd32_snoc, he]
    have hs : rdStep32 (N / 2 ^ (8 * k) % 2 ^ h, h, bytesN N k) (t32L.getD (N / 2 ^ (5 * j) % 32) 0) =
        if 8 ≤ h + 5 then (N / 2 ^ (8 * k) % 2 ^ (h + 5) / 256, h + 5 - 8, bytesN N k ++ [UInt8.ofNat (N / 2 ^ (8 * k) % 2 ^ (h + 5))]) else (N / 2 ^ (8 * k) % 2 ^ (h + 5), h + 5, bytesN N k) := by
      unfold rdStep32
      rw [idx_t32L' hd]
      simp only [Int.toNat_natCast, hn]
    rw [hs]
    by_cases h8 : 8 ≤ h + 5
    · rw [if_pos h8]
      refine ⟨k + 1, h + 5 - 8, by omega, by omega, ?_⟩
      have e1 : (2 : Nat) ^ (h + 5) = 2 ^ 8 * 2 ^ (h + 5 - 8) := by rw [← Nat.pow_add]; congr 1; omega
      have e2 : N / 2 ^ (8 * k) % 2 ^ (h + 5) / 256 = N / 2 ^ (8 * (k + 1)) % 2 ^ (h + 5 - 8) := by
        rw [e1, show (256 : Nat) = 2 ^ 8 from rfl, Nat.mod_mul_right_div_self, show 8 * (k + 1) = 8 * k + 8 by omega, Nat.pow_add 2 (8 * k) 8, Nat.div_div_eq_div_mul]
      have e3 : UInt8.ofNat (N / 2 ^ (8 * k) % 2 ^ (h + 5)) = UInt8.ofNat (N / 2 ^ (8 * k) % 256) := by
        apply UInt8.toNat_inj.1
        rw [UInt8.toNat_ofNat', UInt8.toNat_ofNat', e1, show (2 : Nat) ^ 8 = 256 from rfl, Nat.mod_mul_right_mod]
        omega
      rw [e2, e3, bytesN_succ]
    · rw [if_neg h8]
      exact ⟨k, h + 5, by omega, by omega, rfl⟩
theorem b32_letters (o : List UInt8) : ∀ c ∈ b32N o, 0 ≤ Lib.indexByte t32L c := by
  intro c hc
  unfold b32N let32 at hc
  obtain ⟨j, _, rfl⟩ := List.mem_map.1 (List.mem_reverse.1 hc)
  rw [idx_t32L' (Nat.mod_lt _ (by omega))]
  omega
/-- 32 letters are read back. -/
theorem getb32_back (o : List UInt8) (ho : o.length ≤ 64) : getB32N (b32N o) (o.length : Int) = (o, true) := by
  obtain ⟨k, h, hj, hh, he⟩ := rd_b32 (ofle o) ((8 * o.length + 4) / 5)
  have hk : k = o.length := by omega
  have hr : rd32 (b32N o).reverse = (ofle o / 2 ^ (8 * k) % 2 ^ h, h, bytesN (ofle o) k) := by
    unfold b32N
    rw [List.reverse_reverse]
    exact he
  have h3 : (rd32 (b32N o).reverse).2.2 = o := by rw [hr, hk]; exact bytesN_ofle o
  unfold getB32N
  rw [h3, if_pos ⟨by omega, by omega, b32_letters o, rfl, rfl⟩]
/-- What is said by letters is just what they say. -/
theorem getb32_only (l : List UInt8) (n : Int) (h : (getB32N l n).2 = true) : l = b32N (getB32N l n).1 ∧ ((getB32N l n).1.length : Int) = n ∧ 0 ≤ n ∧ n ≤ 64 := by
  unfold getB32N at *
  split at h
  · rename_i hh
    rw [if_pos hh]
    exact ⟨hh.2.2.2.2.symm, hh.2.2.2.1, hh.1, hh.2.1⟩
  · cases h
end Go.Proofs.YtalanaongfnndaaDoor
