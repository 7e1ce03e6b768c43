/- No program in it: sixteen letters are read back. -/
import Derived.Test.YtalanaongfnndaaDoorGet4
namespace Go.Proofs.YtalanaongfnndaaDoor
open Go.RowKit Go.Shelf

theorem idx_hexL : ∀ i : Fin 16, Lib.indexByte hexL (hexL.getD i.1 0) = (i.1 : Int) := by decide +kernel
theorem idx_hexL' {i : Nat} (h : i < 16) : Lib.indexByte hexL (hexL.getD i 0) = (i : Int) := idx_hexL ⟨i, h⟩
theorem or_low (x y b : Nat) (h : y < 2 ^ b) : (x * 2 ^ b ||| y) = x * 2 ^ b + y := by
  rw [Nat.mul_comm, ← Nat.two_pow_add_eq_or_of_lt h]
theorem hexN_snoc (o : List UInt8) (c : UInt8) : hexN (o ++ [c]) = hexN o ++ [hexL.getD (c.toNat / 16) 0, hexL.getD (c.toNat % 16) 0] := by
  unfold hexN
  rw [List.flatMap_append]
  rfl
theorem rd_hex (o : List UInt8) : ∃ n, n < 65536 ∧ rdBits hexL 4 (hexN o) = (n, 0, o) := by
  have H : ∀ n (o : List UInt8), o.length = n → ∃ n, n < 65536 ∧ rdBits hexL 4 (hexN o) = (n, 0, o) := by
    intro n
    induction n with
    | zero => intro o ho; rw [List.eq_nil_of_length_eq_zero ho]; exact ⟨0, by omega, rfl⟩
    | succ n ih =>
      intro o ho
      have hne : o ≠ [] := by rintro rfl; simp at ho
      rw [← List.dropLast_concat_getLast hne]
      obtain ⟨a, ha, he⟩ := ih o.dropLast (by simp [ho])
      generalize o.getLast hne = c at *
      generalize o.dropLast = p at *
      have hc := c.toNat_lt
      rw [hexN_snoc, show hexN p ++ [hexL.getD (c.toNat / 16) 0, hexL.getD (c.toNat % 16) 0] = (hexN p ++ [hexL.getD (c.toNat / 16) 0]) ++ [hexL.getD (c.toNat % 16) 0] by simp, rd_snoc, rd_snoc, he]
      have s1 : rdStep hexL 4 (a, 0, p) (hexL.getD (c.toNat / 16) 0) = ((a * 2 ^ 4 ||| c.toNat / 16) % 65536, 4, p) := by
        unfold rdStep
        rw [idx_hexL' (show c.toNat / 16 < 16 by omega)]
        rfl
      have s2 : ∀ b, rdStep hexL 4 (b, 4, p) (hexL.getD (c.toNat % 16) 0) = ((b * 2 ^ 4 ||| c.toNat % 16) % 65536, 0, p ++ [UInt8.ofNat ((b * 2 ^ 4 ||| c.toNat % 16) % 65536 / 2 ^ 0)]) := fun b => by
        unfold rdStep
        rw [idx_hexL' (show c.toNat % 16 < 16 by omega)]
        rfl
      rw [s1, s2, or_low _ _ 4 (by omega), or_low _ _ 4 (by omega), Nat.pow_zero, Nat.div_one]
      refine ⟨((a * 2 ^ 4 + c.toNat / 16) % 65536 * 2 ^ 4 + c.toNat % 16) % 65536, Nat.mod_lt _ (by omega), ?_⟩
      congr 3
      congr 1
      apply UInt8.toNat_inj.1
      rw [UInt8.toNat_ofNat']
      omega
  exact H _ o rfl
theorem hex_letters (o : List UInt8) : ∀ c ∈ hexN o, 0 ≤ Lib.indexByte hexL c := by
  intro c hc
  obtain ⟨d, _, hd⟩ := List.mem_flatMap.1 hc
  have hl := d.toNat_lt
  simp only [List.mem_cons, List.not_mem_nil, or_false] at hd
  rcases hd with rfl | rfl
  · rw [idx_hexL' (by omega)]; omega
  · rw [idx_hexL' (by omega)]; omega
/-- Sixteen letters are read back. -/
theorem gethex_back (o : List UInt8) : getHexN (hexN o) = (o, true) := by
  obtain ⟨n, _, he⟩ := rd_hex o
  unfold getHexN
  rw [he, if_pos ⟨hex_letters o, rfl⟩]
/-- What is said by letters is just what they say. -/
theorem gethex_only (l : List UInt8) (h : (getHexN l).2 = true) : l = hexN (getHexN l).1 := by
  unfold getHexN at *
  split at h
  · rename_i hh
    rw [if_pos hh, hh.2]
  · cases h
end Go.Proofs.YtalanaongfnndaaDoor
