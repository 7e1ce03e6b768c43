/- Walks: the reference's product. -/
import Derived.Test.YtihbjlpohjohpaaHalf
namespace Go.Proofs.Ytihbjlpohjohpaa
open Go.RowKit

theorem alloc56 (o : Oper) (ho : o.op = .alloc 56) (ρ : Operand → Value) (w : World) : (execOp ρ o).run Try.prog w = .ok (.value (.pointer (some ⟨w.heap.size, 0, none⟩))) (w.alloc (.cells (cellsU [0, 0, 0, 0, 0, 0, 0, 0]) 56)) := by
  obtain ⟨dst, op, type, pos, after, guard⟩ := o
  dsimp only at ho
  subst ho
  simp [execOp, go_sem, cellsU]

theorem vh_set : ∀ (l : List Nat) (j v : Nat), j < l.length → vh (l.set j v) + l.getD j 0 * H ^ j = vh l + v * H ^ j
  | x :: r, 0, v, _ => by simp [vh]; omega
  | x :: r, j + 1, v, h => by
    have ih := vh_set r j v (by simpa using h)
    simp only [List.set_cons_succ, vh, List.getD_cons_succ, Nat.pow_succ]
    have e1 : r.getD j 0 * (H ^ j * H) = H * (r.getD j 0 * H ^ j) := by grind
    have e2 : v * (H ^ j * H) = H * (v * H ^ j) := by grind
    rw [e1, e2]
    have : H * vh (r.set j v) + H * (r.getD j 0 * H ^ j) = H * vh r + H * (v * H ^ j) := by rw [← Nat.mul_add, ih, Nat.mul_add]
    omega
/-- The number of the first k half words. -/
def vt (l : List Nat) (k : Nat) : Nat := vh (l.take k)
theorem vt_succ (l : List Nat) (k : Nat) (hk : k < l.length) : vt l (k + 1) = vt l k + l.getD k 0 * H ^ k := by
  unfold vt
  induction l generalizing k with
  | nil => simp at hk
  | cons x r ih =>
    cases k with
    | zero => simp [vh]
    | succ k =>
      have := ih k (by simpa using hk)
      simp only [List.take_succ_cons, vh, this, List.getD_cons_succ, Nat.pow_succ]
      grind
theorem vt_all (l : List Nat) (k : Nat) (hk : l.length ≤ k) : vt l k = vh l := by unfold vt; rw [List.take_of_length_le hk]

/-- One half word of a product on. -/
theorem hstep {x y c z : Nat} (hx : x < H) (hy : y < H) (hc : c < H) (hz : z < H) : x * y + c + z < B ∧ (x * y + c + z) / H < H := by
  have h1 : x * y ≤ (H - 1) * (H - 1) := Nat.mul_le_mul (by omega) (by omega)
  have h2 : (H - 1) * (H - 1) + 2 * (H - 1) + 1 = B := by decide
  have h3 : x * y + c + z < B := by omega
  refine ⟨h3, ?_⟩
  apply Nat.div_lt_of_lt_mul
  have : H * H = B := by decide
  omega
theorem hmul_step {p k i c : Nat} {l l' q : List Nat} (hlen : l'.length = 16) (hik : i + k < 16) (hk : k < q.length)
    (h : vh l' + c * H ^ (i + k) = vh l + p * vt q k * H ^ i) :
    vh (l'.set (i + k) ((p * q.getD k 0 + c + l'.getD (i + k) 0) % H)) + (p * q.getD k 0 + c + l'.getD (i + k) 0) / H * H ^ (i + (k + 1)) = vh l + p * vt q (k + 1) * H ^ i := by
  have h1 := vh_set l' (i + k) ((p * q.getD k 0 + c + l'.getD (i + k) 0) % H) (by omega)
  have h2 := Nat.mod_add_div (p * q.getD k 0 + c + l'.getD (i + k) 0) H
  rw [vt_succ q k hk]
  generalize l'.getD (i + k) 0 = z at *
  generalize q.getD k 0 = y at *
  generalize (p * y + c + z) % H = L at *
  generalize (p * y + c + z) / H = M at *
  have e1 : (L + H * M) * H ^ (i + k) = (p * y + c + z) * H ^ (i + k) := by rw [h2]
  have e2 : M * H ^ (i + (k + 1)) = H * M * H ^ (i + k) := by rw [← Nat.add_assoc, Nat.pow_succ]; grind
  have e3 : p * (vt q k + y * H ^ k) * H ^ i = p * vt q k * H ^ i + p * y * H ^ (i + k) := by rw [Nat.pow_add]; grind
  have e4 : (L + H * M) * H ^ (i + k) = L * H ^ (i + k) + H * M * H ^ (i + k) := Nat.add_mul _ _ _
  have e5 : (p * y + c + z) * H ^ (i + k) = p * y * H ^ (i + k) + c * H ^ (i + k) + z * H ^ (i + k) := by rw [Nat.add_mul, Nat.add_mul]
  rw [e2, e3]
  omega
theorem hmul_row {p i c : Nat} {l l' q s : List Nat} (hs : i < s.length) (hp : s.getD i 0 = p) (hlen : l'.length = 16) (hi : i < 8) (h0 : l'.getD (i + 8) 0 = 0)
    (hl : vh l = vt s i * vh q) (h : vh l' + c * H ^ (i + 8) = vh l + p * vh q * H ^ i) : vh (l'.set (i + 8) c) = vt s (i + 1) * vh q := by
  have h1 := vh_set l' (i + 8) c (by omega)
  rw [h0] at h1
  rw [vt_succ s i hs, hp, Nat.add_mul]
  have : p * H ^ i * vh q = p * vh q * H ^ i := by grind
  omega
end Go.Proofs.Ytihbjlpohjohpaa
