/- Numbers of four words as values of the program, and calls that add and subtract words. -/
import Derived.Test.YtihbjlpohjohpaaChecked
import Derived.Test.YtihbjlpohjohpaaFieldMath
import Derived.Test.YtihbjlpohjohpaaWords
import Derived.Test.YtihbjlpohjohpaaPlus
import Derived.WalkKit
import Derived.Shelf.Spec.BitsCarry
import Derived.Shelf.Bits.Mul64
import Derived.Lib.Hide
namespace Go.Proofs.Ytihbjlpohjohpaa
open Go.RowKit

theorem add64 (x y c : Nat) (hc : c ≤ 1) (w : World) :
    (callFunc 44 #[.int .u64 x, .int .u64 y, .int .u64 c]).run Try.prog w = .ok (.value (.tuple #[.int .u64 (addS x y c), .int .u64 (addC x y c)])) w := by
  rw [run_callFunc_extern Try.func44 (by kernel_rfl) (by kernel_rfl) (by kernel_rfl) (e := add64Entry) (by kernel_rfl), run_add64 x y c (by omega) (by omega) (by omega) (by omega)]
  simp only [Result.andThen, addS, addC, B]
  congr 5 <;> omega

theorem add64z (x y : Nat) (w : World) :
    (callFunc 44 #[.int .u64 x, .int .u64 y, .int .u64 0]).run Try.prog w = .ok (.value (.tuple #[.int .u64 (addS x y 0), .int .u64 (addC x y 0)])) w := add64 x y 0 (by omega) w

theorem add64zz (x : Nat) (w : World) :
    (callFunc 44 #[.int .u64 x, .int .u64 0, .int .u64 0]).run Try.prog w = .ok (.value (.tuple #[.int .u64 (addS x 0 0), .int .u64 (addC x 0 0)])) w := add64 x 0 0 (by omega) w

theorem sub64 (x y b : Nat) (hb : b ≤ 1) (w : World) :
    (callFunc 62 #[.int .u64 x, .int .u64 y, .int .u64 b]).run Try.prog w = .ok (.value (.tuple #[.int .u64 (subS x y b), .int .u64 (subB x y b)])) w := by
  rw [run_callFunc_extern Try.func62 (by kernel_rfl) (by kernel_rfl) (by kernel_rfl) (e := sub64Entry) (by kernel_rfl), run_sub64 x y b hb]
  rfl

theorem sub64z (x y : Nat) (w : World) :
    (callFunc 62 #[.int .u64 x, .int .u64 y, .int .u64 0]).run Try.prog w = .ok (.value (.tuple #[.int .u64 (subS x y 0), .int .u64 (subB x y 0)])) w := sub64 x y 0 (by omega) w

theorem idx0 (x0 x1 x2 x3 : Value) (w : World) : (Instr.index 24 (.agg #[x0, x1, x2, x3]) (.int .i64 0)).run Try.prog w = .ok x0 w := by kernel_rfl
theorem idx1 (x0 x1 x2 x3 : Value) (w : World) : (Instr.index 24 (.agg #[x0, x1, x2, x3]) (.int .i64 1)).run Try.prog w = .ok x1 w := by kernel_rfl
theorem idx2 (x0 x1 x2 x3 : Value) (w : World) : (Instr.index 24 (.agg #[x0, x1, x2, x3]) (.int .i64 2)).run Try.prog w = .ok x2 w := by kernel_rfl
theorem idx3 (x0 x1 x2 x3 : Value) (w : World) : (Instr.index 24 (.agg #[x0, x1, x2, x3]) (.int .i64 3)).run Try.prog w = .ok x3 w := by kernel_rfl

theorem sub64bo (x y a b i : Nat) (w : World) :
    (callFunc 62 #[.int .u64 x, .int .u64 y, .int .u64 (bo a b i)]).run Try.prog w = .ok (.value (.tuple #[.int .u64 (subS x y (bo a b i)), .int .u64 (subB x y (bo a b i))])) w := sub64 x y _ (bo_le a b i) w
theorem add64cz (x y a b i : Nat) (w : World) :
    (callFunc 44 #[.int .u64 x, .int .u64 y, .int .u64 (cz a b i)]).run Try.prog w = .ok (.value (.tuple #[.int .u64 (addS x y (cz a b i)), .int .u64 (addC x y (cz a b i))])) w := add64 x y _ (cz_le a b i) w
theorem bo_pos (a b i : Nat) : 0 < bo a b i ↔ a % B ^ i < b % B ^ i := by
  unfold bo
  split <;> simp [*]
attribute [go_sem] idx0 idx1 idx2 idx3 add64z add64zz sub64z sub64bo add64cz
attribute [go_sem] subB_bo0 subB_bo1 subB_bo2 subB_bo3 subS_bo0 subS_bo1 subS_bo2 subS_bo3

attribute [go_sem] cell?_plus frozen?_plus shape?_plus setCell_plus plus_drew drew_plus tape_plus size_plus has_alloc has_plus_iff has_setCell has_drew cell?_alloc_has frozen?_alloc_has setCell_alloc_has headOp headAt headUpon isAlloc

theorem wrap_u64_nat (n : Nat) (h : n < 18446744073709551616) : IntKind.u64.wrap (n : Int) = n := by
  rw [IntKind.wrap_u64]
  omega
/-- A sum of words, as the walk writes it. -/
theorem wrap_add (x y : Nat) : IntKind.u64.wrap ((x : Int) + (y : Int)) = ((addS x y 0 : Nat) : Int) := by
  unfold addS B
  rw [IntKind.wrap_u64]
  omega
theorem mixed : Try.prog.follows .mixedOrders = true := by kernel_rfl
theorem alloc24 (o : Oper) (ho : o.op = .alloc 24) (ρ : Operand → Value) (w : World) : (execOp ρ o).run Try.prog w = .ok (.value (.pointer (some ⟨w.heap.size, 0, none⟩))) (w.alloc (.cells #[.int .u64 0, .int .u64 0, .int .u64 0, .int .u64 0] 24)) := by
  obtain ⟨dst, op, type, pos, after, guard⟩ := o
  dsimp only at ho
  subst ho
  simp [execOp, go_sem]

/-- A number as the program holds it. -/
abbrev numV (n : Nat) : Value := .agg #[.int .u64 (nw n 0), .int .u64 (nw n 1), .int .u64 (nw n 2), .int .u64 (nw n 3)]

theorem numV_mod (n : Nat) : numV (n % B ^ 4) = numV n := by
  unfold numV
  rw [nw_mod _ 0 (by omega), nw_mod _ 1 (by omega), nw_mod _ 2 (by omega), nw_mod _ 3 (by omega)]
theorem numV_ofw {a0 a1 a2 a3 : Nat} (h0 : a0 < B) (h1 : a1 < B) (h2 : a2 < B) (h3 : a3 < B) : numV (ofw a0 a1 a2 a3) = .agg #[.int .u64 a0, .int .u64 a1, .int .u64 a2, .int .u64 a3] := by
  obtain ⟨e0, e1, e2, e3⟩ := ofw_words h0 h1 h2 h3
  unfold numV
  rw [e0, e1, e2, e3]

end Go.Proofs.Ytihbjlpohjohpaa
