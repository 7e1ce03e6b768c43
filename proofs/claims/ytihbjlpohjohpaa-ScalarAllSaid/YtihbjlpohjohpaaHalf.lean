/- Walks: numbers as rows of half words. -/
import Derived.Test.YtihbjlpohjohpaaRef6c
namespace Go.Proofs.Ytihbjlpohjohpaa
open Go.RowKit

def H : Nat := 4294967296
theorem H_pos : 0 < H := by decide
/-- The number of a row of half words. -/
def vh : List Nat → Nat
  | [] => 0
  | x :: r => x + H * vh r
/-- A number's half words. -/
def hs (a : Nat) : List Nat := [nw a 0 % H, nw a 0 / H, nw a 1 % H, nw a 1 / H, nw a 2 % H, nw a 2 / H, nw a 3 % H, nw a 3 / H]
theorem hs_lt (a j : Nat) : (hs a).getD j 0 < H := by
  have l0 := nw_lt' a 0
  have l1 := nw_lt' a 1
  have l2 := nw_lt' a 2
  have l3 := nw_lt' a 3
  unfold hs H
  rcases j with _ | _ | _ | _ | _ | _ | _ | _ | j <;> simp <;> omega
theorem vh_hs (a : Nat) (ha : a < B ^ 4) : vh (hs a) = a := by
  have e := ofw_nw ha
  conv => rhs; rw [← e]
  simp only [vh, hs, ofw, H, B]
  omega
theorem low_half (x : Nat) (hx : x < B) : bits BinOp.and IntKind.u64 (x : Int) 4294967295 = ((x % H : Nat) : Int) := by
  have h := bits_and_u64_nat x 4294967295 hx (by omega)
  rw [show ((4294967295 : Int)) = ((4294967295 : Nat) : Int) from rfl, h, show x &&& 4294967295 = x % 2 ^ 32 from Nat.and_two_pow_sub_one_eq_mod x 32]
  rfl
theorem high_half (x : Nat) : (x : Int) / 4294967296 = ((x / H : Nat) : Int) := rfl

set_option maxRecDepth 100000 in
theorem halves_any (a : Nat) (w : World) : Ret Try.prog 65 #[numV a] w (.agg (cellsU (hs a))) := by
  refine Ret.of ?_
  have n0 := low_half _ (nw_lt a 0)
  have n1 := low_half _ (nw_lt a 1)
  have n2 := low_half _ (nw_lt a 2)
  have n3 := low_half _ (nw_lt a 3)
  go_enter Try.func65, Try.ntmps65
  go_wp2_with fail
  refine wp_loop_rounds 5 ?_
  iterate 4 (rw [rounds_succ]; go_wp2_with fail)
  rw [rounds_succ]
  go_wp2_with fail
  refine bodyPost_ret (v := .agg (cellsU (hs a))) (by simp [results, Try.results65, go_sem, cellsU, hs]; exact ⟨rfl, rfl, rfl, rfl⟩) rfl ⟨rfl, ?_⟩
  repeat (first | exact Below.refl _ _ | refine Below.setCell ?_ (by first | (simp; done) | (simp; omega) | (simp [size_plus]; done) | (simp [size_plus]; omega)) _ | refine Below.alloc ?_ (by first | (simp; done) | (simp; omega) | (simp [size_plus]; done) | (simp [size_plus]; omega)) _ | refine Below.drew ?_ | refine Below.plus ?_ (by first | (simp; done) | (simp; omega) | (simp [size_plus]; done) | (simp [size_plus]; omega)) _)

theorem join_half {x y : Nat} (hx : x < H) (hy : y < H) : bits BinOp.or IntKind.u64 (x : Int) (IntKind.u64.wrap ((y : Int) * 4294967296)) = ((x + H * y : Nat) : Int) := by
  unfold H at *
  rw [show (y : Int) * 4294967296 = ((4294967296 * y : Nat) : Int) by omega, wrap_u64_nat _ (by omega), bits_or_u64_nat x _ (by omega) (by omega)]
  congr 1
  rw [Nat.or_comm, show 4294967296 * y = 2 ^ 32 * y from rfl, ← Nat.two_pow_add_eq_or_of_lt (show x < 2 ^ 32 from hx), Nat.add_comm]
theorem vh_words {l0 l1 l2 l3 l4 l5 l6 l7 : Nat} : vh [l0, l1, l2, l3, l4, l5, l6, l7] = ofw (l0 + H * l1) (l2 + H * l3) (l4 + H * l5) (l6 + H * l7) := by
  simp only [vh, ofw, H, B]
  omega

set_option maxRecDepth 100000 in
theorem whole_any (l0 l1 l2 l3 l4 l5 l6 l7 : Nat) (w : World) (h0 : l0 < H) (h1 : l1 < H) (h2 : l2 < H) (h3 : l3 < H) (h4 : l4 < H) (h5 : l5 < H) (h6 : l6 < H) (h7 : l7 < H) :
    Ret Try.prog 64 #[.agg (cellsU [l0, l1, l2, l3, l4, l5, l6, l7])] w (numV (vh [l0, l1, l2, l3, l4, l5, l6, l7])) := by
  refine Ret.of ?_
  have j0 := join_half h0 h1
  have j1 := join_half h2 h3
  have j2 := join_half h4 h5
  have j3 := join_half h6 h7
  have hn := numV_ofw (a0 := l0 + H * l1) (a1 := l2 + H * l3) (a2 := l4 + H * l5) (a3 := l6 + H * l7) (by unfold H B at *; omega) (by unfold H B at *; omega) (by unfold H B at *; omega) (by unfold H B at *; omega)
  rw [← vh_words] at hn
  have HN := Lib.hid hn
  clear hn
  simp only [cellsU, List.map_cons, List.map_nil]
  go_enter Try.func64, Try.ntmps64
  go_wp2_with fail
  refine wp_loop_rounds 5 ?_
  iterate 4 (rw [rounds_succ]; go_wp2_with fail; go_region; go_wp2_with fail)
  rw [rounds_succ]
  go_wp2_with fail
  rw [HN.out]
  refine bodyPost_ret (v := .agg #[.int .u64 ((l0 + H * l1 : Nat) : Int), .int .u64 ((l2 + H * l3 : Nat) : Int), .int .u64 ((l4 + H * l5 : Nat) : Int), .int .u64 ((l6 + H * l7 : Nat) : Int)]) (by simp [results, Try.results64, go_sem]) rfl ⟨rfl, ?_⟩
  repeat (first | exact Below.refl _ _ | refine Below.setCell ?_ (by first | (simp; done) | (simp; omega) | (simp [size_plus]; done) | (simp [size_plus]; omega)) _ | refine Below.alloc ?_ (by first | (simp; done) | (simp; omega) | (simp [size_plus]; done) | (simp [size_plus]; omega)) _ | refine Below.drew ?_ | refine Below.plus ?_ (by first | (simp; done) | (simp; omega) | (simp [size_plus]; done) | (simp [size_plus]; omega)) _)
end Go.Proofs.Ytihbjlpohjohpaa
