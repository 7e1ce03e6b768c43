/- Walks: the scalar laws' own example; ScalarLaws. -/
import Derived.Test.YtihbjlpohjohpaaSc6
namespace Go.Proofs.Ytihbjlpohjohpaa
open Go.RowKit Go.Shelf

/-- A product and a number, modulo the order. -/
def maN (a b c : Nat) : Nat := (a * b + c) % ordN
theorem maN_lt (a b c : Nat) : maN a b c < ordN := Nat.mod_lt _ ordN_pos
theorem ma4 (a b c : Nat) : maN a b c < B ^ 4 := Nat.lt_trans (maN_lt a b c) ordN_lt
theorem ma_any (a b c : Nat) (w : World) (ha : a < B ^ 4) (hb : b < B ^ 4) (hc : c < B ^ 4) : Ret Try.prog 34 #[numV a, numV b, numV c] w (numV (maN a b c)) := mulAdd_any a b c w ha hb hc
abbrev oneV : Value := .agg #[.int .u64 1, .int .u64 0, .int .u64 0, .int .u64 0]
abbrev zeroV : Value := .agg #[.int .u64 0, .int .u64 0, .int .u64 0, .int .u64 0]
theorem numV_one : numV 1 = oneV := numV_small 1 (by decide)
theorem numV_zero : numV 0 = zeroV := numV_small 0 (by decide)
theorem one4 : 1 < B ^ 4 := by decide
theorem zero4 : 0 < B ^ 4 := by decide
theorem ma_x1x (a c : Nat) (w : World) (ha : a < B ^ 4) (hc : c < B ^ 4) : Ret Try.prog 34 #[numV a, oneV, numV c] w (numV (maN a 1 c)) := numV_one ▸ ma_any a 1 c w ha one4 hc
theorem ma_0xx (b c : Nat) (w : World) (hb : b < B ^ 4) (hc : c < B ^ 4) : Ret Try.prog 34 #[zeroV, numV b, numV c] w (numV (maN 0 b c)) := numV_zero ▸ ma_any 0 b c w zero4 hb hc
theorem ma_x10 (a : Nat) (w : World) (ha : a < B ^ 4) : Ret Try.prog 34 #[numV a, oneV, zeroV] w (numV (maN a 1 0)) := numV_zero ▸ numV_one ▸ ma_any a 1 0 w ha one4 zero4
theorem ma_xx0 (a b : Nat) (w : World) (ha : a < B ^ 4) (hb : b < B ^ 4) : Ret Try.prog 34 #[numV a, numV b, zeroV] w (numV (maN a b 0)) := numV_zero ▸ ma_any a b 0 w ha hb zero4
theorem ma_x11 (a : Nat) (w : World) (ha : a < B ^ 4) : Ret Try.prog 34 #[numV a, oneV, oneV] w (numV (maN a 1 1)) := by
  have h := ma_any a 1 1 w ha one4 one4
  rw [numV_one] at h
  exact h
theorem ma_352 (w : World) : Ret Try.prog 34 #[.agg #[.int .u64 3, .int .u64 0, .int .u64 0, .int .u64 0], .agg #[.int .u64 5, .int .u64 0, .int .u64 0, .int .u64 0], .agg #[.int .u64 2, .int .u64 0, .int .u64 0, .int .u64 0]] w (numV 17) := by
  have h := ma_any 3 5 2 w (by decide) (by decide) (by decide)
  rw [numV_small 3 (by decide), numV_small 5 (by decide), numV_small 2 (by decide), show maN 3 5 2 = 17 by decide +kernel] at h
  exact h
theorem red_five (w : World) : Ret Try.prog 39 #[.string ⟨#[5]⟩] w (numV 5) := by
  have h := reduce_any [5] w (by decide)
  rw [show redN [5] = 5 by decide +kernel] at h
  exact h
theorem eqSmall5 (a : Nat) (w : World) : (Op.equalIn 10000 24 (numV a) (.agg #[.int .u64 5, .int .u64 0, .int .u64 0, .int .u64 0])).run Try.prog w = .ok (decide (a % B ^ 4 = 5)) w := eqSmall a 5 (by decide) w
theorem eqSmall17 (a : Nat) (w : World) : (Op.equalIn 10000 24 (numV a) (.agg #[.int .u64 17, .int .u64 0, .int .u64 0, .int .u64 0])).run Try.prog w = .ok (decide (a % B ^ 4 = 17)) w := eqSmall a 17 (by decide) w
attribute [local go_sem] eqSmall5 eqSmall17

set_option maxRecDepth 100000 in
theorem awake7 (w : World) : Ret Try.prog 36 #[] w (.bool true) := by
  refine Ret.of ?_
  have h5 : 5 % B ^ 4 = 5 := by decide
  have h17 : 17 % B ^ 4 = 17 := by decide
  go_enter Try.func36, Try.ntmps36
  go_wp2_with fail
  refine (red_five _).out.mono ?_
  rintro _ _ ⟨rfl, x1, rfl⟩
  go_wp2_with fail
  refine (ma_352 _).out.mono ?_
  rintro _ _ ⟨rfl, x2, rfl⟩
  go_wp2_with fail
  refine bodyPost_ret (v := .bool true) (by simp [results, Try.results36, go_sem]) rfl ⟨rfl, ?_⟩
  repeat (first | exact Below.refl _ _ | refine Below.setCell ?_ (by first | (simp; done) | (simp; omega) | (simp [size_plus]; done) | (simp [size_plus]; omega)) _ | refine Below.alloc ?_ (by first | (simp; done) | (simp; omega) | (simp [size_plus]; done) | (simp [size_plus]; omega)) _ | refine Below.drew ?_ | refine Below.plus ?_ (by first | (simp; done) | (simp; omega) | (simp [size_plus]; done) | (simp [size_plus]; omega)) _)

theorem maN_comm (a b c : Nat) : maN a b c = maN b a c := by unfold maN; rw [Nat.mul_comm]
theorem maN_sum (a b c d : Nat) : maN a b (maN a c d) = maN a (maN b 1 c) d := by
  unfold maN
  rw [Nat.mul_one, Nat.add_mod_mod, Nat.add_mod (a * ((b + c) % ordN)), Nat.mul_mod_mod, ← Nat.add_mod, Nat.mul_add, Nat.add_assoc]
theorem maN_ord (a c : Nat) : maN 0 a c = maN a ordN c := by
  unfold maN
  rw [Nat.zero_mul, Nat.zero_add, Nat.add_mod, Nat.mul_mod_left, Nat.zero_add, Nat.mod_mod]
theorem maN_ord0 (a : Nat) : maN a 1 0 = maN a 1 ordN := by
  unfold maN
  rw [Nat.add_mod_right, Nat.add_zero]

/-- The calls that the laws make, by names that nothing unfolds. -/
structure ScCalls (M : Nat → Nat → Nat → Nat) (q : Nat) : Prop where
  ma : ∀ a b c W, a < B ^ 4 → b < B ^ 4 → c < B ^ 4 → Ret Try.prog 34 #[numV a, numV b, numV c] W (numV (M a b c))
  x1x : ∀ a c W, a < B ^ 4 → c < B ^ 4 → Ret Try.prog 34 #[numV a, oneV, numV c] W (numV (M a 1 c))
  zxx : ∀ b c W, b < B ^ 4 → c < B ^ 4 → Ret Try.prog 34 #[zeroV, numV b, numV c] W (numV (M 0 b c))
  x10 : ∀ a W, a < B ^ 4 → Ret Try.prog 34 #[numV a, oneV, zeroV] W (numV (M a 1 0))
  xx0 : ∀ a b W, a < B ^ 4 → b < B ^ 4 → Ret Try.prog 34 #[numV a, numV b, zeroV] W (numV (M a b 0))
  x11 : ∀ a W, a < B ^ 4 → Ret Try.prog 34 #[numV a, oneV, oneV] W (numV (M a 1 1))
  m4 : ∀ a b c, M a b c < B ^ 4
  q4 : q < B ^ 4
  ord : ∀ W, Ret Try.prog 35 #[] W (numV q)
theorem scCalls : ScCalls maN ordN := ⟨ma_any, ma_x1x, ma_0xx, ma_x10, ma_xx0, ma_x11, ma4, ordN_lt, orderR_any⟩

set_option maxRecDepth 100000 in
set_option maxHeartbeats 2000000 in
theorem scalarLaws_gen (M : Nat → Nat → Nat → Nat) (q : Nat) (S : ScCalls M q) (a b c d : Nat) (w : World) (ha : a < B ^ 4) (hb : b < B ^ 4) (hc : c < B ^ 4) (hd : d < B ^ 4)
    (h1 : M b a c = M a b c) (h2 : M a b (M a c d) = M a (M b 1 c) d) (h3 : M 0 a c = M a q c) (h4 : M a 1 0 = M a 1 q) (h7 : M b 1 c % B ^ 4 < q % B ^ 4) : Ret Try.prog 9 #[numV a, numV b, numV c, numV d] w (.bool true) := by
  refine Ret.of ?_
  go_enter Try.func9, Try.ntmps9
  go_wp2_with fail
  refine (S.x1x b c _ hb hc).out.mono ?_
  rintro _ _ ⟨rfl, x1, rfl⟩
  go_wp2_with fail
  refine wp_region_plain 53 71 mixed (by kernel_rfl) (by kernel_rfl) rfl (fun _ _ _ _ _ h => h) ?_
  simp only [List.take_succ_cons, List.take_zero, List.drop_succ_cons, List.drop_zero]
  repeat (first | (refine wpHead_skip rfl ?_) | (refine wpHead_run rfl rfl (fun K hK => ?_); go_simp; first | (refine hK _ ?_; clear hK K) | (apply Exists.intro; refine ⟨fun _ => ?_, hK _ ?_⟩; (with_reducible first | (refine S.ma _ _ _ _ ?_ ?_ ?_ <;> first | assumption | exact S.m4 _ _ _ | exact S.q4) | (refine S.x1x _ _ _ ?_ ?_ <;> first | assumption | exact S.q4) | (refine S.zxx _ _ _ ?_ ?_ <;> first | assumption | exact S.q4) | (refine S.x10 _ _ ?_; assumption) | exact S.ord _ | exact lessR_any _ _ _ | exact awake7 _); clear hK K)) | (refine wpHead_want rfl rfl (fun K hK => ?_); go_simp; first | (refine hK _ ?_; clear hK K) | (apply Exists.intro; refine ⟨fun _ => ?_, hK _ ?_⟩; (with_reducible first | (refine S.ma _ _ _ _ ?_ ?_ ?_ <;> first | assumption | exact S.m4 _ _ _ | exact S.q4) | (refine S.x1x _ _ _ ?_ ?_ <;> first | assumption | exact S.q4) | (refine S.zxx _ _ _ ?_ ?_ <;> first | assumption | exact S.q4) | (refine S.x10 _ _ ?_; assumption) | exact S.ord _ | exact lessR_any _ _ _ | exact awake7 _); clear hK K)) | (refine wpHead_pass rfl rfl ?_; simp only [Act.put, List.setIfInBounds_toArray, List.set_cons_succ, List.set_cons_zero]))
  refine wpHead_nil ?_
  intro zz x5
  clear zz
  go_wp2_with fail
  refine bodyPost_ret (v := .bool true) (by simp [results, Try.results9, go_sem]) rfl ⟨rfl, ?_⟩
  repeat (first | exact Below.refl _ _ | refine Below.setCell ?_ (by first | (simp; done) | (simp; omega) | (simp [size_plus]; done) | (simp [size_plus]; omega)) _ | refine Below.alloc ?_ (by first | (simp; done) | (simp; omega) | (simp [size_plus]; done) | (simp [size_plus]; omega)) _ | refine Below.drew ?_ | refine Below.plus ?_ (by first | (simp; done) | (simp; omega) | (simp [size_plus]; done) | (simp [size_plus]; omega)) _)
theorem scalarLaws_any (a b c d : Nat) (w : World) (ha : a < B ^ 4) (hb : b < B ^ 4) (hc : c < B ^ 4) (hd : d < B ^ 4) : Ret Try.prog 9 #[numV a, numV b, numV c, numV d] w (.bool true) :=
  scalarLaws_gen maN ordN scCalls a b c d w ha hb hc hd (maN_comm b a c) (maN_sum a b c d) (maN_ord a c) (maN_ord0 a) (by
    rw [Nat.mod_eq_of_lt (ma4 _ _ _), Nat.mod_eq_of_lt ordN_lt]
    exact maN_lt _ _ _)
end Go.Proofs.Ytihbjlpohjohpaa
