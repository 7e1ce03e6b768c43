/- Walks: numbers that a text names, numbers compared, the references' prime and less, and the laws' own example. -/
import Derived.Test.YtihbjlpohjohpaaFieldW2
namespace Go.Proofs.Ytihbjlpohjohpaa
open Go.RowKit

theorem numV_small (k : Nat) (hk : k < B) : numV k = .agg #[.int .u64 k, .int .u64 0, .int .u64 0, .int .u64 0] := by
  have h := numV_ofw hk (show 0 < B by decide) (show 0 < B by decide) (show 0 < B by decide)
  rw [show ofw k 0 0 0 = k by simp [ofw]] at h
  exact h

theorem eq24 (a0 a1 a2 a3 b0 b1 b2 b3 : Int) (w : World) : (Op.equalIn 10000 24 (.agg #[.int .u64 a0, .int .u64 a1, .int .u64 a2, .int .u64 a3]) (.agg #[.int .u64 b0, .int .u64 b1, .int .u64 b2, .int .u64 b3])).run Try.prog w = .ok (decide (a0 = b0 ∧ a1 = b1 ∧ a2 = b2 ∧ a3 = b3)) w := by
  have u3 := Try.underlying22
  have i3 := Try.isAgg22
  have z3 := Try.sizeOf22
  rw [show (10000 : Nat) = 9999 + 1 from rfl, Op.equalIn]
  simp only [Sem.run_bind, run_underlying Try.underlying24, Result.andThen_ok]
  simp only [Std.Legacy.Range.forIn_eq_forIn_range', Std.Legacy.Range.size, Nat.sub_zero, Nat.add_sub_cancel, Nat.div_one, List.range'_succ, List.range'_zero, List.forIn_cons, List.forIn_nil]
  go_simp
  by_cases h1 : a0 = b0 <;> by_cases h2 : a1 = b1 <;> by_cases h3 : a2 = b2 <;> by_cases h4 : a3 = b3 <;> simp [h1, h2, h3, h4]
theorem eqNum (a b : Nat) (w : World) : (Op.equalIn 10000 24 (numV a) (numV b)).run Try.prog w = .ok (decide (a % B ^ 4 = b % B ^ 4)) w := by
  rw [eq24]
  congr 2
  refine propext ⟨fun ⟨h0, h1, h2, h3⟩ => nw_inj (Nat.mod_lt _ (by decide)) (Nat.mod_lt _ (by decide)) (by rw [nw_mod _ 0 (by omega), nw_mod _ 0 (by omega)]; omega) (by rw [nw_mod _ 1 (by omega), nw_mod _ 1 (by omega)]; omega) (by rw [nw_mod _ 2 (by omega), nw_mod _ 2 (by omega)]; omega) (by rw [nw_mod _ 3 (by omega), nw_mod _ 3 (by omega)]; omega), fun h => ?_⟩
  have e : ∀ i, i < 4 → nw a i = nw b i := fun i hi => by rw [← nw_mod a i hi, h, nw_mod b i hi]
  rw [e 0 (by omega), e 1 (by omega), e 2 (by omega), e 3 (by omega)]
  exact ⟨rfl, rfl, rfl, rfl⟩

theorem eqSmall (a k : Nat) (hk : k < B) (w : World) : (Op.equalIn 10000 24 (numV a) (.agg #[.int .u64 k, .int .u64 0, .int .u64 0, .int .u64 0])).run Try.prog w = .ok (decide (a % B ^ 4 = k)) w := by
  rw [← numV_small k hk, eqNum, Nat.mod_eq_of_lt (show k < B ^ 4 from Nat.lt_of_lt_of_le hk (by decide))]
theorem eqSmall0 (a : Nat) (w : World) : (Op.equalIn 10000 24 (numV a) (.agg #[.int .u64 0, .int .u64 0, .int .u64 0, .int .u64 0])).run Try.prog w = .ok (decide (a % B ^ 4 = 0)) w := eqSmall a 0 (by decide) w
theorem eqSmall1 (a : Nat) (w : World) : (Op.equalIn 10000 24 (numV a) (.agg #[.int .u64 1, .int .u64 0, .int .u64 0, .int .u64 0])).run Try.prog w = .ok (decide (a % B ^ 4 = 1)) w := eqSmall a 1 (by decide) w
theorem eqSmall15 (a : Nat) (w : World) : (Op.equalIn 10000 24 (numV a) (.agg #[.int .u64 15, .int .u64 0, .int .u64 0, .int .u64 0])).run Try.prog w = .ok (decide (a % B ^ 4 = 15)) w := eqSmall a 15 (by decide) w
theorem eqSmall37 (a : Nat) (w : World) : (Op.equalIn 10000 24 (numV a) (.agg #[.int .u64 37, .int .u64 0, .int .u64 0, .int .u64 0])).run Try.prog w = .ok (decide (a % B ^ 4 = 37)) w := eqSmall a 37 (by decide) w
attribute [go_sem] eqNum eqSmall eqSmall0 eqSmall1 eqSmall15 eqSmall37

set_option maxRecDepth 100000 in
theorem primeR_any (w : World) : Ret Try.prog 18 #[] w (numV Ar.pp) := by
  refine Ret.of ?_
  go_enter Try.func18, Try.ntmps18
  go_wp2_with fail
  refine bodyPost_ret (v := numV Ar.pp) (by simp [results, Try.results18, go_sem]; exact ⟨by decide +kernel, by decide +kernel, by decide +kernel, by decide +kernel⟩) rfl ⟨rfl, ?_⟩
  repeat (first | exact Below.refl _ _ | refine Below.setCell ?_ (by first | (simp; done) | (simp; omega) | (simp [size_plus]; done) | (simp [size_plus]; omega)) _ | refine Below.alloc ?_ (by first | (simp; done) | (simp; omega) | (simp [size_plus]; done) | (simp [size_plus]; omega)) _ | refine Below.drew ?_ | refine Below.plus ?_ (by first | (simp; done) | (simp; omega) | (simp [size_plus]; done) | (simp [size_plus]; omega)) _)

set_option maxRecDepth 100000 in
theorem awake6 (w : World) : Ret Try.prog 19 #[] w (.bool true) := by
  refine Ret.of ?_
  go_enter Try.func19, Try.ntmps19
  go_wp2_with fail
  refine (primeR_any _).out.mono ?_
  rintro _ _ ⟨rfl, x1, rfl⟩
  go_wp2_with fail
  refine (norm_any Ar.pp _ pp_lt).out.mono ?_
  rintro _ _ ⟨rfl, x2, rfl⟩
  go_wp2_with fail
  refine (mul_any 3 5 _ (by decide) (by decide)).out.mono ?_
  rintro _ _ ⟨rfl, x3, rfl⟩
  go_wp2_with fail
  refine bodyPost_ret (v := .bool true) (by simp [results, Try.results19, go_sem]; decide +kernel) rfl ⟨rfl, ?_⟩
  repeat (first | exact Below.refl _ _ | refine Below.setCell ?_ (by first | (simp; done) | (simp; omega) | (simp [size_plus]; done) | (simp [size_plus]; omega)) _ | refine Below.alloc ?_ (by first | (simp; done) | (simp; omega) | (simp [size_plus]; done) | (simp [size_plus]; omega)) _ | refine Below.drew ?_ | refine Below.plus ?_ (by first | (simp; done) | (simp; omega) | (simp [size_plus]; done) | (simp [size_plus]; omega)) _)

theorem mul4 (a b : Nat) : Ar.mulN a b < B ^ 4 := Nat.lt_trans (Ar.mulN_lt a b) pp_lt
theorem add4 (a b : Nat) : Ar.addN a b < B ^ 4 := Nat.lt_trans (Ar.addN_lt a b) pp_lt
theorem sub4 (a b : Nat) : Ar.subN a b < B ^ 4 := Nat.lt_trans (Ar.subN_lt a b) pp_lt
theorem mod4 (a : Nat) : a % Ar.pp < B ^ 4 := Nat.lt_trans (Nat.mod_lt _ Ar.pp_pos) pp_lt

/-- Words from the top: which of two numbers is less. -/
theorem less_top {a b : Nat} : (nw a 3 ≠ nw b 3 → decide (nw a 3 < nw b 3) = decide (a % B ^ 4 < b % B ^ 4)) ∧ (nw a 3 = nw b 3 → (nw a 2 ≠ nw b 2 → decide (nw a 2 < nw b 2) = decide (a % B ^ 4 < b % B ^ 4)) ∧
    (nw a 2 = nw b 2 → (nw a 1 ≠ nw b 1 → decide (nw a 1 < nw b 1) = decide (a % B ^ 4 < b % B ^ 4)) ∧ (nw a 1 = nw b 1 → (nw a 0 ≠ nw b 0 → decide (nw a 0 < nw b 0) = decide (a % B ^ 4 < b % B ^ 4)) ∧
    (nw a 0 = nw b 0 → false = decide (a % B ^ 4 < b % B ^ 4))))) := by
  have ea : ofw (nw a 0) (nw a 1) (nw a 2) (nw a 3) = a % B ^ 4 := by
    have := ofw_nw (Nat.mod_lt a (show 0 < B ^ 4 by decide))
    rwa [nw_mod a 0 (by omega), nw_mod a 1 (by omega), nw_mod a 2 (by omega), nw_mod a 3 (by omega)] at this
  have eb : ofw (nw b 0) (nw b 1) (nw b 2) (nw b 3) = b % B ^ 4 := by
    have := ofw_nw (Nat.mod_lt b (show 0 < B ^ 4 by decide))
    rwa [nw_mod b 0 (by omega), nw_mod b 1 (by omega), nw_mod b 2 (by omega), nw_mod b 3 (by omega)] at this
  have ha := fun i => nw_lt' a i
  have hb := fun i => nw_lt' b i
  rw [← ea, ← eb]
  have := ha 0; have := ha 1; have := ha 2; have := ha 3
  have := hb 0; have := hb 1; have := hb 2; have := hb 3
  simp only [ofw, B] at *
  refine ⟨fun h => ?_, fun h3 => ⟨fun h => ?_, fun h2 => ⟨fun h => ?_, fun h1 => ⟨fun h => ?_, fun h0 => ?_⟩⟩⟩⟩
  all_goals first | (congr 1; refine propext ⟨fun h' => ?_, fun h' => ?_⟩ <;> omega) | (exact (decide_eq_false (by omega)).symm)

set_option maxRecDepth 100000 in
theorem lessR_any (a b : Nat) (w : World) : Ret Try.prog 17 #[numV a, numV b] w (.bool (decide (a % B ^ 4 < b % B ^ 4))) := by
  refine Ret.of ?_
  have H := Lib.hid (@less_top a b)
  go_enter Try.func17, Try.ntmps17
  go_wp2_with fail
  refine wp_loop_rounds 5 ?_
  rw [rounds_succ]
  go_wp2_with fail
  go_region
  by_cases h3 : nw a 3 = nw b 3
  rotate_left
  · go_wp2_with fail
    go_region
    go_wp2_with fail
    refine bodyPost_ret (v := .bool (decide (nw a 3 < nw b 3))) (by simp [results, Try.results17, go_sem]) rfl ⟨by rw [H.out.1 h3], ?_⟩
    repeat (first | exact Below.refl _ _ | refine Below.setCell ?_ (by first | (simp; done) | (simp; omega) | (simp [size_plus]; done) | (simp [size_plus]; omega)) _ | refine Below.alloc ?_ (by first | (simp; done) | (simp; omega) | (simp [size_plus]; done) | (simp [size_plus]; omega)) _ | refine Below.drew ?_ | refine Below.plus ?_ (by first | (simp; done) | (simp; omega) | (simp [size_plus]; done) | (simp [size_plus]; omega)) _)
  go_wp2_with fail
  rw [rounds_succ]
  go_wp2_with fail
  go_region
  by_cases h2 : nw a 2 = nw b 2
  rotate_left
  · go_wp2_with fail
    go_region
    go_wp2_with fail
    refine bodyPost_ret (v := .bool (decide (nw a 2 < nw b 2))) (by simp [results, Try.results17, go_sem]) rfl ⟨by rw [(H.out.2 h3).1 h2], ?_⟩
    repeat (first | exact Below.refl _ _ | refine Below.setCell ?_ (by first | (simp; done) | (simp; omega) | (simp [size_plus]; done) | (simp [size_plus]; omega)) _ | refine Below.alloc ?_ (by first | (simp; done) | (simp; omega) | (simp [size_plus]; done) | (simp [size_plus]; omega)) _ | refine Below.drew ?_ | refine Below.plus ?_ (by first | (simp; done) | (simp; omega) | (simp [size_plus]; done) | (simp [size_plus]; omega)) _)
  go_wp2_with fail
  rw [rounds_succ]
  go_wp2_with fail
  go_region
  by_cases h1 : nw a 1 = nw b 1
  rotate_left
  · go_wp2_with fail
    go_region
    go_wp2_with fail
    refine bodyPost_ret (v := .bool (decide (nw a 1 < nw b 1))) (by simp [results, Try.results17, go_sem]) rfl ⟨by rw [((H.out.2 h3).2 h2).1 h1], ?_⟩
    repeat (first | exact Below.refl _ _ | refine Below.setCell ?_ (by first | (simp; done) | (simp; omega) | (simp [size_plus]; done) | (simp [size_plus]; omega)) _ | refine Below.alloc ?_ (by first | (simp; done) | (simp; omega) | (simp [size_plus]; done) | (simp [size_plus]; omega)) _ | refine Below.drew ?_ | refine Below.plus ?_ (by first | (simp; done) | (simp; omega) | (simp [size_plus]; done) | (simp [size_plus]; omega)) _)
  go_wp2_with fail
  rw [rounds_succ]
  go_wp2_with fail
  go_region
  by_cases h0 : nw a 0 = nw b 0
  rotate_left
  · go_wp2_with fail
    go_region
    go_wp2_with fail
    refine bodyPost_ret (v := .bool (decide (nw a 0 < nw b 0))) (by simp [results, Try.results17, go_sem]) rfl ⟨by rw [(((H.out.2 h3).2 h2).2 h1).1 h0], ?_⟩
    repeat (first | exact Below.refl _ _ | refine Below.setCell ?_ (by first | (simp; done) | (simp; omega) | (simp [size_plus]; done) | (simp [size_plus]; omega)) _ | refine Below.alloc ?_ (by first | (simp; done) | (simp; omega) | (simp [size_plus]; done) | (simp [size_plus]; omega)) _ | refine Below.drew ?_ | refine Below.plus ?_ (by first | (simp; done) | (simp; omega) | (simp [size_plus]; done) | (simp [size_plus]; omega)) _)
  go_wp2_with fail
  rw [rounds_succ]
  go_wp2_with fail
  refine bodyPost_ret (v := .bool (false)) (by simp [results, Try.results17, go_sem]) rfl ⟨by rw [(((H.out.2 h3).2 h2).2 h1).2 h0], ?_⟩
  repeat (first | exact Below.refl _ _ | refine Below.setCell ?_ (by first | (simp; done) | (simp; omega) | (simp [size_plus]; done) | (simp [size_plus]; omega)) _ | refine Below.alloc ?_ (by first | (simp; done) | (simp; omega) | (simp [size_plus]; done) | (simp [size_plus]; omega)) _ | refine Below.drew ?_ | refine Below.plus ?_ (by first | (simp; done) | (simp; omega) | (simp [size_plus]; done) | (simp [size_plus]; omega)) _)

end Go.Proofs.Ytihbjlpohjohpaa
