/- Walks: the reference's differences, norms, sums. -/
import Derived.Test.YtihbjlpohjohpaaLawFE
namespace Go.Proofs.Ytihbjlpohjohpaa
open Go.RowKit

theorem add_one_any (a : Nat) (w : World) : Ret Try.prog 22 #[numV a, .agg #[.int .u64 1, .int .u64 0, .int .u64 0, .int .u64 0]] w (.tuple #[numV (a + 1), .int .u64 (cz a 1 4)]) := by
  have h := addNum_any a 1 w
  rw [numV_small 1 (by decide)] at h
  exact h
/-- A word turned over. -/
theorem not_word (x : Nat) (hx : x < B) : bits BinOp.xor IntKind.u64 IntKind.u64.max (x : Int) = ((B - 1 - x : Nat) : Int) := by
  have h := bits_xor_u64_nat 18446744073709551615 x (by omega) hx
  rw [show IntKind.u64.max = ((18446744073709551615 : Nat) : Int) by decide, h]
  congr 1
  have e := congrArg BitVec.toNat (BitVec.allOnes_xor (x := BitVec.ofNat 64 x))
  rw [BitVec.toNat_xor, BitVec.toNat_not, BitVec.toNat_allOnes, BitVec.toNat_ofNat, Nat.mod_eq_of_lt (show x < 2 ^ 64 from hx)] at e
  exact e
/-- All words turned over. -/
def comp (b : Nat) : Nat := ofw (B - 1 - nw b 0) (B - 1 - nw b 1) (B - 1 - nw b 2) (B - 1 - nw b 3)
theorem comp_eq (b : Nat) : comp b + b % B ^ 4 = B ^ 4 - 1 := by
  have e : ofw (nw b 0) (nw b 1) (nw b 2) (nw b 3) = b % B ^ 4 := by
    have := ofw_nw (Nat.mod_lt b (show 0 < B ^ 4 by decide))
    rwa [nw_mod b 0 (by omega), nw_mod b 1 (by omega), nw_mod b 2 (by omega), nw_mod b 3 (by omega)] at this
  have h0 := nw_lt' b 0
  have h1 := nw_lt' b 1
  have h2 := nw_lt' b 2
  have h3 := nw_lt' b 3
  rw [← e]
  unfold comp ofw B
  simp only [Nat.reducePow]
  omega
theorem comp_num (b : Nat) : Value.agg #[.int .u64 ((B - 1 - nw b 0 : Nat) : Int), .int .u64 ((B - 1 - nw b 1 : Nat) : Int), .int .u64 ((B - 1 - nw b 2 : Nat) : Int), .int .u64 ((B - 1 - nw b 3 : Nat) : Int)] = numV (comp b) :=
  (numV_ofw (by unfold B; omega) (by unfold B; omega) (by unfold B; omega) (by unfold B; omega)).symm
theorem comp_sub (a b : Nat) : numV (a + comp b + 1) = numV (dif a b) := by
  have h := comp_eq b
  have hb := Nat.div_add_mod b (B ^ 4)
  rw [← numV_mod (a + comp b + 1), ← numV_mod (dif a b)]
  congr 1
  have h4 : 0 < B ^ 4 := by decide
  unfold dif
  have e : a + comp b + 1 = a + B ^ 4 * 1 - b % B ^ 4 := by omega
  rw [e]
  have hlt := Nat.mod_lt b h4
  generalize hq : b / B ^ 4 = q at *
  generalize hr : b % B ^ 4 = r at *
  rw [show a + B ^ 4 * (q + 1) - b = a + B ^ 4 * 1 - r by rw [← hb, Nat.mul_add]; omega]

set_option maxRecDepth 100000 in
theorem subNum_any (a b : Nat) (w : World) : Ret Try.prog 53 #[numV a, numV b] w (numV (dif a b)) := by
  refine Ret.of ?_
  have n0 := not_word _ (nw_lt b 0)
  have n1 := not_word _ (nw_lt b 1)
  have n2 := not_word _ (nw_lt b 2)
  have n3 := not_word _ (nw_lt b 3)
  go_enter Try.func53, Try.ntmps53
  go_wp2_with fail
  refine wp_loop_rounds 5 ?_
  iterate 4 (rw [rounds_succ]; go_wp2_with fail)
  rw [rounds_succ]
  go_wp2_with fail
  have hc := addNum_any a (comp b)
  rw [← comp_num] at hc
  refine (hc _).out.mono ?_
  rintro _ _ ⟨rfl, x1, rfl⟩
  go_wp2_with fail
  refine (add_one_any (a + comp b) _).out.mono ?_
  rintro _ _ ⟨rfl, x2, rfl⟩
  go_wp2_with fail
  refine bodyPost_ret (v := numV (a + comp b + 1)) (by simp [results, Try.results53, go_sem]) rfl ⟨by rw [comp_sub], ?_⟩
  repeat (first | exact Below.refl _ _ | refine Below.setCell ?_ (by first | (simp; done) | (simp; omega) | (simp [size_plus]; done) | (simp [size_plus]; omega)) _ | refine Below.alloc ?_ (by first | (simp; done) | (simp; omega) | (simp [size_plus]; done) | (simp [size_plus]; omega)) _ | refine Below.drew ?_ | refine Below.plus ?_ (by first | (simp; done) | (simp; omega) | (simp [size_plus]; done) | (simp [size_plus]; omega)) _)

theorem subNum_le (a : Nat) (w : World) (h : Ar.pp ≤ a) (ha : a < B ^ 4) : Ret Try.prog 53 #[numV a, numV Ar.pp] w (numV (a - Ar.pp)) := by
  have hs := subNum_any a Ar.pp w
  have hp : Ar.pp / B ^ 4 = 0 := by decide +kernel
  rwa [← numV_mod (dif a Ar.pp), show dif a Ar.pp % B ^ 4 = a - Ar.pp by
    unfold dif
    rw [hp, show a + B ^ 4 * (0 + 1) - Ar.pp = a - Ar.pp + B ^ 4 by omega, Nat.add_mod_right, Nat.mod_eq_of_lt (by omega)]] at hs
theorem norm_two {a : Nat} (ha : a < B ^ 4) : a - Ar.pp - Ar.pp < Ar.pp := by
  unfold B Ar.pp at *
  simp only [Nat.reducePow] at *
  omega
theorem norm_less {a m k : Nat} (h1 : m < Ar.pp) (h2 : m + k * Ar.pp = a) : a % Ar.pp = m := by
  rw [← h2, Nat.add_mul_mod_self_right, Nat.mod_eq_of_lt h1]

set_option maxRecDepth 100000 in
set_option maxHeartbeats 1000000 in
theorem normR_any (a : Nat) (w : World) (ha : a < B ^ 4) : Ret Try.prog 28 #[numV a] w (numV (a % Ar.pp)) := by
  refine Ret.of ?_
  have hpp := pp_lt
  go_enter Try.func28, Try.ntmps28
  go_wp2_with fail
  refine wp_loop_rounds 3 ?_
  rw [rounds_succ]
  go_wp2_with fail
  refine wp_region_plain 4 11 mixed (by kernel_rfl) (by kernel_rfl) rfl (fun _ _ _ _ _ h => h) ?_
  simp only [List.take_succ_cons, List.take_zero, List.drop_succ_cons, List.drop_zero]
  repeat (first | (refine wpHead_skip rfl ?_) | (refine wpHead_run rfl rfl (fun K hK => ?_); go_simp; first | (refine hK _ ?_; clear hK K) | (apply Exists.intro; refine ⟨fun _ => ?_, hK _ ?_⟩; (with_reducible first | exact primeR_any _ | exact lessR_any _ _ _); clear hK K)))
  refine wpHead_nil ?_
  intro zz x0
  clear zz
  by_cases h0 : a < Ar.pp
  · have e : decide (a % B ^ 4 < Ar.pp % B ^ 4) = true := decide_eq_true (by rw [Nat.mod_eq_of_lt pp_lt, Nat.mod_eq_of_lt (by omega)]; exact h0)
    simp only [e, Bool.not_true]
    go_wp2_with fail
    refine bodyPost_ret (v := numV (a)) (by simp [results, Try.results28, go_sem]) rfl ⟨by rw [norm_less (k := 0) h0 (by omega)], ?_⟩
    repeat (first | exact Below.refl _ _ | refine Below.setCell ?_ (by first | (simp; done) | (simp; omega) | (simp [size_plus]; done) | (simp [size_plus]; omega)) _ | refine Below.alloc ?_ (by first | (simp; done) | (simp; omega) | (simp [size_plus]; done) | (simp [size_plus]; omega)) _ | refine Below.drew ?_ | refine Below.plus ?_ (by first | (simp; done) | (simp; omega) | (simp [size_plus]; done) | (simp [size_plus]; omega)) _)
  · have e : decide (a % B ^ 4 < Ar.pp % B ^ 4) = false := decide_eq_false (by rw [Nat.mod_eq_of_lt pp_lt, Nat.mod_eq_of_lt (by omega)]; exact h0)
    simp only [e, Bool.not_false]
    clear e
    go_wp2_with fail
    refine wp_region_plain 3 11 mixed (by kernel_rfl) (by kernel_rfl) rfl (fun _ _ _ _ _ h => h) ?_
    simp only [List.take_succ_cons, List.take_zero, List.drop_succ_cons, List.drop_zero]
    repeat (first | (refine wpHead_skip rfl ?_) | (refine wpHead_run rfl rfl (fun K hK => ?_); go_simp; first | (refine hK _ ?_; clear hK K) | (apply Exists.intro; refine ⟨fun _ => ?_, hK _ ?_⟩; (with_reducible first | exact primeR_any _ | exact subNum_le (a) _ (by omega) (by omega)); clear hK K)))
    refine wpHead_nil ?_
    intro zz x1
    clear zz
    go_wp2_with fail
    rw [rounds_succ]
    go_wp2_with fail
    refine wp_region_plain 4 11 mixed (by kernel_rfl) (by kernel_rfl) rfl (fun _ _ _ _ _ h => h) ?_
    simp only [List.take_succ_cons, List.take_zero, List.drop_succ_cons, List.drop_zero]
    repeat (first | (refine wpHead_skip rfl ?_) | (refine wpHead_run rfl rfl (fun K hK => ?_); go_simp; first | (refine hK _ ?_; clear hK K) | (apply Exists.intro; refine ⟨fun _ => ?_, hK _ ?_⟩; (with_reducible first | exact primeR_any _ | exact lessR_any _ _ _); clear hK K)))
    refine wpHead_nil ?_
    intro zz x2
    clear zz
    by_cases h1 : a - Ar.pp < Ar.pp
    · have e : decide ((a - Ar.pp) % B ^ 4 < Ar.pp % B ^ 4) = true := decide_eq_true (by rw [Nat.mod_eq_of_lt pp_lt, Nat.mod_eq_of_lt (by omega)]; exact h1)
      simp only [e, Bool.not_true]
      go_wp2_with fail
      refine bodyPost_ret (v := numV (a - Ar.pp)) (by simp [results, Try.results28, go_sem]) rfl ⟨by rw [norm_less (k := 1) h1 (by omega)], ?_⟩
      repeat (first | exact Below.refl _ _ | refine Below.setCell ?_ (by first | (simp; done) | (simp; omega) | (simp [size_plus]; done) | (simp [size_plus]; omega)) _ | refine Below.alloc ?_ (by first | (simp; done) | (simp; omega) | (simp [size_plus]; done) | (simp [size_plus]; omega)) _ | refine Below.drew ?_ | refine Below.plus ?_ (by first | (simp; done) | (simp; omega) | (simp [size_plus]; done) | (simp [size_plus]; omega)) _)
    · have e : decide ((a - Ar.pp) % B ^ 4 < Ar.pp % B ^ 4) = false := decide_eq_false (by rw [Nat.mod_eq_of_lt pp_lt, Nat.mod_eq_of_lt (by omega)]; exact h1)
      simp only [e, Bool.not_false]
      clear e
      go_wp2_with fail
      refine wp_region_plain 3 11 mixed (by kernel_rfl) (by kernel_rfl) rfl (fun _ _ _ _ _ h => h) ?_
      simp only [List.take_succ_cons, List.take_zero, List.drop_succ_cons, List.drop_zero]
      repeat (first | (refine wpHead_skip rfl ?_) | (refine wpHead_run rfl rfl (fun K hK => ?_); go_simp; first | (refine hK _ ?_; clear hK K) | (apply Exists.intro; refine ⟨fun _ => ?_, hK _ ?_⟩; (with_reducible first | exact primeR_any _ | exact subNum_le (a - Ar.pp) _ (by omega) (by omega)); clear hK K)))
      refine wpHead_nil ?_
      intro zz x3
      clear zz
      go_wp2_with fail
      rw [rounds_succ]
      go_wp2_with fail
      refine wp_region_plain 4 11 mixed (by kernel_rfl) (by kernel_rfl) rfl (fun _ _ _ _ _ h => h) ?_
      simp only [List.take_succ_cons, List.take_zero, List.drop_succ_cons, List.drop_zero]
      repeat (first | (refine wpHead_skip rfl ?_) | (refine wpHead_run rfl rfl (fun K hK => ?_); go_simp; first | (refine hK _ ?_; clear hK K) | (apply Exists.intro; refine ⟨fun _ => ?_, hK _ ?_⟩; (with_reducible first | exact primeR_any _ | exact lessR_any _ _ _); clear hK K)))
      refine wpHead_nil ?_
      intro zz x4
      clear zz
      have h2 : a - Ar.pp - Ar.pp < Ar.pp := norm_two ha
      have e : decide ((a - Ar.pp - Ar.pp) % B ^ 4 < Ar.pp % B ^ 4) = true := decide_eq_true (by rw [Nat.mod_eq_of_lt pp_lt, Nat.mod_eq_of_lt (by omega)]; exact h2)
      simp only [e, Bool.not_true]
      go_wp2_with fail
      refine bodyPost_ret (v := numV (a - Ar.pp - Ar.pp)) (by simp [results, Try.results28, go_sem]) rfl ⟨by rw [norm_less (k := 2) h2 (by omega)], ?_⟩
      repeat (first | exact Below.refl _ _ | refine Below.setCell ?_ (by first | (simp; done) | (simp; omega) | (simp [size_plus]; done) | (simp [size_plus]; omega)) _ | refine Below.alloc ?_ (by first | (simp; done) | (simp; omega) | (simp [size_plus]; done) | (simp [size_plus]; omega)) _ | refine Below.drew ?_ | refine Below.plus ?_ (by first | (simp; done) | (simp; omega) | (simp [size_plus]; done) | (simp [size_plus]; omega)) _)

end Go.Proofs.Ytihbjlpohjohpaa
