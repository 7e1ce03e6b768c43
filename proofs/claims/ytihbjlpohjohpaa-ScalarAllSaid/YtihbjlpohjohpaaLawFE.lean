/- FieldEdges: the walk of the law's own function. -/
import Derived.Test.YtihbjlpohjohpaaInvRoot
namespace Go.Proofs.Ytihbjlpohjohpaa
open Go.RowKit

namespace Ar
theorem neg_add (n : Nat) : addN (subN 0 n) n = 0 := by
  have h := Nat.mod_lt n pp_pos
  unfold addN subN
  rw [Nat.mod_add_mod, Nat.zero_mod, Nat.zero_add, ← Nat.add_mod_mod, show pp - n % pp + n % pp = pp by omega, Nat.mod_self]
theorem neg_square {n : Nat} (h : n < pp) : mulN (subN 0 n) (subN 0 n) = mulN n n := by
  rcases Nat.eq_zero_or_pos n with rfl | h0
  · rw [subN_zero_zero]
  · rw [subN_zero h h0, neg_sq h]
theorem addN_pp (a : Nat) : addN a pp = a % pp := by unfold addN; rw [Nat.add_mod_right]
theorem mulN_pp (a : Nat) : mulN a pp = 0 := by unfold mulN; rw [Nat.mul_mod_left]
end Ar

theorem inv_one (w : World) : Ret Try.prog 24 #[.agg #[.int .u64 1, .int .u64 0, .int .u64 0, .int .u64 0]] w (numV 1) := by
  have h := inv_any 1 w (by decide)
  rw [numV_small 1 (by decide), show Ar.invN 1 = 1 from Ar.powN_of_one _] at h
  exact h
theorem inv_prime (w : World) : Ret Try.prog 24 #[numV Ar.pp] w (numV 0) := by
  have h := inv_any Ar.pp w pp_lt
  rw [Ar.inv_zero (Nat.mod_self _)] at h
  exact h
theorem words_int {n : Nat} (h : n < B) : (#[.int .u64 (n : Int), .int .u64 0, .int .u64 0, .int .u64 0] : Array Value) = wordsOf n := (Value.agg.inj (numV_small n h)).symm
theorem words_all : (#[.int .u64 18446744073709551615, .int .u64 18446744073709551615, .int .u64 18446744073709551615, .int .u64 18446744073709551615] : Array Value) = wordsOf (B ^ 4 - 1) := by
  have h := numV_ofw (a0 := 18446744073709551615) (a1 := 18446744073709551615) (a2 := 18446744073709551615) (a3 := 18446744073709551615) (by decide) (by decide) (by decide) (by decide)
  rw [show ofw 18446744073709551615 18446744073709551615 18446744073709551615 18446744073709551615 = B ^ 4 - 1 by decide +kernel] at h
  exact (Value.agg.inj h).symm
theorem norm_all (w : World) (A : Nat) (hA : B ^ 4 - 1 = A) : Ret Try.prog 16 #[numV A] w (numV 37) := by
  subst hA
  have h := norm_any (B ^ 4 - 1) w (by decide +kernel)
  rw [show (B ^ 4 - 1) % Ar.pp = 37 by decide +kernel] at h
  exact h

set_option maxRecDepth 100000 in
set_option maxHeartbeats 2000000 in
theorem fieldEdges_any (n a : Nat) (w : World) (hn : n < 256) (ha : a < B ^ 4) : Ret Try.prog 5 #[.int .u8 (n : Int), numV a] w (.bool true) := by
  refine Ret.of ?_
  have h37 : 37 % B ^ 4 = 37 := by decide
  have h1 : 1 % B ^ 4 = 1 := by decide
  have hnB : n < B := by unfold B; omega
  have hn4 : n < B ^ 4 := Nat.lt_of_lt_of_le hnB (by decide)
  have hnp : n < Ar.pp := Nat.lt_trans hn (by decide +kernel)
  have f2 : Ar.addN (Ar.subN 0 n) n = 0 := Ar.neg_add n
  have f3 : Ar.addN a Ar.pp = a % Ar.pp := Ar.addN_pp a
  have f4 : Ar.mulN a Ar.pp = 0 := Ar.mulN_pp a
  have f5 : Ar.mulN (Ar.subN 0 n) (Ar.subN 0 n) = Ar.mulN n n := Ar.neg_square hnp
  obtain ⟨A, hA⟩ : ∃ A, B ^ 4 - 1 = A := ⟨_, rfl⟩
  have HA := Lib.hid hA
  have hall := words_all
  rw [hA] at hall
  clear hA
  have hw := words_int hnB
  go_enter Try.func5, Try.ntmps5
  go_wp2_with fail
  refine (sub_zero n _ hn4).out.mono ?_
  rintro _ _ ⟨rfl, x1, rfl⟩
  go_wp2_with fail
  refine wp_region_plain 50 65 mixed (by kernel_rfl) (by kernel_rfl) rfl (fun _ _ _ _ _ h => h) ?_
  simp only [List.take_succ_cons, List.take_zero, List.drop_succ_cons, List.drop_zero]
  repeat (first | (refine wpHead_skip rfl ?_) | (refine wpHead_run rfl rfl (fun K hK => ?_); go_simp; first | (refine hK _ ?_; clear hK K) | (apply Exists.intro; refine ⟨fun _ => ?_, hK _ ?_⟩; (with_reducible first | (refine norm_all _ _ ?_; exact HA.out) | (refine norm_any _ _ ?_; (first | assumption | exact mul4 _ _ | exact add4 _ _ | exact sub4 _ _ | exact mod4 _ | exact pp_lt | decide)) | (refine add_any _ _ _ ?_ ?_ <;> (first | assumption | exact mul4 _ _ | exact add4 _ _ | exact sub4 _ _ | exact mod4 _ | exact pp_lt | decide)) | (refine mul_any _ _ _ ?_ ?_ <;> (first | assumption | exact mul4 _ _ | exact add4 _ _ | exact sub4 _ _ | exact mod4 _ | exact pp_lt | decide)) | exact primeR_any _ | exact inv_one _ | exact inv_prime _ | exact awake6 _); clear hK K)) | (refine wpHead_want rfl rfl (fun K hK => ?_); go_simp; first | (refine hK _ ?_; clear hK K) | (apply Exists.intro; refine ⟨fun _ => ?_, hK _ ?_⟩; (with_reducible first | (refine norm_all _ _ ?_; exact HA.out) | (refine norm_any _ _ ?_; (first | assumption | exact mul4 _ _ | exact add4 _ _ | exact sub4 _ _ | exact mod4 _ | exact pp_lt | decide)) | (refine add_any _ _ _ ?_ ?_ <;> (first | assumption | exact mul4 _ _ | exact add4 _ _ | exact sub4 _ _ | exact mod4 _ | exact pp_lt | decide)) | (refine mul_any _ _ _ ?_ ?_ <;> (first | assumption | exact mul4 _ _ | exact add4 _ _ | exact sub4 _ _ | exact mod4 _ | exact pp_lt | decide)) | exact primeR_any _ | exact inv_one _ | exact inv_prime _ | exact awake6 _); clear hK K)) | (refine wpHead_pass rfl rfl ?_; simp only [Act.put, List.setIfInBounds_toArray, List.set_cons_succ, List.set_cons_zero]))
  refine wpHead_nil ?_
  intro zz x5
  clear zz
  go_wp2_with fail
  refine bodyPost_ret (v := .bool true) (by simp [results, Try.results5, go_sem]) rfl ⟨rfl, ?_⟩
  repeat (first | exact Below.refl _ _ | refine Below.setCell ?_ (by first | (simp; done) | (simp; omega) | (simp [size_plus]; done) | (simp [size_plus]; omega)) _ | refine Below.alloc ?_ (by first | (simp; done) | (simp; omega) | (simp [size_plus]; done) | (simp [size_plus]; omega)) _ | refine Below.drew ?_ | refine Below.plus ?_ (by first | (simp; done) | (simp; omega) | (simp [size_plus]; done) | (simp [size_plus]; omega)) _)
end Go.Proofs.Ytihbjlpohjohpaa
