/- FieldLaws: the walk of the law's own function. -/
import Derived.Test.YtihbjlpohjohpaaFieldW3
namespace Go.Proofs.Ytihbjlpohjohpaa
open Go.RowKit

namespace Ar
theorem addN_comm (a b : Nat) : addN a b = addN b a := by unfold addN; rw [Nat.add_comm]
theorem addN_assoc (a b c : Nat) : addN (addN a b) c = addN a (addN b c) := by
  unfold addN
  rw [Nat.mod_add_mod, Nat.add_mod_mod, Nat.add_assoc]
theorem mulN_addN (a b c : Nat) : mulN a (addN b c) = addN (mulN a b) (mulN a c) := by
  unfold addN mulN
  rw [Nat.mul_mod_mod, ← Nat.add_mod, Nat.mul_add]
theorem mod_addN (a b : Nat) : addN a b % pp = addN a b := Nat.mod_mod _ _
theorem subN_addN (a b : Nat) : subN (addN a b) b = a % pp := by
  have hb := Nat.mod_lt b pp_pos
  unfold subN addN
  rw [Nat.mod_mod, ← Nat.add_mod_mod a b, Nat.mod_add_mod, show a + b % pp + (pp - b % pp) = a + pp by omega, Nat.add_mod_right]
theorem subN_self (a : Nat) : subN a a = 0 := by
  have hb := Nat.mod_lt a pp_pos
  unfold subN
  rw [show a % pp + (pp - a % pp) = pp by omega, Nat.mod_self]
end Ar

theorem mul_one_any (a : Nat) (w : World) (ha : a < B ^ 4) : Ret Try.prog 14 #[numV a, .agg #[.int .u64 1, .int .u64 0, .int .u64 0, .int .u64 0]] w (numV (a % Ar.pp)) := by
  have h := mul_any a 1 w ha (by decide)
  rw [numV_small 1 (by decide), show Ar.mulN a 1 = a % Ar.pp by unfold Ar.mulN; rw [Nat.mul_one]] at h
  exact h

set_option maxRecDepth 100000 in
set_option maxHeartbeats 2000000 in
theorem fieldLaws_any (a b c : Nat) (w : World) (ha : a < B ^ 4) (hb : b < B ^ 4) (hc : c < B ^ 4) : Ret Try.prog 3 #[numV a, numV b, numV c] w (.bool true) := by
  refine Ret.of ?_
  have h1 : Ar.addN a (Ar.addN c b) = Ar.addN (Ar.addN a b) c := by rw [Ar.addN_assoc, Ar.addN_comm c b]
  have h2 : Ar.mulN a (Ar.mulN c b) = Ar.mulN (Ar.mulN a b) c := by rw [Ar.mulN_assoc, Ar.mulN_comm c b]
  have h3 : Ar.addN (Ar.mulN a b) (Ar.mulN a c) = Ar.mulN a (Ar.addN b c) := (Ar.mulN_addN a b c).symm
  have h4 : Ar.subN (Ar.addN a b) b = a % Ar.pp := Ar.subN_addN a b
  have h5 : Ar.subN a a = 0 := Ar.subN_self a
  have h6 : Ar.mulN a 1 = a % Ar.pp := by unfold Ar.mulN; rw [Nat.mul_one]
  have h7 : Ar.addN (Ar.addN a b) c % B ^ 4 < Ar.pp % B ^ 4 := by
    have := Ar.addN_lt (Ar.addN a b) c
    rw [Nat.mod_eq_of_lt (add4 _ _), Nat.mod_eq_of_lt pp_lt]
    exact this
  go_enter Try.func3, Try.ntmps3
  go_wp2_with fail
  refine wp_region_one 6 83 5 7 24 _ mixed (by kernel_rfl) (by kernel_rfl) rfl alloc24 (fun _ _ _ _ _ h => h) ?_
  simp only [List.take_succ_cons, List.take_zero, List.drop_succ_cons, List.drop_zero]
  repeat (first | (refine wpHead_skip rfl ?_) | (refine wpHead_run rfl rfl (fun K hK => ?_); go_simp; first | (refine hK _ ?_; clear hK K) | (apply Exists.intro; refine ⟨fun _ => ?_, hK _ ?_⟩; (with_reducible (refine add_any _ _ _ ?_ ?_ <;> (first | assumption | exact mul4 _ _ | exact add4 _ _ | exact sub4 _ _ | exact mod4 _ | exact pp_lt | decide))); clear hK K)))
  refine wpHead_nil ?_
  intro zz x1 x2
  clear zz
  go_wp2_with fail
  refine wp_region_one 6 83 5 8 24 _ mixed (by kernel_rfl) (by kernel_rfl) rfl alloc24 (fun _ _ _ _ _ h => h) ?_
  simp only [List.take_succ_cons, List.take_zero, List.drop_succ_cons, List.drop_zero]
  repeat (first | (refine wpHead_skip rfl ?_) | (refine wpHead_run rfl rfl (fun K hK => ?_); go_simp; first | (refine hK _ ?_; clear hK K) | (apply Exists.intro; refine ⟨fun _ => ?_, hK _ ?_⟩; (with_reducible (refine mul_any _ _ _ ?_ ?_ <;> (first | assumption | exact mul4 _ _ | exact add4 _ _ | exact sub4 _ _ | exact mod4 _ | exact pp_lt | decide))); clear hK K)))
  refine wpHead_nil ?_
  intro zz x3 x4
  clear zz
  go_wp2_with fail
  refine wp_region_plain 64 83 mixed (by kernel_rfl) (by kernel_rfl) rfl (fun _ _ _ _ _ h => h) ?_
  simp only [List.append_eq, List.cons_append, List.nil_append, List.take_succ_cons, List.take_zero, List.drop_succ_cons, List.drop_zero]
  repeat (first | (refine wpHead_skip rfl ?_) | (refine wpHead_run rfl rfl (fun K hK => ?_); go_simp; first | (refine hK _ ?_; clear hK K) | (apply Exists.intro; refine ⟨fun _ => ?_, hK _ ?_⟩; (with_reducible first | (refine add_any _ _ _ ?_ ?_ <;> (first | assumption | exact mul4 _ _ | exact add4 _ _ | exact sub4 _ _ | exact mod4 _ | exact pp_lt | decide)) | (refine mul_any _ _ _ ?_ ?_ <;> (first | assumption | exact mul4 _ _ | exact add4 _ _ | exact sub4 _ _ | exact mod4 _ | exact pp_lt | decide)) | (refine mul_one_any _ _ ?_; (first | assumption | exact mul4 _ _ | exact add4 _ _ | exact sub4 _ _ | exact mod4 _ | exact pp_lt | decide)) | (refine sub_any _ _ _ ?_ ?_ <;> (first | assumption | exact mul4 _ _ | exact add4 _ _ | exact sub4 _ _ | exact mod4 _ | exact pp_lt | decide)) | (refine norm_any _ _ ?_; (first | assumption | exact mul4 _ _ | exact add4 _ _ | exact sub4 _ _ | exact mod4 _ | exact pp_lt | decide)) | exact primeR_any _ | exact lessR_any _ _ _ | exact awake6 _); clear hK K)) | (refine wpHead_want rfl rfl (fun K hK => ?_); go_simp; first | (refine hK _ ?_; clear hK K) | (apply Exists.intro; refine ⟨fun _ => ?_, hK _ ?_⟩; (with_reducible first | (refine add_any _ _ _ ?_ ?_ <;> (first | assumption | exact mul4 _ _ | exact add4 _ _ | exact sub4 _ _ | exact mod4 _ | exact pp_lt | decide)) | (refine mul_any _ _ _ ?_ ?_ <;> (first | assumption | exact mul4 _ _ | exact add4 _ _ | exact sub4 _ _ | exact mod4 _ | exact pp_lt | decide)) | (refine mul_one_any _ _ ?_; (first | assumption | exact mul4 _ _ | exact add4 _ _ | exact sub4 _ _ | exact mod4 _ | exact pp_lt | decide)) | (refine sub_any _ _ _ ?_ ?_ <;> (first | assumption | exact mul4 _ _ | exact add4 _ _ | exact sub4 _ _ | exact mod4 _ | exact pp_lt | decide)) | (refine norm_any _ _ ?_; (first | assumption | exact mul4 _ _ | exact add4 _ _ | exact sub4 _ _ | exact mod4 _ | exact pp_lt | decide)) | exact primeR_any _ | exact lessR_any _ _ _ | exact awake6 _); clear hK K)) | (refine wpHead_pass rfl rfl ?_; simp only [Act.put, List.setIfInBounds_toArray, List.set_cons_succ, List.set_cons_zero]))
  refine wpHead_nil ?_
  intro zz x5
  clear zz
  go_wp2_with fail
  refine bodyPost_ret (v := .bool true) (by simp [results, Try.results3, go_sem]) rfl ⟨rfl, ?_⟩
  repeat (first | exact Below.refl _ _ | refine Below.setCell ?_ (by first | (simp; done) | (simp; omega) | (simp [size_plus]; done) | (simp [size_plus]; omega)) _ | refine Below.alloc ?_ (by first | (simp; done) | (simp; omega) | (simp [size_plus]; done) | (simp [size_plus]; omega)) _ | refine Below.drew ?_ | refine Below.plus ?_ (by first | (simp; done) | (simp; omega) | (simp [size_plus]; done) | (simp [size_plus]; omega)) _)
end Go.Proofs.Ytihbjlpohjohpaa
