/- FieldRoots: the walk of the law's own function. -/
import Derived.Test.YtihbjlpohjohpaaLawFE
namespace Go.Proofs.Ytihbjlpohjohpaa
open Go.RowKit

theorem root4 (a : Nat) : (Ar.rootN a).1 < B ^ 4 := Nat.lt_trans (Ar.rootN_lt a) pp_lt
theorem root_one_any (w : World) : Ret Try.prog 25 #[.agg #[.int .u64 1, .int .u64 0, .int .u64 0, .int .u64 0]] w (.tuple #[numV (Ar.pp - 1), .bool true]) := by
  have h := root_any 1 w (by decide)
  rw [Ar.root_one, numV_small 1 (by decide)] at h
  exact h
theorem root_two_any : ∃ r : Nat, r < B ^ 4 ∧ ∀ w, Ret Try.prog 25 #[.agg #[.int .u64 2, .int .u64 0, .int .u64 0, .int .u64 0]] w (.tuple #[numV r, .bool false]) := by
  refine ⟨(Ar.rootN 2).1, root4 2, fun w => ?_⟩
  have h := root_any 2 w (by decide)
  rw [Ar.root_two, numV_small 2 (by decide)] at h
  exact h
theorem minus_one_any (w : World) : Ret Try.prog 15 #[.agg #[.int .u64 0, .int .u64 0, .int .u64 0, .int .u64 0], .agg #[.int .u64 1, .int .u64 0, .int .u64 0, .int .u64 0]] w (numV (Ar.pp - 1)) := by
  have h := sub_zero 1 w (by decide)
  rw [numV_small 1 (by decide), show Ar.subN 0 1 = Ar.pp - 1 by decide +kernel] at h
  exact h
theorem root_minus_any : ∃ r : Nat, r < B ^ 4 ∧ Ar.mulN r r = Ar.pp - 1 ∧ ∀ w, Ret Try.prog 25 #[numV (Ar.pp - 1)] w (.tuple #[numV r, .bool true]) := by
  refine ⟨(Ar.rootN (Ar.pp - 1)).1, root4 _, ?_, fun w => ?_⟩
  · rw [(Ar.root_ok Ar.root_minus).1]
    decide +kernel
  · have h := root_any (Ar.pp - 1) w (Nat.lt_of_le_of_lt (Nat.sub_le _ _) pp_lt)
    rw [Ar.root_minus] at h
    exact h
theorem root_square_any (a : Nat) : ∃ r : Nat, r < B ^ 4 ∧ Ar.mulN r r = Ar.mulN a a ∧ ∀ w, Ret Try.prog 25 #[numV (Ar.mulN a a)] w (.tuple #[numV r, .bool true]) := by
  refine ⟨(Ar.rootN (Ar.mulN a a)).1, root4 _, ?_, fun w => ?_⟩
  · rw [(Ar.root_ok (Ar.root_square a)).1]
    exact Nat.mod_mod _ _
  · have h := root_any (Ar.mulN a a) w (mul4 _ _)
    rw [Ar.root_square] at h
    exact h
theorem add_minus_any (w : World) : Ret Try.prog 13 #[numV (Ar.pp - 1), .agg #[.int .u64 1, .int .u64 0, .int .u64 0, .int .u64 0]] w (numV 0) := by
  have h := add_any (Ar.pp - 1) 1 w (Nat.lt_of_le_of_lt (Nat.sub_le _ _) pp_lt) (by decide)
  rw [numV_small 1 (by decide), show Ar.addN (Ar.pp - 1) 1 = 0 by decide +kernel] at h
  exact h
theorem Ar.mul_swap (a b c d : Nat) : Ar.mulN (Ar.mulN a b) (Ar.mulN c d) = Ar.mulN (Ar.mulN a c) (Ar.mulN b d) := by
  rw [Ar.mulN_assoc, Ar.mulN_assoc, ← Ar.mulN_assoc b c d, Ar.mulN_comm b c, Ar.mulN_assoc c b d]

set_option maxRecDepth 100000 in
set_option maxHeartbeats 2000000 in
theorem fieldRoots_any (a b : Nat) (w : World) (ha : a < B ^ 4) (hb : b < B ^ 4) : Ret Try.prog 6 #[numV a, numV b] w (.bool true) := by
  refine Ret.of ?_
  obtain ⟨t, ht4, HT⟩ := root_two_any
  obtain ⟨m, hm4, hmm, HM⟩ := root_minus_any
  obtain ⟨x, hx4, hxx, HX⟩ := root_square_any a
  obtain ⟨y, hy4, hyy, HY⟩ := root_square_any b
  have hpq : Ar.mulN (Ar.mulN x y) (Ar.mulN x y) = Ar.mulN (Ar.mulN a b) (Ar.mulN a b) := by rw [Ar.mul_swap, hxx, hyy, Ar.mul_swap a b a b]
  clear hxx hyy
  obtain ⟨q, hq⟩ : ∃ q, Ar.pp - 1 = q := ⟨_, rfl⟩
  have HQ := Lib.hid hq
  have H1 := fun W => hq ▸ root_one_any W
  have H2 := fun W => hq ▸ minus_one_any W
  have H3 := fun W => hq ▸ add_minus_any W
  rw [hq] at hmm HM
  have hq4 : q < B ^ 4 := hq ▸ Nat.lt_of_le_of_lt (Nat.sub_le _ _) pp_lt
  clear hq
  go_enter Try.func6, Try.ntmps6
  go_wp2_with fail
  refine (H1 _).out.mono ?_
  rintro _ _ ⟨rfl, x1, rfl⟩
  go_wp2_with fail
  refine (H2 _).out.mono ?_
  rintro _ _ ⟨rfl, x2, rfl⟩
  go_wp2_with fail
  refine (HM _).out.mono ?_
  rintro _ _ ⟨rfl, x3, rfl⟩
  go_wp2_with fail
  refine (HT _).out.mono ?_
  rintro _ _ ⟨rfl, x4, rfl⟩
  go_wp2_with fail
  refine (mul_any a a _ ha ha).out.mono ?_
  rintro _ _ ⟨rfl, x5, rfl⟩
  go_wp2_with fail
  refine (HX _).out.mono ?_
  rintro _ _ ⟨rfl, x6, rfl⟩
  go_wp2_with fail
  refine (mul_any b b _ hb hb).out.mono ?_
  rintro _ _ ⟨rfl, x7, rfl⟩
  go_wp2_with fail
  refine (HY _).out.mono ?_
  rintro _ _ ⟨rfl, x8, rfl⟩
  go_wp2_with fail
  refine (mul_any x y _ hx4 hy4).out.mono ?_
  rintro _ _ ⟨rfl, x9, rfl⟩
  go_wp2_with fail
  refine (mul_any a b _ ha hb).out.mono ?_
  rintro _ _ ⟨rfl, x10, rfl⟩
  go_wp2_with fail
  refine wp_region_plain 42 96 mixed (by kernel_rfl) (by kernel_rfl) rfl (fun _ _ _ _ _ h => h) ?_
  simp only [List.take_succ_cons, List.take_zero, List.drop_succ_cons, List.drop_zero]
  repeat (first | (refine wpHead_skip rfl ?_) | (refine wpHead_run rfl rfl (fun K hK => ?_); go_simp; first | (refine hK _ ?_; clear hK K) | (apply Exists.intro; refine ⟨fun _ => ?_, hK _ ?_⟩; (with_reducible first | exact H3 _ | (refine mul_any _ _ _ ?_ ?_ <;> (first | assumption | exact mul4 _ _ | exact add4 _ _ | exact sub4 _ _ | exact mod4 _ | exact pp_lt | decide)) | exact awake6 _); clear hK K)) | (refine wpHead_want rfl rfl (fun K hK => ?_); go_simp; first | (refine hK _ ?_; clear hK K) | (apply Exists.intro; refine ⟨fun _ => ?_, hK _ ?_⟩; (with_reducible first | exact H3 _ | (refine mul_any _ _ _ ?_ ?_ <;> (first | assumption | exact mul4 _ _ | exact add4 _ _ | exact sub4 _ _ | exact mod4 _ | exact pp_lt | decide)) | exact awake6 _); clear hK K)) | (refine wpHead_pass rfl rfl ?_; simp only [Act.put, List.setIfInBounds_toArray, List.set_cons_succ, List.set_cons_zero]))
  refine wpHead_nil ?_
  intro zz x11
  clear zz
  go_wp2_with fail
  refine bodyPost_ret (v := .bool true) (by simp [results, Try.results6, go_sem]) rfl ⟨rfl, ?_⟩
  repeat (first | exact Below.refl _ _ | refine Below.setCell ?_ (by first | (simp; done) | (simp; omega) | (simp [size_plus]; done) | (simp [size_plus]; omega)) _ | refine Below.alloc ?_ (by first | (simp; done) | (simp; omega) | (simp [size_plus]; done) | (simp [size_plus]; omega)) _ | refine Below.drew ?_ | refine Below.plus ?_ (by first | (simp; done) | (simp; omega) | (simp [size_plus]; done) | (simp [size_plus]; omega)) _)
end Go.Proofs.Ytihbjlpohjohpaa
