/- FieldInverse: the walk of the law's own function. -/
import Derived.Test.YtihbjlpohjohpaaLawFR
namespace Go.Proofs.Ytihbjlpohjohpaa
open Go.RowKit

theorem mul_two_any (a : Nat) (w : World) (ha : a < B ^ 4) : Ret Try.prog 14 #[numV a, .agg #[.int .u64 2, .int .u64 0, .int .u64 0, .int .u64 0]] w (numV (Ar.mulN a 2)) := by
  have h := mul_any a 2 w ha (by decide)
  rw [numV_small 2 (by decide)] at h
  exact h
theorem inv4 (a : Nat) : Ar.invN a < B ^ 4 := pow4 _ _
theorem even_bit (y : Nat) (h : y % 2 = 0) : bits BinOp.and IntKind.u64 ((nw y 0 : Nat) : Int) 1 = 0 := by
  rw [low_bit, h]
  rfl

set_option maxRecDepth 100000 in
set_option maxHeartbeats 2000000 in
theorem inverse_zero (a : Nat) (w : World) (ha : a < B ^ 4) (h0 : a % Ar.pp = 0) : Ret Try.prog 7 #[numV a] w (.bool true) := by
  refine Ret.of ?_
  have hm0 : Ar.mulN a a % Ar.pp = 0 := by unfold Ar.mulN; rw [Nat.mod_mod, Nat.mul_mod, h0]; rfl
  have ht0 : Ar.mulN a 2 % Ar.pp = 0 := by unfold Ar.mulN; rw [Nat.mod_mod, Nat.mul_mod, h0]; simp
  have R1 := fun W => Ar.root_zero hm0 ▸ root_any (Ar.mulN a a) W (mul4 a a)
  have R2 := fun W => Ar.root_zero h0 ▸ root_any a W ha
  have R3 := fun W => Ar.root_zero ht0 ▸ root_any (Ar.mulN a 2) W (mul4 a 2)
  have N1 := fun W => h0 ▸ norm_any a W ha
  have I1 := fun W => Ar.inv_zero h0 ▸ inv_any a W ha
  go_enter Try.func7, Try.ntmps7
  go_wp2_with fail
  refine (N1 _).out.mono ?_
  rintro _ _ ⟨rfl, x1, rfl⟩
  go_wp2_with fail
  refine (I1 _).out.mono ?_
  rintro _ _ ⟨rfl, x2, rfl⟩
  go_wp2_with fail
  refine (mul_any a a _ ha ha).out.mono ?_
  rintro _ _ ⟨rfl, x3, rfl⟩
  go_wp2_with fail
  refine (R1 _).out.mono ?_
  rintro _ _ ⟨rfl, x4, rfl⟩
  go_wp2_with fail
  refine (sub_zero 0 _ (by decide)).out.mono ?_
  rintro _ _ ⟨rfl, x5, rfl⟩
  go_wp2_with fail
  refine (R2 _).out.mono ?_
  rintro _ _ ⟨rfl, x6, rfl⟩
  go_wp2_with fail
  refine (mul_two_any a _ ha).out.mono ?_
  rintro _ _ ⟨rfl, x7, rfl⟩
  go_wp2_with fail
  refine (R3 _).out.mono ?_
  rintro _ _ ⟨rfl, x8, rfl⟩
  go_wp2_with fail
  refine (awake6 _).out.mono ?_
  rintro _ _ ⟨rfl, x9, rfl⟩
  go_wp2_with fail
  refine bodyPost_ret (v := .bool true) (by simp [results, Try.results7, go_sem]) rfl ⟨rfl, ?_⟩
  repeat (first | exact Below.refl _ _ | refine Below.setCell ?_ (by first | (simp; done) | (simp; omega) | (simp [size_plus]; done) | (simp [size_plus]; omega)) _ | refine Below.alloc ?_ (by first | (simp; done) | (simp; omega) | (simp [size_plus]; done) | (simp [size_plus]; omega)) _ | refine Below.drew ?_ | refine Below.plus ?_ (by first | (simp; done) | (simp; omega) | (simp [size_plus]; done) | (simp [size_plus]; omega)) _)

set_option maxRecDepth 100000 in
set_option maxHeartbeats 4000000 in
theorem inverse_else (a n i x s : Nat) (b : Bool) (w : World) (ha : a < B ^ 4) (hn4 : n < B ^ 4) (hi4 : i < B ^ 4) (hx4 : x < B ^ 4) (hn0 : n ≠ 0) (hx : x = n ∨ x ≠ n ∧ x = s) (he : x % 2 = 0) (hinv : Ar.mulN a i = 1)
    (N1 : ∀ W, Ret Try.prog 16 #[numV a] W (numV n)) (I1 : ∀ W, Ret Try.prog 24 #[numV a] W (numV i)) (R1 : ∀ W, Ret Try.prog 25 #[numV (Ar.mulN a a)] W (.tuple #[numV x, .bool true]))
    (S1 : ∀ W, Ret Try.prog 15 #[.agg #[.int .u64 0, .int .u64 0, .int .u64 0, .int .u64 0], numV n] W (numV s))
    (R2 : ∀ W, ∃ r, Ret Try.prog 25 #[numV a] W (.tuple #[numV r, .bool b])) (R3 : ∀ W, ∃ r, Ret Try.prog 25 #[numV (Ar.mulN a 2)] W (.tuple #[numV r, .bool (!b)])) : Ret Try.prog 7 #[numV a] w (.bool true) := by
  refine Ret.of ?_
  have hbit := even_bit x he
  have hnz : decide (n % B ^ 4 = 0) = false := decide_eq_false (by rw [Nat.mod_eq_of_lt hn4]; exact hn0)
  have h1 : 1 % B ^ 4 = 1 := by decide
  clear he
  go_enter Try.func7, Try.ntmps7
  go_wp2_with fail
  refine (N1 _).out.mono ?_
  rintro _ _ ⟨rfl, x1, rfl⟩
  go_wp2_with fail
  refine (I1 _).out.mono ?_
  rintro _ _ ⟨rfl, x2, rfl⟩
  go_wp2_with fail
  refine (mul_any a a _ ha ha).out.mono ?_
  rintro _ _ ⟨rfl, x3, rfl⟩
  go_wp2_with fail
  refine (R1 _).out.mono ?_
  rintro _ _ ⟨rfl, x4, rfl⟩
  go_wp2_with fail
  refine (S1 _).out.mono ?_
  rintro _ _ ⟨rfl, x5, rfl⟩
  go_wp2_with fail
  obtain ⟨r2, R2⟩ := R2 _
  refine (R2).out.mono ?_
  rintro _ _ ⟨rfl, x6, rfl⟩
  go_wp2_with fail
  refine (mul_two_any a _ ha).out.mono ?_
  rintro _ _ ⟨rfl, x7, rfl⟩
  go_wp2_with fail
  obtain ⟨r3, R3⟩ := R3 _
  refine (R3).out.mono ?_
  rintro _ _ ⟨rfl, x8, rfl⟩
  go_wp2_with fail
  refine (mul_any a i _ ha hi4).out.mono ?_
  rintro _ _ ⟨rfl, x9, rfl⟩
  rcases hx with hx | ⟨hxn, hx⟩
  · have e1 : decide (x % B ^ 4 = n % B ^ 4) = true := decide_eq_true (by rw [hx])
    clear hx
    cases b <;>
    · go_wp2_with fail
      refine (awake6 _).out.mono ?_
      rintro _ _ ⟨rfl, x10, rfl⟩
      go_wp2_with fail
      refine bodyPost_ret (v := .bool true) (by simp [results, Try.results7, go_sem]) rfl ⟨rfl, ?_⟩
      repeat (first | exact Below.refl _ _ | refine Below.setCell ?_ (by first | (simp; done) | (simp; omega) | (simp [size_plus]; done) | (simp [size_plus]; omega)) _ | refine Below.alloc ?_ (by first | (simp; done) | (simp; omega) | (simp [size_plus]; done) | (simp [size_plus]; omega)) _ | refine Below.drew ?_ | refine Below.plus ?_ (by first | (simp; done) | (simp; omega) | (simp [size_plus]; done) | (simp [size_plus]; omega)) _)
  · have e1 : decide (x % B ^ 4 = n % B ^ 4) = false := decide_eq_false (by rw [Nat.mod_eq_of_lt hx4, Nat.mod_eq_of_lt hn4]; exact hxn)
    have e2 : decide (x % B ^ 4 = s % B ^ 4) = true := decide_eq_true (by rw [hx])
    clear hx hxn
    cases b <;>
    · go_wp2_with fail
      refine (awake6 _).out.mono ?_
      rintro _ _ ⟨rfl, x10, rfl⟩
      go_wp2_with fail
      refine bodyPost_ret (v := .bool true) (by simp [results, Try.results7, go_sem]) rfl ⟨rfl, ?_⟩
      repeat (first | exact Below.refl _ _ | refine Below.setCell ?_ (by first | (simp; done) | (simp; omega) | (simp [size_plus]; done) | (simp [size_plus]; omega)) _ | refine Below.alloc ?_ (by first | (simp; done) | (simp; omega) | (simp [size_plus]; done) | (simp [size_plus]; omega)) _ | refine Below.drew ?_ | refine Below.plus ?_ (by first | (simp; done) | (simp; omega) | (simp [size_plus]; done) | (simp [size_plus]; omega)) _)

theorem fieldInverse_any (a : Nat) (w : World) (ha : a < B ^ 4) : Ret Try.prog 7 #[numV a] w (.bool true) := by
  by_cases h0 : a % Ar.pp = 0
  · exact inverse_zero a w ha h0
  · refine inverse_else a (a % Ar.pp) (Ar.invN a) (Ar.rootN (Ar.mulN a a)).1 (Ar.subN 0 (a % Ar.pp)) (Ar.rootN a).2 w ha (mod4 a) (inv4 a) (root4 _) h0 ?_ (Ar.root_ok (Ar.root_square a)).2 (Ar.mul_inv h0)
      (fun W => norm_any a W ha) (fun W => inv_any a W ha) (fun W => ?_) (fun W => sub_zero _ W (mod4 a)) (fun W => ⟨_, root_any a W ha⟩) (fun W => ⟨(Ar.rootN (Ar.mulN a 2)).1, ?_⟩)
    · by_cases h : (Ar.rootN (Ar.mulN a a)).1 = a % Ar.pp
      · exact .inl h
      · exact .inr ⟨h, (Ar.root_of_square a).resolve_left h⟩
    · have h := root_any (Ar.mulN a a) W (mul4 a a)
      rw [Ar.root_square] at h
      exact h
    · have h := root_any (Ar.mulN a 2) W (mul4 a 2)
      have e : (Ar.rootN (Ar.mulN a 2)).2 = !(Ar.rootN a).2 := by
        have := Ar.root_twice h0
        cases h1 : (Ar.rootN a).2 <;> cases h2 : (Ar.rootN (Ar.mulN a 2)).2 <;> simp_all
      rw [e] at h
      exact h
end Go.Proofs.Ytihbjlpohjohpaa
