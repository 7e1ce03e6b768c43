/- Walks: the reference's sums, differences, bytes. -/
import Derived.Test.YtihbjlpohjohpaaRef6a
import Derived.Test.YtihbjlpohjohpaaLawFB
namespace Go.Proofs.Ytihbjlpohjohpaa
open Go.RowKit
attribute [local go_sem] str_add le_length List.length_append

set_option maxRecDepth 100000 in
theorem addR_any (a b : Nat) (w : World) (ha : a < B ^ 4) (hb : b < B ^ 4) : Ret Try.prog 29 #[numV a, numV b] w (numV (Ar.addN a b)) := by
  refine Ret.of ?_
  have h1 := sum_lt (Nat.mod_lt a Ar.pp_pos) (Nat.mod_lt b Ar.pp_pos)
  go_enter Try.func29, Try.ntmps29
  go_wp2_with fail
  refine (normR_any a _ ha).out.mono ?_
  rintro _ _ ⟨rfl, x1, rfl⟩
  go_wp2_with fail
  refine (normR_any b _ hb).out.mono ?_
  rintro _ _ ⟨rfl, x2, rfl⟩
  go_wp2_with fail
  refine (addNum_any (a % Ar.pp) (b % Ar.pp) _).out.mono ?_
  rintro _ _ ⟨rfl, x3, rfl⟩
  go_wp2_with fail
  refine (normR_any (a % Ar.pp + b % Ar.pp) _ h1).out.mono ?_
  rintro _ _ ⟨rfl, x4, rfl⟩
  go_wp2_with fail
  refine bodyPost_ret (v := numV ((a % Ar.pp + b % Ar.pp) % Ar.pp)) (by simp [results, Try.results29, go_sem]) rfl ⟨by rw [← Nat.add_mod]; rfl, ?_⟩
  repeat (first | exact Below.refl _ _ | refine Below.setCell ?_ (by first | (simp; done) | (simp; omega) | (simp [size_plus]; done) | (simp [size_plus]; omega)) _ | refine Below.alloc ?_ (by first | (simp; done) | (simp; omega) | (simp [size_plus]; done) | (simp [size_plus]; omega)) _ | refine Below.drew ?_ | refine Below.plus ?_ (by first | (simp; done) | (simp; omega) | (simp [size_plus]; done) | (simp [size_plus]; omega)) _)

theorem subNum_pp (r : Nat) (w : World) (h : r < Ar.pp) : Ret Try.prog 53 #[numV Ar.pp, numV r] w (numV (Ar.pp - r)) := by
  have hs := subNum_any Ar.pp r w
  have hp := pp_lt
  rwa [show dif Ar.pp r = Ar.pp - r + B ^ 4 * 1 by unfold dif; rw [Nat.div_eq_of_lt (by omega)]; omega, ← numV_mod (Ar.pp - r + B ^ 4 * 1), Nat.add_mul_mod_self_left, numV_mod] at hs

set_option maxRecDepth 100000 in
theorem subR_any (a b : Nat) (w : World) (ha : a < B ^ 4) (hb : b < B ^ 4) : Ret Try.prog 30 #[numV a, numV b] w (numV (Ar.subN a b)) := by
  refine Ret.of ?_
  have hm := Nat.mod_lt b Ar.pp_pos
  have hp := pp_lt
  have hlt : Ar.pp - b % Ar.pp < B ^ 4 := by omega
  go_enter Try.func30, Try.ntmps30
  go_wp2_with fail
  refine wp_region_plain 6 11 mixed (by kernel_rfl) (by kernel_rfl) rfl (fun _ _ _ _ _ h => h) ?_
  simp only [List.take_succ_cons, List.take_zero, List.drop_succ_cons, List.drop_zero]
  repeat (first | (refine wpHead_skip rfl ?_) | (refine wpHead_run rfl rfl (fun K hK => ?_); go_simp; first | (refine hK _ ?_; clear hK K) | (apply Exists.intro; refine ⟨fun _ => ?_, hK _ ?_⟩; (with_reducible first | exact primeR_any _ | exact normR_any _ _ hb | exact subNum_pp _ _ hm | exact addR_any _ _ _ ha hlt); clear hK K)))
  refine wpHead_nil ?_
  intro zz x1
  clear zz
  go_wp2_with fail
  refine bodyPost_ret (v := numV (Ar.addN a (Ar.pp - b % Ar.pp))) (by simp [results, Try.results30, go_sem]) rfl ⟨by rw [show Ar.addN a (Ar.pp - b % Ar.pp) = Ar.subN a b from (Nat.mod_add_mod a Ar.pp (Ar.pp - b % Ar.pp)).symm], ?_⟩
  repeat (first | exact Below.refl _ _ | refine Below.setCell ?_ (by first | (simp; done) | (simp; omega) | (simp [size_plus]; done) | (simp [size_plus]; omega)) _ | refine Below.alloc ?_ (by first | (simp; done) | (simp; omega) | (simp [size_plus]; done) | (simp [size_plus]; omega)) _ | refine Below.drew ?_ | refine Below.plus ?_ (by first | (simp; done) | (simp; omega) | (simp [size_plus]; done) | (simp [size_plus]; omega)) _)

set_option maxRecDepth 100000 in
theorem bytesIn_any (L : Nat) (w : World) : Ret Try.prog 57 #[numV L] w (strV (le 32 L)) := by
  refine Ret.of ?_
  go_enter Try.func57, Try.ntmps57
  go_wp2_with fail
  refine wp_loop_rounds 5 ?_
  rw [rounds_succ]
  go_wp2_with fail
  refine (little_any (nw L 0) _).out.mono ?_
  rintro _ _ ⟨rfl, y0, rfl⟩
  go_wp2_with fail
  rw [rounds_succ]
  go_wp2_with fail
  refine (little_any (nw L 1) _).out.mono ?_
  rintro _ _ ⟨rfl, y1, rfl⟩
  go_wp2_with fail
  rw [rounds_succ]
  go_wp2_with fail
  refine (little_any (nw L 2) _).out.mono ?_
  rintro _ _ ⟨rfl, y2, rfl⟩
  go_wp2_with fail
  rw [rounds_succ]
  go_wp2_with fail
  refine (little_any (nw L 3) _).out.mono ?_
  rintro _ _ ⟨rfl, y3, rfl⟩
  go_wp2_with fail
  rw [rounds_succ]
  go_wp2_with fail
  rw [le_words_r L]
  refine bodyPost_ret (v := strV (le 32 L)) (by simp [results, Try.results57, go_sem]) rfl ⟨rfl, ?_⟩
  repeat (first | exact Below.refl _ _ | refine Below.setCell ?_ (by first | (simp; done) | (simp; omega) | (simp [size_plus]; done) | (simp [size_plus]; omega)) _ | refine Below.alloc ?_ (by first | (simp; done) | (simp; omega) | (simp [size_plus]; done) | (simp [size_plus]; omega)) _ | refine Below.drew ?_ | refine Below.plus ?_ (by first | (simp; done) | (simp; omega) | (simp [size_plus]; done) | (simp [size_plus]; omega)) _)

set_option maxRecDepth 100000 in
theorem bytesR_any (a : Nat) (w : World) (ha : a < B ^ 4) : Ret Try.prog 33 #[numV a] w (strV (le 32 (a % Ar.pp))) := by
  refine Ret.of ?_
  go_enter Try.func33, Try.ntmps33
  go_wp2_with fail
  refine (normR_any a _ ha).out.mono ?_
  rintro _ _ ⟨rfl, x1, rfl⟩
  go_wp2_with fail
  refine (bytesIn_any (a % Ar.pp) _).out.mono ?_
  rintro _ _ ⟨rfl, x2, rfl⟩
  go_wp2_with fail
  refine bodyPost_ret (v := strV (le 32 (a % Ar.pp))) (by simp [results, Try.results33, go_sem]) rfl ⟨rfl, ?_⟩
  repeat (first | exact Below.refl _ _ | refine Below.setCell ?_ (by first | (simp; done) | (simp; omega) | (simp [size_plus]; done) | (simp [size_plus]; omega)) _ | refine Below.alloc ?_ (by first | (simp; done) | (simp; omega) | (simp [size_plus]; done) | (simp [size_plus]; omega)) _ | refine Below.drew ?_ | refine Below.plus ?_ (by first | (simp; done) | (simp; omega) | (simp [size_plus]; done) | (simp [size_plus]; omega)) _)
end Go.Proofs.Ytihbjlpohjohpaa
