/- Walks: the field's own sums and differences. -/
import Derived.Test.YtihbjlpohjohpaaNum
import Derived.RegionTactic
import Derived.BigRegion
import Derived.Outline
namespace Go.Proofs.Ytihbjlpohjohpaa
open Go.RowKit

section
attribute [local go_sem] addC_cy0 addC_cy1 addC_cy2 addC_cy3 addS_cy0 addS_cy1 addS_cy2 addS_cy3

set_option maxRecDepth 100000 in
theorem more_any (a n : Nat) (w : World) : Ret Try.prog 46 #[numV a, .int .u64 n] w (.tuple #[numV (a + n), .int .u64 (cy a n 4)]) := by
  refine Ret.of ?_
  go_enter Try.func46, Try.ntmps46
  go_wp2_with fail
  refine wp_loop_rounds 5 ?_
  iterate 5 (rw [rounds_succ]; go_wp2_with fail)
  refine bodyPost_ret (v := .tuple #[numV (a + n), .int .u64 (cy a n 4)]) (by simp [results, Try.results46, go_sem]) rfl ⟨rfl, ?_⟩
  repeat (first | exact Below.refl _ _ | refine Below.setCell ?_ (by first | (simp; done) | (simp; omega) | (simp [size_plus]; done) | (simp [size_plus]; omega)) _ | refine Below.alloc ?_ (by first | (simp; done) | (simp; omega) | (simp [size_plus]; done) | (simp [size_plus]; omega)) _ | refine Below.drew ?_ | refine Below.plus ?_ (by first | (simp; done) | (simp; omega) | (simp [size_plus]; done) | (simp [size_plus]; omega)) _)

end
attribute [local go_sem] addC_cz0 addC_cz1 addC_cz2 addC_cz3 addS_cz0 addS_cz1 addS_cz2 addS_cz3

set_option maxRecDepth 100000 in
theorem less_any (a b : Nat) (w : World) : Ret Try.prog 47 #[numV a, numV b] w (.tuple #[numV (dif a b), .bool (decide (a % B ^ 4 < b % B ^ 4))]) := by
  refine Ret.of ?_
  go_enter Try.func47, Try.ntmps47
  go_wp2_with fail
  refine wp_loop_rounds 5 ?_
  iterate 4 (rw [rounds_succ]; go_wp2_with fail; go_region; go_wp2_with fail)
  rw [rounds_succ]
  go_wp2_with fail
  refine bodyPost_ret (v := .tuple #[numV (dif a b), .bool (decide (a % B ^ 4 < b % B ^ 4))]) (by simp [results, Try.results47, go_sem, bo_pos]) rfl ⟨rfl, ?_⟩
  repeat (first | exact Below.refl _ _ | refine Below.setCell ?_ (by first | (simp; done) | (simp; omega) | (simp [size_plus]; done) | (simp [size_plus]; omega)) _ | refine Below.alloc ?_ (by first | (simp; done) | (simp; omega) | (simp [size_plus]; done) | (simp [size_plus]; omega)) _ | refine Below.drew ?_ | refine Below.plus ?_ (by first | (simp; done) | (simp; omega) | (simp [size_plus]; done) | (simp [size_plus]; omega)) _)

set_option maxRecDepth 100000 in
theorem prime_any (w : World) : Ret Try.prog 48 #[] w (numV Ar.pp) := by
  refine Ret.of ?_
  go_enter Try.func48, Try.ntmps48
  go_wp2_with fail
  refine bodyPost_ret (v := numV Ar.pp) (by simp [results, Try.results48, go_sem]; exact ⟨by decide +kernel, by decide +kernel, by decide +kernel, by decide +kernel⟩) rfl ⟨rfl, ?_⟩
  repeat (first | exact Below.refl _ _ | refine Below.setCell ?_ (by first | (simp; done) | (simp; omega) | (simp [size_plus]; done) | (simp [size_plus]; omega)) _ | refine Below.alloc ?_ (by first | (simp; done) | (simp; omega) | (simp [size_plus]; done) | (simp [size_plus]; omega)) _ | refine Below.drew ?_ | refine Below.plus ?_ (by first | (simp; done) | (simp; omega) | (simp [size_plus]; done) | (simp [size_plus]; omega)) _)

def lo (a : Nat) : Nat := a % 57896044618658097711785492504343953926634992332820282019728792003956564819968
def top (a : Nat) : Nat := nw a 3 / 9223372036854775808 * 19
theorem lo_nw (a : Nat) : nw a 0 = nw (lo a) 0 ∧ nw a 1 = nw (lo a) 1 ∧ nw a 2 = nw (lo a) 2 := by
  unfold nw lo B
  simp only [Nat.pow_succ, Nat.pow_zero, Nat.one_mul, Nat.div_one]
  omega
theorem lo_three (a : Nat) : bits BinOp.and IntKind.u64 (nw a 3) 9223372036854775807 = ((nw (lo a) 3 : Nat) : Int) := by
  have h := bits_and_u64_nat (nw a 3) 9223372036854775807 (nw_lt' a 3) (by omega)
  have e : nw a 3 &&& 9223372036854775807 = nw a 3 % 2 ^ 63 := Nat.and_two_pow_sub_one_eq_mod (nw a 3) 63
  rw [e] at h
  rw [show ((9223372036854775807 : Int)) = ((9223372036854775807 : Nat) : Int) from rfl, h]
  congr 1
  unfold nw lo B
  simp only [Nat.pow_succ, Nat.pow_zero, Nat.one_mul]
  omega
theorem top_le (a : Nat) : top a ≤ 19 := by
  have := nw_lt' a 3
  unfold top
  omega
theorem top_wrap (a : Nat) : IntKind.u64.wrap (((nw a 3 : Nat) : Int) / 9223372036854775808 * 19) = ((top a : Nat) : Int) := by
  have h := top_le a
  have e : (((nw a 3 : Nat) : Int) / 9223372036854775808 * 19) = ((top a : Nat) : Int) := by unfold top; omega
  rw [e]
  exact wrap_u64_nat _ (by omega)
theorem norm_sum {a : Nat} (ha : a < B ^ 4) : lo a + top a + Ar.pp * (a / 57896044618658097711785492504343953926634992332820282019728792003956564819968) = a ∧ lo a + top a < Ar.pp + 38 := by
  unfold top nw lo Ar.pp B at *
  simp only [Nat.pow_succ, Nat.pow_zero, Nat.one_mul] at *
  omega
theorem norm_lt {a : Nat} (ha : a < B ^ 4) (h : (lo a + top a) % B ^ 4 < Ar.pp % B ^ 4) : lo a + top a = a % Ar.pp := by
  obtain ⟨h1, h2⟩ := norm_sum ha
  have h3 : lo a + top a < Ar.pp := by
    unfold Ar.pp B at *
    simp only [Nat.pow_succ, Nat.pow_zero, Nat.one_mul] at h
    omega
  conv => rhs; rw [← h1]
  rw [Nat.add_mul_mod_self_left, Nat.mod_eq_of_lt h3]
theorem norm_ge {a : Nat} (ha : a < B ^ 4) (h : ¬ (lo a + top a) % B ^ 4 < Ar.pp % B ^ 4) : dif (lo a + top a) Ar.pp = a % Ar.pp + B ^ 4 * 1 := by
  obtain ⟨h1, h2⟩ := norm_sum ha
  have h3 : Ar.pp ≤ lo a + top a := by
    unfold Ar.pp B at *
    simp only [Nat.pow_succ, Nat.pow_zero, Nat.one_mul] at h
    omega
  have e : a % Ar.pp = lo a + top a - Ar.pp := by
    conv => lhs; rw [← h1]
    rw [Nat.add_mul_mod_self_left, Nat.mod_eq_sub_mod h3, Nat.mod_eq_of_lt (by unfold Ar.pp at *; omega)]
  rw [e]
  unfold dif
  rw [show Ar.pp / B ^ 4 = 0 by decide +kernel]
  omega

set_option maxRecDepth 100000 in
theorem norm_any (a : Nat) (w : World) (ha : a < B ^ 4) : Ret Try.prog 16 #[numV a] w (numV (a % Ar.pp)) := by
  refine Ret.of ?_
  obtain ⟨hl0, hl1, hl2⟩ := lo_nw a
  have hl3 := lo_three a
  have ht := top_wrap a
  have H1 := Lib.hid (@norm_lt a ha)
  have H2 := Lib.hid (@norm_ge a ha)
  go_enter Try.func16, Try.ntmps16
  go_wp2_with fail
  refine (more_any (lo a) (top a) _).out.mono ?_
  rintro _ _ ⟨rfl, x1, rfl⟩
  clear hl0 hl1 hl2 hl3 ht
  go_wp2_with fail
  refine wp_region_one 7 30 6 4 24 _ mixed (by kernel_rfl) (by kernel_rfl) rfl alloc24 (fun _ _ _ _ _ h => h) ?_
  simp only [List.take_succ_cons, List.take_zero, List.drop_succ_cons, List.drop_zero]
  repeat (first | (refine wpHead_skip rfl ?_) | (refine wpHead_run rfl rfl (fun K hK => ?_); go_simp; first | (refine hK _ ?_; clear hK K) | (apply Exists.intro; refine ⟨fun _ => ?_, hK _ ?_⟩; (first | exact prime_any _ | exact less_any _ _ _); clear hK K)))
  refine wpHead_nil ?_
  intro zz x2 x3
  clear zz
  by_cases hlt : (lo a + top a) % B ^ 4 < Ar.pp % B ^ 4
  · go_wp2_with fail
    refine bodyPost_ret (v := numV (lo a + top a)) (by simp [results, Try.results16, go_sem]) rfl ⟨by rw [H1.out hlt], ?_⟩
    repeat (first | exact Below.refl _ _ | refine Below.setCell ?_ (by first | (simp; done) | (simp; omega) | (simp [size_plus]; done) | (simp [size_plus]; omega)) _ | refine Below.alloc ?_ (by first | (simp; done) | (simp; omega) | (simp [size_plus]; done) | (simp [size_plus]; omega)) _ | refine Below.drew ?_ | refine Below.plus ?_ (by first | (simp; done) | (simp; omega) | (simp [size_plus]; done) | (simp [size_plus]; omega)) _)
  · go_wp2_with fail
    refine bodyPost_ret (v := numV (dif (lo a + top a) Ar.pp)) (by simp [results, Try.results16, go_sem]) rfl ⟨by rw [H2.out hlt, numV, numV, nw_add_big _ _ 0 (by omega), nw_add_big _ _ 1 (by omega), nw_add_big _ _ 2 (by omega), nw_add_big _ _ 3 (by omega)], ?_⟩
    repeat (first | exact Below.refl _ _ | refine Below.setCell ?_ (by first | (simp; done) | (simp; omega) | (simp [size_plus]; done) | (simp [size_plus]; omega)) _ | refine Below.alloc ?_ (by first | (simp; done) | (simp; omega) | (simp [size_plus]; done) | (simp [size_plus]; omega)) _ | refine Below.drew ?_ | refine Below.plus ?_ (by first | (simp; done) | (simp; omega) | (simp [size_plus]; done) | (simp [size_plus]; omega)) _)

theorem sum_lt {a b : Nat} (ha : a < Ar.pp) (hb : b < Ar.pp) : a + b < B ^ 4 := by
  unfold Ar.pp B at *
  simp only [Nat.pow_succ, Nat.pow_zero, Nat.one_mul]
  omega
theorem pp_lt : Ar.pp < B ^ 4 := by decide +kernel

set_option maxRecDepth 100000 in
theorem add_any (a b : Nat) (w : World) (ha : a < B ^ 4) (hb : b < B ^ 4) : Ret Try.prog 13 #[numV a, numV b] w (numV (Ar.addN a b)) := by
  refine Ret.of ?_
  have h1 := sum_lt (Nat.mod_lt a Ar.pp_pos) (Nat.mod_lt b Ar.pp_pos)
  go_enter Try.func13, Try.ntmps13
  go_wp2_with fail
  refine wp_region_plain 4 30 mixed (by kernel_rfl) (by kernel_rfl) rfl (fun _ _ _ _ _ h => h) ?_
  simp only [List.take_succ_cons, List.take_zero, List.drop_succ_cons, List.drop_zero]
  repeat (first | (refine wpHead_skip rfl ?_) | (refine wpHead_run rfl rfl (fun K hK => ?_); go_simp; first | (refine hK _ ?_; clear hK K) | (apply Exists.intro; refine ⟨fun _ => ?_, hK _ ?_⟩; (first | exact norm_any _ _ ha | exact norm_any _ _ hb); clear hK K)))
  refine wpHead_nil ?_
  intro zz x1
  clear zz
  go_wp2_with fail
  refine wp_loop_rounds 5 ?_
  iterate 4 (rw [rounds_succ]; go_wp2_with fail; go_region; go_wp2_with fail)
  rw [rounds_succ]
  go_wp2_with fail
  refine (norm_any (a % Ar.pp + b % Ar.pp) _ h1).out.mono ?_
  rintro _ _ ⟨rfl, x2, rfl⟩
  go_wp2_with fail
  refine bodyPost_ret (v := numV ((a % Ar.pp + b % Ar.pp) % Ar.pp)) (by simp [results, Try.results13, go_sem]) rfl ⟨by rw [← Nat.add_mod]; rfl, ?_⟩
  repeat (first | exact Below.refl _ _ | refine Below.setCell ?_ (by first | (simp; done) | (simp; omega) | (simp [size_plus]; done) | (simp [size_plus]; omega)) _ | refine Below.alloc ?_ (by first | (simp; done) | (simp; omega) | (simp [size_plus]; done) | (simp [size_plus]; omega)) _ | refine Below.drew ?_ | refine Below.plus ?_ (by first | (simp; done) | (simp; omega) | (simp [size_plus]; done) | (simp [size_plus]; omega)) _)

set_option maxRecDepth 100000 in
theorem sub_any (a b : Nat) (w : World) (ha : a < B ^ 4) (hb : b < B ^ 4) : Ret Try.prog 15 #[numV a, numV b] w (numV (Ar.subN a b)) := by
  refine Ret.of ?_
  have hm := Nat.mod_lt b Ar.pp_pos
  have hp := pp_lt
  have e1 : ∀ i, i < 4 → nw (dif Ar.pp (b % Ar.pp)) i = nw (Ar.pp - b % Ar.pp) i := fun i hi => by
    rw [show dif Ar.pp (b % Ar.pp) = Ar.pp - b % Ar.pp + B ^ 4 * 1 by unfold dif; rw [Nat.div_eq_of_lt (by omega)]; omega, nw_add_big _ _ i hi]
  have e2 : numV (dif Ar.pp (b % Ar.pp)) = numV (Ar.pp - b % Ar.pp) := by unfold numV; rw [e1 0 (by omega), e1 1 (by omega), e1 2 (by omega), e1 3 (by omega)]
  have hless : ∀ W, Ret Try.prog 47 #[numV Ar.pp, numV (b % Ar.pp)] W (.tuple #[numV (Ar.pp - b % Ar.pp), .bool (decide (Ar.pp % B ^ 4 < b % Ar.pp % B ^ 4))]) := fun W => e2 ▸ less_any Ar.pp (b % Ar.pp) W
  have hlt : Ar.pp - b % Ar.pp < B ^ 4 := by omega
  clear e1 e2
  go_enter Try.func15, Try.ntmps15
  go_wp2_with fail
  refine wp_region_plain 7 15 mixed (by kernel_rfl) (by kernel_rfl) rfl (fun _ _ _ _ _ h => h) ?_
  simp only [List.take_succ_cons, List.take_zero, List.drop_succ_cons, List.drop_zero]
  repeat (first | (refine wpHead_skip rfl ?_) | (refine wpHead_run rfl rfl (fun K hK => ?_); go_simp; first | (refine hK _ ?_; clear hK K) | (apply Exists.intro; refine ⟨fun _ => ?_, hK _ ?_⟩; (first | exact prime_any _ | exact norm_any _ _ hb | exact hless _); clear hK K)))
  refine wpHead_nil ?_
  intro zz x1
  clear zz
  go_wp2_with fail
  refine (add_any a (Ar.pp - b % Ar.pp) _ ha hlt).out.mono ?_
  rintro _ _ ⟨rfl, x2, rfl⟩
  go_wp2_with fail
  refine bodyPost_ret (v := numV (Ar.addN a (Ar.pp - b % Ar.pp))) (by simp [results, Try.results15, go_sem]) rfl ⟨by rw [show Ar.addN a (Ar.pp - b % Ar.pp) = Ar.subN a b from (Nat.mod_add_mod a Ar.pp (Ar.pp - b % Ar.pp)).symm], ?_⟩
  repeat (first | exact Below.refl _ _ | refine Below.setCell ?_ (by first | (simp; done) | (simp; omega) | (simp [size_plus]; done) | (simp [size_plus]; omega)) _ | refine Below.alloc ?_ (by first | (simp; done) | (simp; omega) | (simp [size_plus]; done) | (simp [size_plus]; omega)) _ | refine Below.drew ?_ | refine Below.plus ?_ (by first | (simp; done) | (simp; omega) | (simp [size_plus]; done) | (simp [size_plus]; omega)) _)

end Go.Proofs.Ytihbjlpohjohpaa
