/- Walks: a field's number's inverse, and its root. -/
import Derived.Test.YtihbjlpohjohpaaPower
namespace Go.Proofs.Ytihbjlpohjohpaa
open Go.RowKit

theorem less_two (w : World) : Ret Try.prog 47 #[numV Ar.pp, .agg #[.int .u64 2, .int .u64 0, .int .u64 0, .int .u64 0]] w (.tuple #[numV (Ar.pp - 2), .bool false]) := by
  have h := less_any Ar.pp 2 w
  rw [numV_small 2 (by decide)] at h
  have e1 : numV (dif Ar.pp 2) = numV (Ar.pp - 2) := by rw [← numV_mod (dif _ _), show dif Ar.pp 2 % B ^ 4 = Ar.pp - 2 by decide +kernel]
  have e2 : decide (Ar.pp % B ^ 4 < 2 % B ^ 4) = false := by decide +kernel
  rw [e1, e2] at h
  exact h

set_option maxRecDepth 100000 in
theorem inv_any (a : Nat) (w : World) (ha : a < B ^ 4) : Ret Try.prog 24 #[numV a] w (numV (Ar.invN a)) := by
  refine Ret.of ?_
  go_enter Try.func24, Try.ntmps24
  go_wp2_with fail
  refine (prime_any _).out.mono ?_
  rintro _ _ ⟨rfl, x1, rfl⟩
  go_wp2_with fail
  refine (less_two _).out.mono ?_
  rintro _ _ ⟨rfl, x2, rfl⟩
  go_wp2_with fail
  refine (power_any a (Ar.pp - 2) _ ha (Nat.lt_of_le_of_lt (Nat.sub_le _ _) pp_lt)).out.mono ?_
  rintro _ _ ⟨rfl, x3, rfl⟩
  go_wp2_with fail
  refine bodyPost_ret (v := numV (Ar.invN a)) (by simp [results, Try.results24, go_sem]; exact ⟨rfl, rfl, rfl, rfl⟩) rfl ⟨rfl, ?_⟩
  repeat (first | exact Below.refl _ _ | refine Below.setCell ?_ (by first | (simp; done) | (simp; omega) | (simp [size_plus]; done) | (simp [size_plus]; omega)) _ | refine Below.alloc ?_ (by first | (simp; done) | (simp; omega) | (simp [size_plus]; done) | (simp [size_plus]; omega)) _ | refine Below.drew ?_ | refine Below.plus ?_ (by first | (simp; done) | (simp; omega) | (simp [size_plus]; done) | (simp [size_plus]; omega)) _)

theorem num_eight : Value.agg #[.int .u64 18446744073709551614, .int .u64 18446744073709551615, .int .u64 18446744073709551615, .int .u64 1152921504606846975] = numV ((Ar.pp + 3) / 8) := by
  have h := numV_ofw (a0 := 18446744073709551614) (a1 := 18446744073709551615) (a2 := 18446744073709551615) (a3 := 1152921504606846975) (by decide) (by decide) (by decide) (by decide)
  rw [show ofw 18446744073709551614 18446744073709551615 18446744073709551615 1152921504606846975 = (Ar.pp + 3) / 8 by decide +kernel] at h
  exact h.symm
theorem num_quarter : Value.agg #[.int .u64 18446744073709551611, .int .u64 18446744073709551615, .int .u64 18446744073709551615, .int .u64 2305843009213693951] = numV ((Ar.pp - 1) / 4) := by
  have h := numV_ofw (a0 := 18446744073709551611) (a1 := 18446744073709551615) (a2 := 18446744073709551615) (a3 := 2305843009213693951) (by decide) (by decide) (by decide) (by decide)
  rw [show ofw 18446744073709551611 18446744073709551615 18446744073709551615 2305843009213693951 = (Ar.pp - 1) / 4 by decide +kernel] at h
  exact h.symm
theorem power_eight (m : Nat) (w : World) (hm : m < B ^ 4) : Ret Try.prog 50 #[numV m, .agg #[.int .u64 18446744073709551614, .int .u64 18446744073709551615, .int .u64 18446744073709551615, .int .u64 1152921504606846975]] w (numV (Ar.powN m ((Ar.pp + 3) / 8))) :=
  num_eight ▸ power_any m ((Ar.pp + 3) / 8) w hm (by decide +kernel)
theorem isq4 : Ar.isqN < B ^ 4 := by
  unfold Ar.isqN
  exact pow4 2 ((Ar.pp - 1) / 4)
theorem power_quarter (w : World) : Ret Try.prog 50 #[.agg #[.int .u64 2, .int .u64 0, .int .u64 0, .int .u64 0], .agg #[.int .u64 18446744073709551611, .int .u64 18446744073709551615, .int .u64 18446744073709551615, .int .u64 2305843009213693951]] w (numV Ar.isqN) := by
  have h := power_any 2 ((Ar.pp - 1) / 4) w (by decide) (by decide +kernel)
  rw [numV_small 2 (by decide), ← num_quarter] at h
  exact h
theorem quarter_is : ∃ q, (∀ w, Ret Try.prog 50 #[.agg #[.int .u64 2, .int .u64 0, .int .u64 0, .int .u64 0], .agg #[.int .u64 18446744073709551611, .int .u64 18446744073709551615, .int .u64 18446744073709551615, .int .u64 2305843009213693951]] w (numV q)) ∧ Ar.isqN = q ∧ q < B ^ 4 :=
  ⟨Ar.isqN, power_quarter, rfl, isq4⟩
theorem try_yes {m x : Nat} (hx : Ar.powN m ((Ar.pp + 3) / 8) = x) (h : Ar.mulN x x = m) : Ar.tryN m = x := by
  unfold Ar.tryN
  rw [hx, if_pos h]
theorem try_no {m x : Nat} (hx : Ar.powN m ((Ar.pp + 3) / 8) = x) (h : ¬ Ar.mulN x x = m) : Ar.tryN m = Ar.mulN x Ar.isqN := by
  unfold Ar.tryN
  rw [hx, if_neg h]
theorem sub_zero (y : Nat) (w : World) (hy : y < B ^ 4) : Ret Try.prog 15 #[.agg #[.int .u64 0, .int .u64 0, .int .u64 0, .int .u64 0], numV y] w (numV (Ar.subN 0 y)) := by
  have h := sub_any 0 y w (by decide) hy
  rw [numV_small 0 (by decide)] at h
  exact h
theorem root_is {a m y : Nat} (hm : a % Ar.pp = m) (hy : Ar.tryN m = y) : Ar.rootN a = if Ar.mulN y y = m then (if y % 2 = 1 then Ar.subN 0 y else y, true) else (0, false) := by
  subst hm hy
  unfold Ar.rootN
  rfl
theorem low_bit (y : Nat) : bits BinOp.and IntKind.u64 ((nw y 0 : Nat) : Int) 1 = ((y % 2 : Nat) : Int) := by
  rw [show (1 : Int) = ((1 : Nat) : Int) from rfl, bits_and_u64_nat _ 1 (nw_lt' _ _) (by omega), Nat.and_one_is_mod, nw_zero]
  unfold B
  congr 1
  omega
theorem odd_yes (y : Nat) (h : y % 2 = 1) : decide (0 < bits BinOp.and IntKind.u64 ((nw y 0 : Nat) : Int) 1) = true := by
  rw [low_bit, h]
  rfl
theorem odd_no (y : Nat) (h : ¬ y % 2 = 1) : decide (0 < bits BinOp.and IntKind.u64 ((nw y 0 : Nat) : Int) 1) = false := by
  rw [low_bit, show y % 2 = 0 by omega]
  rfl

set_option maxRecDepth 100000 in
set_option maxHeartbeats 1000000 in
theorem root_any (a : Nat) (w : World) (ha : a < B ^ 4) : Ret Try.prog 25 #[numV a] w (.tuple #[numV (Ar.rootN a).1, .bool (Ar.rootN a).2]) := by
  refine Ret.of ?_
  go_enter Try.func25, Try.ntmps25
  go_wp2_with fail
  refine (norm_any a _ ha).out.mono ?_
  rintro _ _ ⟨rfl, x1, rfl⟩
  obtain ⟨m, hm⟩ : ∃ m, a % Ar.pp = m := ⟨_, rfl⟩
  have HM := Lib.hid hm
  have hm4 : m < B ^ 4 := hm ▸ mod4 a
  rw [hm]
  clear hm
  go_wp2_with fail
  refine (power_eight m _ hm4).out.mono ?_
  rintro _ _ ⟨rfl, x2, rfl⟩
  obtain ⟨x, hx⟩ : ∃ x, Ar.powN m ((Ar.pp + 3) / 8) = x := ⟨_, rfl⟩
  have HX := Lib.hid hx
  have hx4 : x < B ^ 4 := hx ▸ pow4 m ((Ar.pp + 3) / 8)
  rw [hx]
  clear hx
  go_wp2_with fail
  refine wp_region_plain 5 34 mixed (by kernel_rfl) (by kernel_rfl) rfl (fun _ _ _ _ _ h => h) ?_
  simp only [List.take_succ_cons, List.take_zero, List.drop_succ_cons, List.drop_zero]
  repeat (first | (refine wpHead_skip rfl ?_) | (refine wpHead_run rfl rfl (fun K hK => ?_); go_simp; first | (refine hK _ ?_; clear hK K) | (apply Exists.intro; refine ⟨fun _ => ?_, hK _ ?_⟩; (with_reducible exact mul_any _ _ _ hx4 hx4); clear hK K)))
  refine wpHead_nil ?_
  intro zz x3
  clear zz
  by_cases h1 : Ar.mulN x x = m
  · have hb : decide (Ar.mulN x x % B ^ 4 = m % B ^ 4) = true := decide_eq_true (by rw [h1])
    have HT := Lib.hid (try_yes HX.out h1)
    simp only [hb, Bool.not_true]
    clear hb h1
    go_wp2_with fail
    obtain ⟨y, hy⟩ : ∃ y, x = y := ⟨_, rfl⟩
    have HY := Lib.hid hy
    have hy4 : y < B ^ 4 := hy ▸ hx4
    rw [hy]
    clear hy
    refine wp_region_plain 5 34 mixed (by kernel_rfl) (by kernel_rfl) rfl (fun _ _ _ _ _ h => h) ?_
    simp only [List.take_succ_cons, List.take_zero, List.drop_succ_cons, List.drop_zero]
    repeat (first | (refine wpHead_skip rfl ?_) | (refine wpHead_run rfl rfl (fun K hK => ?_); go_simp; first | (refine hK _ ?_; clear hK K) | (apply Exists.intro; refine ⟨fun _ => ?_, hK _ ?_⟩; (with_reducible exact mul_any _ _ _ hy4 hy4); clear hK K)))
    refine wpHead_nil ?_
    intro zz z1
    clear zz
    by_cases hs : Ar.mulN y y = m
    · have hb : decide (Ar.mulN y y % B ^ 4 = m % B ^ 4) = true := decide_eq_true (by rw [hs])
      simp only [hb, Bool.not_true]
      clear hb
      by_cases ho : y % 2 = 1
      · have hbit := odd_yes y ho
        go_wp2_with fail
        refine (sub_zero y _ hy4).out.mono ?_
        rintro _ _ ⟨rfl, z2, rfl⟩
        go_wp2_with fail
        refine bodyPost_ret (v := .tuple #[numV (Ar.rootN a).1, .bool (Ar.rootN a).2]) (by rw [root_is HM.out (HT.out.trans HY.out), if_pos hs, if_pos ho]; simp [results, Try.results25, go_sem]) rfl ⟨rfl, ?_⟩
        repeat (first | exact Below.refl _ _ | refine Below.setCell ?_ (by first | (simp; done) | (simp; omega) | (simp [size_plus]; done) | (simp [size_plus]; omega)) _ | refine Below.alloc ?_ (by first | (simp; done) | (simp; omega) | (simp [size_plus]; done) | (simp [size_plus]; omega)) _ | refine Below.drew ?_ | refine Below.plus ?_ (by first | (simp; done) | (simp; omega) | (simp [size_plus]; done) | (simp [size_plus]; omega)) _)
      · have hbit := odd_no y ho
        go_wp2_with fail
        refine bodyPost_ret (v := .tuple #[numV (Ar.rootN a).1, .bool (Ar.rootN a).2]) (by rw [root_is HM.out (HT.out.trans HY.out), if_pos hs, if_neg ho]; simp [results, Try.results25, go_sem]) rfl ⟨rfl, ?_⟩
        repeat (first | exact Below.refl _ _ | refine Below.setCell ?_ (by first | (simp; done) | (simp; omega) | (simp [size_plus]; done) | (simp [size_plus]; omega)) _ | refine Below.alloc ?_ (by first | (simp; done) | (simp; omega) | (simp [size_plus]; done) | (simp [size_plus]; omega)) _ | refine Below.drew ?_ | refine Below.plus ?_ (by first | (simp; done) | (simp; omega) | (simp [size_plus]; done) | (simp [size_plus]; omega)) _)
    · have hb : decide (Ar.mulN y y % B ^ 4 = m % B ^ 4) = false := decide_eq_false (by rw [Nat.mod_eq_of_lt (mul4 _ _), Nat.mod_eq_of_lt hm4]; exact hs)
      simp only [hb, Bool.not_false]
      clear hb
      go_wp2_with fail
      refine bodyPost_ret (v := .tuple #[numV (Ar.rootN a).1, .bool (Ar.rootN a).2]) (by rw [root_is HM.out (HT.out.trans HY.out), if_neg hs]; simp [results, Try.results25, go_sem]; exact ⟨rfl, rfl, rfl, rfl⟩) rfl ⟨rfl, ?_⟩
      repeat (first | exact Below.refl _ _ | refine Below.setCell ?_ (by first | (simp; done) | (simp; omega) | (simp [size_plus]; done) | (simp [size_plus]; omega)) _ | refine Below.alloc ?_ (by first | (simp; done) | (simp; omega) | (simp [size_plus]; done) | (simp [size_plus]; omega)) _ | refine Below.drew ?_ | refine Below.plus ?_ (by first | (simp; done) | (simp; omega) | (simp [size_plus]; done) | (simp [size_plus]; omega)) _)
  · have hb : decide (Ar.mulN x x % B ^ 4 = m % B ^ 4) = false := decide_eq_false (by rw [Nat.mod_eq_of_lt (mul4 _ _), Nat.mod_eq_of_lt hm4]; exact h1)
    have HT := Lib.hid (try_no HX.out h1)
    obtain ⟨q, hpq, hq, hq4⟩ := quarter_is
    rw [hq] at HT
    clear hq
    simp only [hb, Bool.not_false]
    clear hb h1
    go_wp2_with fail
    refine wp_region_plain 5 34 mixed (by kernel_rfl) (by kernel_rfl) rfl (fun _ _ _ _ _ h => h) ?_
    simp only [List.take_succ_cons, List.take_zero, List.drop_succ_cons, List.drop_zero]
    repeat (first | (refine wpHead_skip rfl ?_) | (refine wpHead_run rfl rfl (fun K hK => ?_); go_simp; first | (refine hK _ ?_; clear hK K) | (apply Exists.intro; refine ⟨fun _ => ?_, hK _ ?_⟩; (with_reducible first | exact hpq _ | exact mul_any _ _ _ hx4 hq4); clear hK K)))
    refine wpHead_nil ?_
    intro zz x4
    clear zz
    go_wp2_with fail
    obtain ⟨y, hy⟩ : ∃ y, Ar.mulN x q = y := ⟨_, rfl⟩
    have HY := Lib.hid hy
    have hy4 : y < B ^ 4 := hy ▸ mul4 x q
    rw [hy]
    clear hy
    refine wp_region_plain 5 34 mixed (by kernel_rfl) (by kernel_rfl) rfl (fun _ _ _ _ _ h => h) ?_
    simp only [List.take_succ_cons, List.take_zero, List.drop_succ_cons, List.drop_zero]
    repeat (first | (refine wpHead_skip rfl ?_) | (refine wpHead_run rfl rfl (fun K hK => ?_); go_simp; first | (refine hK _ ?_; clear hK K) | (apply Exists.intro; refine ⟨fun _ => ?_, hK _ ?_⟩; (with_reducible exact mul_any _ _ _ hy4 hy4); clear hK K)))
    refine wpHead_nil ?_
    intro zz z1
    clear zz
    by_cases hs : Ar.mulN y y = m
    · have hb : decide (Ar.mulN y y % B ^ 4 = m % B ^ 4) = true := decide_eq_true (by rw [hs])
      simp only [hb, Bool.not_true]
      clear hb
      by_cases ho : y % 2 = 1
      · have hbit := odd_yes y ho
        go_wp2_with fail
        refine (sub_zero y _ hy4).out.mono ?_
        rintro _ _ ⟨rfl, z2, rfl⟩
        go_wp2_with fail
        refine bodyPost_ret (v := .tuple #[numV (Ar.rootN a).1, .bool (Ar.rootN a).2]) (by rw [root_is HM.out (HT.out.trans HY.out), if_pos hs, if_pos ho]; simp [results, Try.results25, go_sem]) rfl ⟨rfl, ?_⟩
        repeat (first | exact Below.refl _ _ | refine Below.setCell ?_ (by first | (simp; done) | (simp; omega) | (simp [size_plus]; done) | (simp [size_plus]; omega)) _ | refine Below.alloc ?_ (by first | (simp; done) | (simp; omega) | (simp [size_plus]; done) | (simp [size_plus]; omega)) _ | refine Below.drew ?_ | refine Below.plus ?_ (by first | (simp; done) | (simp; omega) | (simp [size_plus]; done) | (simp [size_plus]; omega)) _)
      · have hbit := odd_no y ho
        go_wp2_with fail
        refine bodyPost_ret (v := .tuple #[numV (Ar.rootN a).1, .bool (Ar.rootN a).2]) (by rw [root_is HM.out (HT.out.trans HY.out), if_pos hs, if_neg ho]; simp [results, Try.results25, go_sem]) rfl ⟨rfl, ?_⟩
        repeat (first | exact Below.refl _ _ | refine Below.setCell ?_ (by first | (simp; done) | (simp; omega) | (simp [size_plus]; done) | (simp [size_plus]; omega)) _ | refine Below.alloc ?_ (by first | (simp; done) | (simp; omega) | (simp [size_plus]; done) | (simp [size_plus]; omega)) _ | refine Below.drew ?_ | refine Below.plus ?_ (by first | (simp; done) | (simp; omega) | (simp [size_plus]; done) | (simp [size_plus]; omega)) _)
    · have hb : decide (Ar.mulN y y % B ^ 4 = m % B ^ 4) = false := decide_eq_false (by rw [Nat.mod_eq_of_lt (mul4 _ _), Nat.mod_eq_of_lt hm4]; exact hs)
      simp only [hb, Bool.not_false]
      clear hb
      go_wp2_with fail
      refine bodyPost_ret (v := .tuple #[numV (Ar.rootN a).1, .bool (Ar.rootN a).2]) (by rw [root_is HM.out (HT.out.trans HY.out), if_neg hs]; simp [results, Try.results25, go_sem]; exact ⟨rfl, rfl, rfl, rfl⟩) rfl ⟨rfl, ?_⟩
      repeat (first | exact Below.refl _ _ | refine Below.setCell ?_ (by first | (simp; done) | (simp; omega) | (simp [size_plus]; done) | (simp [size_plus]; omega)) _ | refine Below.alloc ?_ (by first | (simp; done) | (simp; omega) | (simp [size_plus]; done) | (simp [size_plus]; omega)) _ | refine Below.drew ?_ | refine Below.plus ?_ (by first | (simp; done) | (simp; omega) | (simp [size_plus]; done) | (simp [size_plus]; omega)) _)

end Go.Proofs.Ytihbjlpohjohpaa
