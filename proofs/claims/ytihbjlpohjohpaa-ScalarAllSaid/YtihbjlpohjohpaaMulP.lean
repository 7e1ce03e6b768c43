/- Walks: the reference's product, powers, inverse. -/
import Derived.Test.YtihbjlpohjohpaaFoldR
import Derived.Test.YtihbjlpohjohpaaSc1
namespace Go.Proofs.Ytihbjlpohjohpaa
open Go.RowKit

set_option maxRecDepth 100000 in
theorem mulP_any (a b : Nat) (w : World) (ha : a < B ^ 4) (hb : b < B ^ 4) : Ret Try.prog 31 #[numV a, numV b] w (numV (Ar.mulN a b)) := by
  refine Ret.of ?_
  go_enter Try.func31, Try.ntmps31
  go_wp2_with fail
  refine (mulRow_any a b _ ha hb).mono ?_
  rintro _ w1 ⟨⟨L, hL, hH, hv, rfl⟩, hb1⟩
  obtain ⟨x1, rfl⟩ := plus_of_below hb1
  have HV := Lib.hid hv
  have HL := Lib.hid hL
  have HH := Lib.hid hH
  clear hb1 hv hL hH
  go_wp2_with fail
  refine (foldR_any L HL.out HH.out _).mono ?_
  rintro _ w2 ⟨⟨x, hx, hm, rfl⟩, hb2⟩
  obtain ⟨x2, rfl⟩ := plus_of_below hb2
  have HM := Lib.hid hm
  clear hb2 hm
  go_wp2_with fail
  refine (normR_any x _ hx).out.mono ?_
  rintro _ _ ⟨rfl, x3, rfl⟩
  go_wp2_with fail
  refine bodyPost_ret (v := numV (x % Ar.pp)) (by simp [results, Try.results31, go_sem]) rfl ⟨by rw [HM.out, HV.out]; rfl, ?_⟩
  repeat (first | exact Below.refl _ _ | refine Below.setCell ?_ (by first | (simp; done) | (simp; omega) | (simp [size_plus]; done) | (simp [size_plus]; omega)) _ | refine Below.alloc ?_ (by first | (simp; done) | (simp; omega) | (simp [size_plus]; done) | (simp [size_plus]; omega)) _ | refine Below.drew ?_ | refine Below.plus ?_ (by first | (simp; done) | (simp; omega) | (simp [size_plus]; done) | (simp [size_plus]; omega)) _)
theorem powN_zero (a : Nat) : Ar.powN a 0 = 1 := by unfold Ar.powN; rw [Nat.pow_zero]; decide +kernel
theorem div_fall (n k : Nat) (hk : k < 256) : n / 2 ^ (256 - (k + 1)) = 2 * (n / 2 ^ (256 - k)) + (decide (n / 2 ^ (255 - k) % 2 = 1)).toNat := by
  rw [show 256 - k = (255 - k) + 1 by omega, Nat.pow_succ, ← Nat.div_div_eq_div_mul, show 256 - (k + 1) = 255 - k by omega]
  generalize n / 2 ^ (255 - k) = m
  by_cases h : m % 2 = 1 <;> simp [h] <;> omega
set_option maxRecDepth 100000 in
theorem powP_any (a n : Nat) (w : World) (ha : a < B ^ 4) (hn : n < B ^ 4) : Ret Try.prog 51 #[numV a, numV n] w (numV (Ar.powN a n)) := by
  refine Ret.of ?_
  go_enter Try.func51, Try.ntmps51
  go_wp2_with fail
  go_loopw [6] (fun v wr => ∃ k : Nat, k ≤ 256 ∧ v = .int .i64 (255 - (k : Int)) ∧ ∃ V : Nat, V < B ^ 4 ∧ Hid (V = Ar.powN a (n / 2 ^ (256 - k))) ∧ ∃ x : Ext,
    wr = plus ((((w.alloc (.cells (wordsOf a) 24)).alloc (.cells (wordsOf n) 24)).alloc (.cells #[.int .u64 0, .int .u64 0, .int .u64 0, .int .u64 0] 24)).alloc (.cells (wordsOf V) 24)) x) (fun v _ => (1 + intOf v).toNat)
  case atStart =>
    have e1 : (#[.int .u64 1, .int .u64 0, .int .u64 0, .int .u64 0] : Array Value) = wordsOf 1 := by kernel_rfl
    refine ⟨0, by omega, rfl, 1, by decide, ?_, ⟨_, by rw [e1]; exact (plus_none _).symm⟩⟩
    rw [Nat.div_eq_of_lt (by rw [show 256 - 0 = 256 from rfl]; exact Nat.lt_of_lt_of_le hn (by decide)), powN_zero]
    exact rfl
  case round =>
    obtain ⟨k, hk, rfl, V, hV, HP, x, rfl⟩ := hrel
    by_cases h256 : k < 256
    · have hw := word_get n ((255 - k) / 64) (by omega)
      have hb := falls_bit n (255 - k)
      by_cases hbit : n / 2 ^ (255 - k) % 2 = 1
      · rw [show (decide (n / 2 ^ (255 - k) % 2 = 1)) = true from decide_eq_true hbit] at hb
        go_wp2_with fail
        refine (mulP_any V V _ hV hV).out.mono ?_
        rintro _ _ ⟨rfl, x1, rfl⟩
        go_wp2_with fail
        refine (mulP_any (Ar.mulN V V) a _ (mul4 _ _) ha).out.mono ?_
        rintro _ _ ⟨rfl, x2, rfl⟩
        go_wp2_with fail
        go_roundw
        case rel =>
          have e : Ar.mulN (Ar.mulN V V) a = Ar.powN a (n / 2 ^ (256 - (k + 1))) := by
            rw [div_fall n k h256, decide_eq_true hbit, pow_odd, ← HP.out]
          exact ⟨k + 1, by omega, by go_num, _, mul4 _ _, e, _, by rw [plus_plus, plus_plus]⟩
        case measure => simp [intOf]; omega
      · rw [show (decide (n / 2 ^ (255 - k) % 2 = 1)) = false from decide_eq_false hbit] at hb
        go_wp2_with fail
        refine (mulP_any V V _ hV hV).out.mono ?_
        rintro _ _ ⟨rfl, x1, rfl⟩
        go_wp2_with fail
        go_roundw
        case rel =>
          have e : Ar.mulN V V = Ar.powN a (n / 2 ^ (256 - (k + 1))) := by
            rw [div_fall n k h256, decide_eq_false hbit, pow_even, ← HP.out]
          exact ⟨k + 1, by omega, by go_num, _, mul4 _ _, e, _, by rw [plus_plus]⟩
        case measure => simp [intOf]; omega
    · obtain rfl : k = 256 := by omega
      go_wp2_with fail
      refine bodyPost_ret (v := numV V) (by simp [results, Try.results51, go_sem]) rfl ⟨by rw [HP.out, show 256 - 256 = 0 from rfl, Nat.pow_zero, Nat.div_one], ?_⟩
      repeat (first | exact Below.refl _ _ | refine Below.setCell ?_ (by first | (simp; done) | (simp; omega) | (simp [size_plus]; done) | (simp [size_plus]; omega)) _ | refine Below.alloc ?_ (by first | (simp; done) | (simp; omega) | (simp [size_plus]; done) | (simp [size_plus]; omega)) _ | refine Below.drew ?_ | refine Below.plus ?_ (by first | (simp; done) | (simp; omega) | (simp [size_plus]; done) | (simp [size_plus]; omega)) _)
theorem nw_half (a i : Nat) : nw (a / 2) i = nw a i / 2 + nw a (i + 1) % 2 * 9223372036854775808 := by
  unfold nw
  rw [Nat.div_div_eq_div_mul, Nat.mul_comm 2, ← Nat.div_div_eq_div_mul, Nat.pow_succ, ← Nat.div_div_eq_div_mul]
  generalize a / B ^ i = y
  unfold B
  omega
theorem nw_four {a : Nat} (ha : a < B ^ 4) : nw a 4 = 0 := by unfold nw; rw [Nat.div_eq_of_lt ha]; rfl
theorem half_bits (a i : Nat) : bits BinOp.or IntKind.u64 ((nw a i : Int) / 2) (IntKind.u64.wrap ((nw a (i + 1) : Int) * 9223372036854775808)) = ((nw (a / 2) i : Nat) : Int) := by
  have h0 := nw_lt' a i
  have h1 := nw_lt' a (i + 1)
  rw [nw_half]
  generalize nw a i = x at *
  generalize nw a (i + 1) = y at *
  have e1 : IntKind.u64.wrap ((y : Int) * 9223372036854775808) = ((y % 2 * 9223372036854775808 : Nat) : Int) := by
    rw [show (y : Int) * 9223372036854775808 = ((y * 9223372036854775808 : Nat) : Int) by simp]
    simp [IntKind.wrap, IntKind.bits, IntKind.signed]
    omega
  rw [e1, show (x : Int) / 2 = ((x / 2 : Nat) : Int) by omega, bits_or_u64_nat _ _ (by omega) (by omega)]
  congr 1
  rw [Nat.or_comm, show y % 2 * 9223372036854775808 = 2 ^ 63 * (y % 2) by omega, ← Nat.two_pow_add_eq_or_of_lt (show x / 2 < 2 ^ 63 by omega)]
  omega
theorem half_top {a : Nat} (ha : a < B ^ 4) : (nw a 3 : Int) / 2 = ((nw (a / 2) 3 : Nat) : Int) := by
  rw [nw_half, nw_four ha]
  omega
set_option maxRecDepth 100000 in
theorem shift_any (a n : Nat) (w : World) (ha : a < B ^ 4) (hn : n ≤ 10) : Ret Try.prog 52 #[numV a, .int .i64 (n : Int)] w (numV (a / 2 ^ n)) := by
  refine Ret.of ?_
  go_enter Try.func52, Try.ntmps52
  go_wp2_with fail
  go_loopw [5] (fun v wr => ∃ k : Nat, k ≤ n ∧ v = .int .i64 (k : Int) ∧ ∃ V : Nat, V < B ^ 4 ∧ Hid (V = a / 2 ^ k) ∧ ∃ x : Ext,
    wr = plus ((w.alloc (.cells (wordsOf V) 24)).alloc (.cells #[.int .u64 0, .int .u64 0, .int .u64 0, .int .u64 0] 24)) x) (fun v _ => n - (intOf v).toNat)
  case atStart => exact ⟨0, by omega, rfl, a, ha, by rw [Nat.pow_zero, Nat.div_one]; exact rfl, ⟨_, (plus_none _).symm⟩⟩
  case round =>
    obtain ⟨k, hk, rfl, V, hV, HP, x, rfl⟩ := hrel
    by_cases hlt : k < n
    · have hd : decide ((k : Int) < (n : Int)) = true := by simp; omega
      have b0 := half_bits V 0
      have b1 := half_bits V 1
      have b2 := half_bits V 2
      have b3 := half_top hV
      go_wp2_with fail
      refine wp_loop_rounds 5 ?_
      iterate 3 (rw [rounds_succ]; go_wp2_with fail; go_region; go_wp2_with fail)
      rw [rounds_succ]
      go_wp2_with fail
      rw [rounds_succ]
      go_wp2_with fail
      go_roundw
      case rel =>
        have e : V / 2 = a / 2 ^ (k + 1) := by rw [HP.out, Nat.div_div_eq_div_mul, Nat.pow_succ]
        exact ⟨k + 1, by omega, by go_num, V / 2, by omega, e, _, rfl⟩
      case measure => simp [intOf]; omega
    · obtain rfl : k = n := by omega
      go_wp2_with fail
      refine bodyPost_ret (v := numV V) (by simp [results, Try.results52, go_sem]) rfl ⟨by rw [HP.out], ?_⟩
      repeat (first | exact Below.refl _ _ | refine Below.setCell ?_ (by first | (simp; done) | (simp; omega) | (simp [size_plus]; done) | (simp [size_plus]; omega)) _ | refine Below.alloc ?_ (by first | (simp; done) | (simp; omega) | (simp [size_plus]; done) | (simp [size_plus]; omega)) _ | refine Below.drew ?_ | refine Below.plus ?_ (by first | (simp; done) | (simp; omega) | (simp [size_plus]; done) | (simp [size_plus]; omega)) _)
theorem subP_two (w : World) : Ret Try.prog 53 #[numV Ar.pp, .agg #[.int .u64 2, .int .u64 0, .int .u64 0, .int .u64 0]] w (numV (Ar.pp - 2)) := by
  have h := subNum_any Ar.pp 2 w
  rw [numV_small 2 (by decide), ← numV_mod (dif Ar.pp 2), show dif Ar.pp 2 % B ^ 4 = Ar.pp - 2 by decide +kernel] at h
  exact h
theorem subP_one (w : World) : Ret Try.prog 53 #[numV Ar.pp, .agg #[.int .u64 1, .int .u64 0, .int .u64 0, .int .u64 0]] w (numV (Ar.pp - 1)) := by
  have h := subNum_any Ar.pp 1 w
  rw [numV_small 1 (by decide), ← numV_mod (dif Ar.pp 1), show dif Ar.pp 1 % B ^ 4 = Ar.pp - 1 by decide +kernel] at h
  exact h
theorem addP_three (w : World) : Ret Try.prog 22 #[numV Ar.pp, .agg #[.int .u64 3, .int .u64 0, .int .u64 0, .int .u64 0]] w (.tuple #[numV (Ar.pp + 3), .int .u64 (cz Ar.pp 3 4)]) := by
  have h := addNum_any Ar.pp 3 w
  rw [numV_small 3 (by decide)] at h
  exact h
set_option maxRecDepth 100000 in
theorem invP_any (a : Nat) (w : World) (ha : a < B ^ 4) : Ret Try.prog 32 #[numV a] w (numV (Ar.invN a)) := by
  refine Ret.of ?_
  obtain ⟨e, he⟩ : ∃ e, Ar.pp - 2 = e := ⟨_, rfl⟩
  have he4 : e < B ^ 4 := by rw [← he]; decide +kernel
  have h2 := subP_two
  have hv : Ar.invN a = Ar.powN a e := by rw [← he]; rfl
  rw [he] at h2
  rw [hv]
  clear hv he
  go_enter Try.func32, Try.ntmps32
  go_wp2_with fail
  refine wp_region_plain 5 8 mixed (by kernel_rfl) (by kernel_rfl) rfl (fun _ _ _ _ _ h => h) ?_
  simp only [List.take_succ_cons, List.take_zero, List.drop_succ_cons, List.drop_zero]
  repeat (first | (refine wpHead_skip rfl ?_) | (refine wpHead_run rfl rfl (fun K hK => ?_); go_simp; first | (refine hK _ ?_; clear hK K) | (apply Exists.intro; refine ⟨fun _ => ?_, hK _ ?_⟩; (with_reducible first | exact primeR_any _ | exact h2 _ | exact powP_any _ _ _ ha he4); clear hK K)))
  refine wpHead_nil ?_
  intro zz x1
  clear zz
  go_wp2_with fail
  refine bodyPost_ret (v := numV (Ar.powN a e)) (by simp [results, Try.results32, go_sem]) rfl ⟨rfl, ?_⟩
  repeat (first | exact Below.refl _ _ | refine Below.setCell ?_ (by first | (simp; done) | (simp; omega) | (simp [size_plus]; done) | (simp [size_plus]; omega)) _ | refine Below.alloc ?_ (by first | (simp; done) | (simp; omega) | (simp [size_plus]; done) | (simp [size_plus]; omega)) _ | refine Below.drew ?_ | refine Below.plus ?_ (by first | (simp; done) | (simp; omega) | (simp [size_plus]; done) | (simp [size_plus]; omega)) _)
end Go.Proofs.Ytihbjlpohjohpaa
