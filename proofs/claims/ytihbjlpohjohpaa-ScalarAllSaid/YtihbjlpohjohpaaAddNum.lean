/- Walks: the references' sums and differences of numbers of four words. -/
import Derived.Test.YtihbjlpohjohpaaFrom
namespace Go.Proofs.Ytihbjlpohjohpaa
open Go.RowKit

/-- Words of a number, the first i of them. -/
theorem words_step (n i : Nat) (hi : i < 4) : (wordsOf (n % B ^ i)).setIfInBounds i (.int .u64 ((nw n i : Nat) : Int)) = wordsOf (n % B ^ (i + 1)) := by
  have low : ∀ k j, k < j → nw (n % B ^ j) k = nw n k := fun k j h => by
    obtain ⟨d, rfl⟩ : ∃ d, j = k + 1 + d := ⟨j - k - 1, by omega⟩
    apply nw_eq_of_mod
    rw [Nat.pow_add, Nat.mod_mul_right_mod]
  have high : ∀ k j, j ≤ k → nw (n % B ^ j) k = 0 := fun k j h => by
    unfold nw
    rw [Nat.div_eq_of_lt (Nat.lt_of_lt_of_le (Nat.mod_lt _ (pow_B_pos j)) (Nat.pow_le_pow_right B_pos h)), Nat.zero_mod]
  match i, hi with
  | 0, _ => simp [wordsOf, low 0 1 (by omega), high 1 0 (by omega), high 2 0 (by omega), high 3 0 (by omega), high 1 1 (by omega), high 2 1 (by omega), high 3 1 (by omega), -Nat.pow_zero, -Nat.pow_one]
  | 1, _ => simp [wordsOf, low 0 1 (by omega), low 0 2 (by omega), low 1 2 (by omega), high 2 1 (by omega), high 3 1 (by omega), high 2 2 (by omega), high 3 2 (by omega), -Nat.pow_one]
  | 2, _ => simp [wordsOf, low 0 2 (by omega), low 0 3 (by omega), low 1 2 (by omega), low 1 3 (by omega), low 2 3 (by omega), high 3 2 (by omega), high 3 3 (by omega)]
  | 3, _ => simp [wordsOf, low 0 3 (by omega), low 0 4 (by omega), low 1 3 (by omega), low 1 4 (by omega), low 2 3 (by omega), low 2 4 (by omega), low 3 4 (by omega)]
theorem words_mod (n : Nat) : wordsOf (n % B ^ 4) = wordsOf n := by
  have h := numV_mod n
  simpa only [numV, Value.agg.injEq] using h

theorem word_at (a k : Nat) (hk : k < 4) : ([Value.int .u64 ((nw a 0 : Nat) : Int), Value.int .u64 ((nw a 1 : Nat) : Int), Value.int .u64 ((nw a 2 : Nat) : Int), Value.int .u64 ((nw a 3 : Nat) : Int)] : List Value)[k]'(by simpa using hk) = .int .u64 ((nw a k : Nat) : Int) := by
  match k, hk with
  | 0, _ => rfl
  | 1, _ => rfl
  | 2, _ => rfl
  | 3, _ => rfl
theorem plus_none (w : World) : plus w ⟨#[], w.drawn⟩ = w := by simp [plus]
theorem carry_one {x y c : Nat} (hx : x < B) (hy : y < B) (hc : c ≤ 1) : addS (addS x y 0) c 0 = addS x y c ∧ (addS x y 0 < x → addC x y c = 1) ∧ (¬ addS x y 0 < x → addS x y c < addS x y 0 → addC x y c = 1) ∧ (¬ addS x y 0 < x → ¬ addS x y c < addS x y 0 → addC x y c = 0) := by
  unfold addS addC B at *
  omega

attribute [local go_sem] wrap_add

set_option maxRecDepth 100000 in
theorem addNum_any (a b : Nat) (w : World) : Ret Try.prog 22 #[numV a, numV b] w (.tuple #[numV (a + b), .int .u64 (cz a b 4)]) := by
  refine Ret.of ?_
  go_enter Try.func22, Try.ntmps22
  go_wp2_with fail
  go_loopw [8, 7] (fun v cv wr => ∃ i : Nat, i ≤ 4 ∧ v = .int .i64 i ∧ cv = .int .u64 (cz a b i) ∧ ∃ x : Ext, wr = plus ((((w.alloc (.cells (wordsOf a) 24)).alloc (.cells (wordsOf b) 24)).alloc (.cells #[.int .u64 0, .int .u64 0, .int .u64 0, .int .u64 0] 24)).alloc (.cells (wordsOf ((a + b) % B ^ i)) 24)) x) (fun v _ _ => 4 - (intOf v).toNat)
  case atStart => exact ⟨0, by omega, rfl, by rw [cz_zero]; rfl, _, by rw [show wordsOf ((a + b) % B ^ 0) = #[.int .u64 0, .int .u64 0, .int .u64 0, .int .u64 0] by simp [wordsOf, nw, Nat.mod_one]]; exact (plus_none _).symm⟩
  case round =>
    obtain ⟨i, hi, rfl, rfl, x, rfl⟩ := hrel
    by_cases h4 : i < 4
    · have hd : decide ((i : Int) < 4) = true := by simp; omega
      have hi4 : (i : Int) < 4 := by omega
      have hwa := word_at a i h4
      have hwb := word_at b i h4
      have hws := word_at ((a + b) % B ^ i) i h4
      obtain ⟨k1, k2, k3, k4⟩ := carry_one (nw_lt a i) (nw_lt b i) (cz_le a b i)
      rw [addS_cz] at k1 k3 k4
      rw [addC_cz] at k2 k3 k4
      have K2 := Lib.hid k2
      have K3 := Lib.hid k3
      have K4 := Lib.hid k4
      clear k2 k3 k4
      go_wp2_with fail
      refine wp_region_plain 7 40 mixed (by kernel_rfl) (by kernel_rfl) rfl (fun _ _ _ _ _ h => h) ?_
      simp only [List.take_succ_cons, List.take_zero, List.drop_succ_cons, List.drop_zero]
      repeat (first | (refine wpHead_skip rfl ?_) | (refine wpHead_run rfl rfl (fun K hK => ?_); go_simp; first | (refine hK _ ?_; clear hK K) | (apply Exists.intro; refine ⟨fun _ => ?_, hK _ ?_⟩; (fail); clear hK K)))
      refine wpHead_nil ?_
      intro zz x2
      clear zz
      by_cases h1 : addS (nw a i) (nw b i) 0 < nw a i
      · go_wp2_with fail
        all_goals go_roundw
        all_goals first | (simp [intOf]; omega) | exact ⟨i + 1, by omega, by go_num, by rw [K2.out h1]; rfl, ⟨x.blocks ++ x2.blocks, x2.draws⟩, by rw [plus_plus, ← words_step (a + b) i h4]; simp⟩
      · by_cases h2 : nw (a + b) i < addS (nw a i) (nw b i) 0
        · go_wp2_with fail
          all_goals go_roundw
          all_goals first | (simp [intOf]; omega) | exact ⟨i + 1, by omega, by go_num, by rw [K3.out h1 h2]; rfl, ⟨x.blocks ++ x2.blocks, x2.draws⟩, by rw [plus_plus, ← words_step (a + b) i h4]; simp⟩
        · go_wp2_with fail
          all_goals go_roundw
          all_goals first | (simp [intOf]; omega) | exact ⟨i + 1, by omega, by go_num, by rw [K4.out h1 h2]; rfl, ⟨x.blocks ++ x2.blocks, x2.draws⟩, by rw [plus_plus, ← words_step (a + b) i h4]; simp⟩
    · obtain rfl : i = 4 := by omega
      clear h4
      have hm := words_mod (a + b)
      go_wp2_with fail
      refine bodyPost_ret (v := .tuple #[numV (a + b), .int .u64 (cz a b 4)]) (by simp [results, Try.results22, go_sem]) rfl ⟨rfl, ?_⟩
      repeat (first | exact Below.refl _ _ | refine Below.setCell ?_ (by first | (simp; done) | (simp; omega) | (simp [size_plus]; done) | (simp [size_plus]; omega)) _ | refine Below.alloc ?_ (by first | (simp; done) | (simp; omega) | (simp [size_plus]; done) | (simp [size_plus]; omega)) _ | refine Below.drew ?_ | refine Below.plus ?_ (by first | (simp; done) | (simp; omega) | (simp [size_plus]; done) | (simp [size_plus]; omega)) _)
end Go.Proofs.Ytihbjlpohjohpaa
