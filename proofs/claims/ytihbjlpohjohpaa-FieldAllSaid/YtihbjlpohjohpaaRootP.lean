/- Walks: the reference's root. -/
import Derived.Test.YtihbjlpohjohpaaMulP
import Derived.Test.YtihbjlpohjohpaaInvRoot
namespace Go.Proofs.Ytihbjlpohjohpaa
open Go.RowKit

theorem shift_eight : ∃ p3 e8 c3, (∀ w, Ret Try.prog 22 #[numV Ar.pp, .agg #[.int .u64 3, .int .u64 0, .int .u64 0, .int .u64 0]] w (.tuple #[numV p3, .int .u64 c3])) ∧ (∀ w, Ret Try.prog 52 #[numV p3, .int .i64 3] w (numV e8)) ∧ (Ar.pp + 3) / 8 = e8 ∧ e8 < B ^ 4 :=
  ⟨Ar.pp + 3, (Ar.pp + 3) / 2 ^ 3, _, addP_three, fun w => shift_any (Ar.pp + 3) 3 w (by decide +kernel) (by omega), rfl, by decide +kernel⟩
theorem shift_quarter : ∃ p1 e4 q, (∀ w, Ret Try.prog 53 #[numV Ar.pp, .agg #[.int .u64 1, .int .u64 0, .int .u64 0, .int .u64 0]] w (numV p1)) ∧ (∀ w, Ret Try.prog 52 #[numV p1, .int .i64 2] w (numV e4)) ∧
    (∀ w, Ret Try.prog 51 #[.agg #[.int .u64 2, .int .u64 0, .int .u64 0, .int .u64 0], numV e4] w (numV q)) ∧ Ar.isqN = q ∧ q < B ^ 4 :=
  ⟨Ar.pp - 1, (Ar.pp - 1) / 2 ^ 2, Ar.powN 2 ((Ar.pp - 1) / 2 ^ 2), subP_one, fun w => shift_any (Ar.pp - 1) 2 w (by decide +kernel) (by omega), fun w => by
    have h := powP_any 2 ((Ar.pp - 1) / 2 ^ 2) w (by decide) (by decide +kernel)
    rw [numV_small 2 (by decide)] at h
    exact h, by unfold Ar.isqN; rw [show (2 : Nat) ^ 2 = 4 from rfl], pow4 _ _⟩
theorem subP_zero (y : Nat) (w : World) (hy : y < B ^ 4) : Ret Try.prog 30 #[.agg #[.int .u64 0, .int .u64 0, .int .u64 0, .int .u64 0], numV y] w (numV (Ar.subN 0 y)) := by
  have h := subR_any 0 y w (by decide) hy
  rw [numV_small 0 (by decide)] at h
  exact h
theorem odd_eq (y : Nat) : bits BinOp.and IntKind.u64 ((nw y 0 : Nat) : Int) 1 = ((y % 2 : Nat) : Int) := low_bit y

set_option maxRecDepth 100000 in
set_option maxHeartbeats 1000000 in
theorem rootP_any (a : Nat) (w : World) (ha : a < B ^ 4) : Ret Try.prog 26 #[numV a] w (gotV (Ar.rootN a).1 (Ar.rootN a).2) := by
  refine Ret.of ?_
  obtain ⟨p3, e8, c3, k22, k52, he8, he84⟩ := shift_eight
  go_enter Try.func26, Try.ntmps26
  go_wp2_with fail
  refine (normR_any a _ ha).out.mono ?_
  rintro _ _ ⟨rfl, x1, rfl⟩
  obtain ⟨m, hm⟩ : ∃ m, a % Ar.pp = m := ⟨_, rfl⟩
  have HM := Lib.hid hm
  have hm4 : m < B ^ 4 := hm ▸ mod4 a
  rw [hm]
  clear hm
  go_wp2_with fail
  refine (primeR_any _).out.mono ?_
  rintro _ _ ⟨rfl, y1, rfl⟩
  go_wp2_with fail
  refine (k22 _).out.mono ?_
  rintro _ _ ⟨rfl, y2, rfl⟩
  go_wp2_with fail
  refine wp_region_one 5 46 4 5 24 _ mixed (by kernel_rfl) (by kernel_rfl) rfl alloc24 (fun _ _ _ _ _ h => h) ?_
  simp only [List.take_succ_cons, List.take_zero, List.drop_succ_cons, List.drop_zero]
  repeat (first | (refine wpHead_skip rfl ?_) | (refine wpHead_run rfl rfl (fun K hK => ?_); go_simp; first | (refine hK _ ?_; clear hK K) | (apply Exists.intro; refine ⟨fun _ => ?_, hK _ ?_⟩; (with_reducible first | exact k52 _ | exact powP_any _ _ _ hm4 he84); clear hK K)))
  refine wpHead_nil ?_
  intro zz x2 x3
  clear zz
  go_wp2_with fail
  obtain ⟨x, hx⟩ : ∃ x, Ar.powN m e8 = x := ⟨_, rfl⟩
  have HX := Lib.hid (show Ar.powN m ((Ar.pp + 3) / 8) = x by rw [he8, hx])
  have hx4 : x < B ^ 4 := hx ▸ pow4 m e8
  rw [hx]
  clear hx he8
  refine wp_region_plain 5 46 mixed (by kernel_rfl) (by kernel_rfl) rfl (fun _ _ _ _ _ h => h) ?_
  simp only [List.take_succ_cons, List.take_zero, List.drop_succ_cons, List.drop_zero]
  repeat (first | (refine wpHead_skip rfl ?_) | (refine wpHead_run rfl rfl (fun K hK => ?_); go_simp; first | (refine hK _ ?_; clear hK K) | (apply Exists.intro; refine ⟨fun _ => ?_, hK _ ?_⟩; (with_reducible exact mulP_any _ _ _ hx4 hx4); clear hK K)))
  refine wpHead_nil ?_
  intro zz x4
  clear zz
  by_cases h1 : Ar.mulN x x = m
  · have hb : decide (Ar.mulN x x % B ^ 4 = m % B ^ 4) = true := decide_eq_true (by rw [h1])
    have HT := Lib.hid (try_yes HX.out h1)
    simp only [hb, Bool.not_true]
    clear hb h1
    go_wp2_with fail
    obtain ⟨y, hy⟩ : ∃ y, x = y := ⟨_, rfl⟩
    have HY := Lib.hid hy
    have hy4 : y < B ^ 4 := hy ▸ hx4
    rw [hy]
    clear hy
    refine wp_region_plain 5 46 mixed (by kernel_rfl) (by kernel_rfl) rfl (fun _ _ _ _ _ h => h) ?_
    simp only [List.take_succ_cons, List.take_zero, List.drop_succ_cons, List.drop_zero]
    repeat (first | (refine wpHead_skip rfl ?_) | (refine wpHead_run rfl rfl (fun K hK => ?_); go_simp; first | (refine hK _ ?_; clear hK K) | (apply Exists.intro; refine ⟨fun _ => ?_, hK _ ?_⟩; (with_reducible exact mulP_any _ _ _ hy4 hy4); clear hK K)))
    refine wpHead_nil ?_
    intro zz z1
    clear zz
    by_cases hs : Ar.mulN y y = m
    · have hb : decide (Ar.mulN y y % B ^ 4 = m % B ^ 4) = true := decide_eq_true (by rw [hs])
      simp only [hb, Bool.not_true]
      clear hb
      by_cases ho : y % 2 = 1
      · have hbit : bits BinOp.and IntKind.u64 ((nw y 0 : Nat) : Int) 1 = 1 := by rw [low_bit, ho]; rfl
        go_wp2_with fail
        refine (subP_zero y _ hy4).out.mono ?_
        rintro _ _ ⟨rfl, z2, rfl⟩
        go_wp2_with fail
        refine bodyPost_ret (v := gotV (Ar.rootN a).1 (Ar.rootN a).2) (by rw [root_is HM.out (HT.out.trans HY.out), if_pos hs, if_pos ho]; simp [results, Try.results26, go_sem]) rfl ⟨rfl, ?_⟩
        repeat (first | exact Below.refl _ _ | refine Below.setCell ?_ (by first | (simp; done) | (simp; omega) | (simp [size_plus]; done) | (simp [size_plus]; omega)) _ | refine Below.alloc ?_ (by first | (simp; done) | (simp; omega) | (simp [size_plus]; done) | (simp [size_plus]; omega)) _ | refine Below.drew ?_ | refine Below.plus ?_ (by first | (simp; done) | (simp; omega) | (simp [size_plus]; done) | (simp [size_plus]; omega)) _)
      · have hbit : bits BinOp.and IntKind.u64 ((nw y 0 : Nat) : Int) 1 = 0 := by rw [low_bit, show y % 2 = 0 by omega]; rfl
        go_wp2_with fail
        refine bodyPost_ret (v := gotV (Ar.rootN a).1 (Ar.rootN a).2) (by rw [root_is HM.out (HT.out.trans HY.out), if_pos hs, if_neg ho]; simp [results, Try.results26, go_sem]) rfl ⟨rfl, ?_⟩
        repeat (first | exact Below.refl _ _ | refine Below.setCell ?_ (by first | (simp; done) | (simp; omega) | (simp [size_plus]; done) | (simp [size_plus]; omega)) _ | refine Below.alloc ?_ (by first | (simp; done) | (simp; omega) | (simp [size_plus]; done) | (simp [size_plus]; omega)) _ | refine Below.drew ?_ | refine Below.plus ?_ (by first | (simp; done) | (simp; omega) | (simp [size_plus]; done) | (simp [size_plus]; omega)) _)
    · have hb : decide (Ar.mulN y y % B ^ 4 = m % B ^ 4) = false := decide_eq_false (by rw [Nat.mod_eq_of_lt (mul4 _ _), Nat.mod_eq_of_lt hm4]; exact hs)
      simp only [hb, Bool.not_false]
      clear hb
      go_wp2_with fail
      refine bodyPost_ret (v := gotV (Ar.rootN a).1 (Ar.rootN a).2) (by rw [root_is HM.out (HT.out.trans HY.out), if_neg hs]; simp [results, Try.results26, go_sem]; exact ⟨rfl, rfl, rfl, rfl⟩) rfl ⟨rfl, ?_⟩
      repeat (first | exact Below.refl _ _ | refine Below.setCell ?_ (by first | (simp; done) | (simp; omega) | (simp [size_plus]; done) | (simp [size_plus]; omega)) _ | refine Below.alloc ?_ (by first | (simp; done) | (simp; omega) | (simp [size_plus]; done) | (simp [size_plus]; omega)) _ | refine Below.drew ?_ | refine Below.plus ?_ (by first | (simp; done) | (simp; omega) | (simp [size_plus]; done) | (simp [size_plus]; omega)) _)
  · have hb : decide (Ar.mulN x x % B ^ 4 = m % B ^ 4) = false := decide_eq_false (by rw [Nat.mod_eq_of_lt (mul4 _ _), Nat.mod_eq_of_lt hm4]; exact h1)
    have HT := Lib.hid (try_no HX.out h1)
    obtain ⟨p1, e4, q, j53, j52, j51, hq, hq4⟩ := shift_quarter
    rw [hq] at HT
    clear hq
    simp only [hb, Bool.not_false]
    clear hb h1
    go_wp2_with fail
    refine wp_region_plain 8 46 mixed (by kernel_rfl) (by kernel_rfl) rfl (fun _ _ _ _ _ h => h) ?_
    simp only [List.take_succ_cons, List.take_zero, List.drop_succ_cons, List.drop_zero]
    repeat (first | (refine wpHead_skip rfl ?_) | (refine wpHead_run rfl rfl (fun K hK => ?_); go_simp; first | (refine hK _ ?_; clear hK K) | (apply Exists.intro; refine ⟨fun _ => ?_, hK _ ?_⟩; (with_reducible first | exact primeR_any _ | exact j53 _ | exact j52 _ | exact j51 _ | exact mulP_any _ _ _ hx4 hq4); clear hK K)))
    refine wpHead_nil ?_
    intro zz x5
    clear zz
    go_wp2_with fail
    obtain ⟨y, hy⟩ : ∃ y, Ar.mulN x q = y := ⟨_, rfl⟩
    have HY := Lib.hid hy
    have hy4 : y < B ^ 4 := hy ▸ mul4 x q
    rw [hy]
    clear hy
    refine wp_region_plain 5 46 mixed (by kernel_rfl) (by kernel_rfl) rfl (fun _ _ _ _ _ h => h) ?_
    simp only [List.take_succ_cons, List.take_zero, List.drop_succ_cons, List.drop_zero]
    repeat (first | (refine wpHead_skip rfl ?_) | (refine wpHead_run rfl rfl (fun K hK => ?_); go_simp; first | (refine hK _ ?_; clear hK K) | (apply Exists.intro; refine ⟨fun _ => ?_, hK _ ?_⟩; (with_reducible exact mulP_any _ _ _ hy4 hy4); clear hK K)))
    refine wpHead_nil ?_
    intro zz z1
    clear zz
    by_cases hs : Ar.mulN y y = m
    · have hb : decide (Ar.mulN y y % B ^ 4 = m % B ^ 4) = true := decide_eq_true (by rw [hs])
      simp only [hb, Bool.not_true]
      clear hb
      by_cases ho : y % 2 = 1
      · have hbit : bits BinOp.and IntKind.u64 ((nw y 0 : Nat) : Int) 1 = 1 := by rw [low_bit, ho]; rfl
        go_wp2_with fail
        refine (subP_zero y _ hy4).out.mono ?_
        rintro _ _ ⟨rfl, z2, rfl⟩
        go_wp2_with fail
        refine bodyPost_ret (v := gotV (Ar.rootN a).1 (Ar.rootN a).2) (by rw [root_is HM.out (HT.out.trans HY.out), if_pos hs, if_pos ho]; simp [results, Try.results26, go_sem]) rfl ⟨rfl, ?_⟩
        repeat (first | exact Below.refl _ _ | refine Below.setCell ?_ (by first | (simp; done) | (simp; omega) | (simp [size_plus]; done) | (simp [size_plus]; omega)) _ | refine Below.alloc ?_ (by first | (simp; done) | (simp; omega) | (simp [size_plus]; done) | (simp [size_plus]; omega)) _ | refine Below.drew ?_ | refine Below.plus ?_ (by first | (simp; done) | (simp; omega) | (simp [size_plus]; done) | (simp [size_plus]; omega)) _)
      · have hbit : bits BinOp.and IntKind.u64 ((nw y 0 : Nat) : Int) 1 = 0 := by rw [low_bit, show y % 2 = 0 by omega]; rfl
        go_wp2_with fail
        refine bodyPost_ret (v := gotV (Ar.rootN a).1 (Ar.rootN a).2) (by rw [root_is HM.out (HT.out.trans HY.out), if_pos hs, if_neg ho]; simp [results, Try.results26, go_sem]) rfl ⟨rfl, ?_⟩
        repeat (first | exact Below.refl _ _ | refine Below.setCell ?_ (by first | (simp; done) | (simp; omega) | (simp [size_plus]; done) | (simp [size_plus]; omega)) _ | refine Below.alloc ?_ (by first | (simp; done) | (simp; omega) | (simp [size_plus]; done) | (simp [size_plus]; omega)) _ | refine Below.drew ?_ | refine Below.plus ?_ (by first | (simp; done) | (simp; omega) | (simp [size_plus]; done) | (simp [size_plus]; omega)) _)
    · have hb : decide (Ar.mulN y y % B ^ 4 = m % B ^ 4) = false := decide_eq_false (by rw [Nat.mod_eq_of_lt (mul4 _ _), Nat.mod_eq_of_lt hm4]; exact hs)
      simp only [hb, Bool.not_false]
      clear hb
      go_wp2_with fail
      refine bodyPost_ret (v := gotV (Ar.rootN a).1 (Ar.rootN a).2) (by rw [root_is HM.out (HT.out.trans HY.out), if_neg hs]; simp [results, Try.results26, go_sem]; exact ⟨rfl, rfl, rfl, rfl⟩) rfl ⟨rfl, ?_⟩
      repeat (first | exact Below.refl _ _ | refine Below.setCell ?_ (by first | (simp; done) | (simp; omega) | (simp [size_plus]; done) | (simp [size_plus]; omega)) _ | refine Below.alloc ?_ (by first | (simp; done) | (simp; omega) | (simp [size_plus]; done) | (simp [size_plus]; omega)) _ | refine Below.drew ?_ | refine Below.plus ?_ (by first | (simp; done) | (simp; omega) | (simp [size_plus]; done) | (simp [size_plus]; omega)) _)
end Go.Proofs.Ytihbjlpohjohpaa
