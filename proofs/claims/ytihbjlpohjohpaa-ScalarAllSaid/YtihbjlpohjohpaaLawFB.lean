/- FieldBack: the walk of the law's own function. -/
import Derived.Test.YtihbjlpohjohpaaAddNum
namespace Go.Proofs.Ytihbjlpohjohpaa
open Go.RowKit

theorem str_add (l m : List UInt8) : (⟨l.toArray⟩ : ByteArray) ++ ⟨m.toArray⟩ = ⟨(l ++ m).toArray⟩ := by
  apply ByteArray.ext
  simp
theorem le_words (n : Nat) : le 8 (nw n 0) ++ le 8 (nw n 1) ++ le 8 (nw n 2) ++ le 8 (nw n 3) = le 32 n := by
  have e : ∀ i, le 8 (nw n i) = le 8 (n / 256 ^ (8 * i)) := fun i => by
    rw [← le_mod 8 (n / _), ← B_eq]
    rfl
  rw [show (32 : Nat) = 8 + 8 + 8 + 8 from rfl, le_add, le_add, le_add, e, e, e, e]
  simp

theorem le_words_r (n : Nat) : le 8 (nw n 0) ++ (le 8 (nw n 1) ++ (le 8 (nw n 2) ++ le 8 (nw n 3))) = le 32 n := by
  rw [← le_words, List.append_assoc, List.append_assoc]

theorem str_cut (l : List UInt8) (i j : Nat) : (⟨l.toArray⟩ : ByteArray).extract i j = ⟨((l.drop i).take (j - i)).toArray⟩ := by
  apply ByteArray.ext
  simp

theorem from_back (a : Nat) : fromN (le 32 (a % Ar.pp)) = (a % Ar.pp, true) := by
  have h : ofle (le 32 (a % Ar.pp)) = a % Ar.pp := by rw [ofle_le, Nat.mod_eq_of_lt]; exact mod4 a
  rw [fromN, h, if_pos ⟨le_length _ _, Nat.mod_lt _ Ar.pp_pos⟩]
theorem from_large (k : Nat) (hk : k < 19) : fromN (le 32 (Ar.pp + k)) = (0, false) := by
  have h : ofle (le 32 (Ar.pp + k)) = Ar.pp + k := by
    rw [ofle_le, Nat.mod_eq_of_lt]
    have : Ar.pp + 19 < 256 ^ 32 := by decide +kernel
    omega
  rw [fromN, h, if_neg (by omega)]
theorem from_short (l : List UInt8) (h : l.length ≠ 32) : fromN l = (0, false) := by rw [fromN, if_neg (fun e => h e.1)]
theorem numV_int {k : Nat} (h : k < B) : Value.agg #[.int .u64 (k : Int), .int .u64 0, .int .u64 0, .int .u64 0] = numV k := (numV_small k h).symm

theorem addNum_mod (n : Nat) (w : World) : Ret Try.prog 22 #[numV Ar.pp, .agg #[.int .u64 ((n : Int) % 19), .int .u64 0, .int .u64 0, .int .u64 0]] w (.tuple #[numV (Ar.pp + n % 19), .int .u64 (cz Ar.pp (n % 19) 4)]) := by
  have h := addNum_any Ar.pp (n % 19) w
  rw [numV_small (n % 19) (by unfold B; omega)] at h
  exact h
theorem eqSmallMod (x n : Nat) (w : World) : (Op.equalIn 10000 24 (numV x) (.agg #[.int .u64 ((n : Int) % 19), .int .u64 0, .int .u64 0, .int .u64 0])).run Try.prog w = .ok (decide (x % B ^ 4 = n % 19)) w := eqSmall x (n % 19) (by unfold B; omega) w

attribute [local go_sem] str_add eqSmallMod le_length List.length_append

set_option maxRecDepth 100000 in
set_option maxHeartbeats 2000000 in
theorem fieldBack_any (a : Nat) (n : Nat) (w : World) (ha : a < B ^ 4) (hn : n < 256) : Ret Try.prog 4 #[numV a, .int .u8 (n : Int)] w (.bool true) := by
  refine Ret.of ?_
  go_enter Try.func4, Try.ntmps4
  go_wp2_with fail
  refine (bytes_any a _ ha).out.mono ?_
  rintro _ _ ⟨rfl, x1, rfl⟩
  go_wp2_with fail
  refine (from_any _ _).out.mono ?_
  rintro _ _ ⟨rfl, x2, rfl⟩
  rw [from_back]
  go_wp2_with fail
  refine (primeR_any _).out.mono ?_
  rintro _ _ ⟨rfl, x3, rfl⟩
  go_wp2_with fail
  refine (addNum_mod n _).out.mono ?_
  rintro _ _ ⟨rfl, x4, rfl⟩
  obtain ⟨L, hL⟩ : ∃ L, Ar.pp + n % 19 = L := ⟨_, rfl⟩
  have HL := Lib.hid hL
  rw [hL]
  clear hL
  go_wp2_with fail
  refine wp_loop_rounds 5 ?_
  rw [rounds_succ]
  go_wp2_with fail
  refine (little_any (nw L 0) _).out.mono ?_
  rintro _ _ ⟨rfl, y0, rfl⟩
  go_wp2_with fail
  rw [rounds_succ]
  go_wp2_with fail
  refine (little_any (nw L 1) _).out.mono ?_
  rintro _ _ ⟨rfl, y1, rfl⟩
  go_wp2_with fail
  rw [rounds_succ]
  go_wp2_with fail
  refine (little_any (nw L 2) _).out.mono ?_
  rintro _ _ ⟨rfl, y2, rfl⟩
  go_wp2_with fail
  rw [rounds_succ]
  go_wp2_with fail
  refine (little_any (nw L 3) _).out.mono ?_
  rintro _ _ ⟨rfl, y3, rfl⟩
  go_wp2_with fail
  rw [rounds_succ]
  go_wp2_with fail
  rw [le_words_r L]
  have hf : fromN (le 32 L) = (0, false) := by rw [← HL.out]; exact from_large _ (by omega)
  refine (from_any (le 32 L) _).out.mono ?_
  rintro _ _ ⟨rfl, z1, rfl⟩
  rw [hf]
  clear hf
  go_wp2_with fail
  rw [str_cut]
  have hs : fromN ((le 32 (a % Ar.pp)).drop 0 |>.take (31 - 0)) = (0, false) := from_short _ (by simp [le_length])
  refine (from_any _ _).out.mono ?_
  rintro _ _ ⟨rfl, z2, rfl⟩
  rw [hs]
  clear hs
  go_wp2_with fail
  have hL4 : L < B ^ 4 := by
    have : Ar.pp + 19 < B ^ 4 := by decide +kernel
    rw [← HL.out]
    omega
  have hLm : L % Ar.pp = n % 19 := by
    rw [← HL.out, Nat.add_mod_left]
    exact Nat.mod_eq_of_lt (Nat.lt_trans (Nat.mod_lt n (by omega)) (show 19 < Ar.pp by decide +kernel))
  have hLb : n % 19 % B ^ 4 = n % 19 := Nat.mod_eq_of_lt (Nat.lt_trans (Nat.mod_lt n (by omega)) (show 19 < B ^ 4 by decide +kernel))
  have hwr : IntKind.u64.wrap ((n : Int) % 19) = (n : Int) % 19 := by
    rw [IntKind.wrap_u64]
    omega
  refine wp_region_plain 31 90 mixed (by kernel_rfl) (by kernel_rfl) rfl (fun _ _ _ _ _ h => h) ?_
  simp only [List.take_succ_cons, List.take_zero, List.drop_succ_cons, List.drop_zero]
  repeat (first | (refine wpHead_skip rfl ?_) | (refine wpHead_run rfl rfl (fun K hK => ?_); go_simp; first | (refine hK _ ?_; clear hK K) | (apply Exists.intro; refine ⟨fun _ => ?_, hK _ ?_⟩; (with_reducible first | (refine norm_any _ _ ?_; (first | assumption | exact mul4 _ _ | exact add4 _ _ | exact sub4 _ _ | exact mod4 _ | exact pp_lt | decide)) | exact awake6 _); clear hK K)) | (refine wpHead_want rfl rfl (fun K hK => ?_); go_simp; first | (refine hK _ ?_; clear hK K) | (apply Exists.intro; refine ⟨fun _ => ?_, hK _ ?_⟩; (with_reducible first | (refine norm_any _ _ ?_; (first | assumption | exact mul4 _ _ | exact add4 _ _ | exact sub4 _ _ | exact mod4 _ | exact pp_lt | decide)) | exact awake6 _); clear hK K)) | (refine wpHead_pass rfl rfl ?_; simp only [Act.put, List.setIfInBounds_toArray, List.set_cons_succ, List.set_cons_zero]))
  refine wpHead_nil ?_
  intro zz x5
  clear zz
  go_wp2_with fail
  refine bodyPost_ret (v := .bool true) (by simp [results, Try.results4, go_sem]) rfl ⟨rfl, ?_⟩
  repeat (first | exact Below.refl _ _ | refine Below.setCell ?_ (by first | (simp; done) | (simp; omega) | (simp [size_plus]; done) | (simp [size_plus]; omega)) _ | refine Below.alloc ?_ (by first | (simp; done) | (simp; omega) | (simp [size_plus]; done) | (simp [size_plus]; omega)) _ | refine Below.drew ?_ | refine Below.plus ?_ (by first | (simp; done) | (simp; omega) | (simp [size_plus]; done) | (simp [size_plus]; omega)) _)
end Go.Proofs.Ytihbjlpohjohpaa
