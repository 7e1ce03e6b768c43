/- Walks: ScalarBack. -/
import Derived.Test.YtihbjlpohjohpaaSc8
import Derived.Test.YtihbjlpohjohpaaLawFB
namespace Go.Proofs.Ytihbjlpohjohpaa
open Go.RowKit Go.Shelf

structure ScBack (M : Nat → Nat → Nat → Nat) (q a n T c : Nat) (s m L Z : List UInt8) : Prop where
  reds : ∀ W, Ret Try.prog 39 #[strV s] W (numV a)
  bya : ∀ W, Ret Try.prog 42 #[numV a] W (strV L)
  back : ∀ W, Ret Try.prog 37 #[strV L] W (.tuple #[numV a, .bool true])
  add : ∀ W, Ret Try.prog 22 #[numV q, .agg #[.int .u64 (n : Int), .int .u64 0, .int .u64 0, .int .u64 0]] W (.tuple #[numV T, .int .u64 c])
  large : ∀ W, Ret Try.prog 37 #[strV (le 32 T)] W (.tuple #[numV 0, .bool false])
  redT : ∀ W, Ret Try.prog 39 #[strV (le 32 T)] W (numV (M n 1 0))
  n10 : ∀ W, Ret Try.prog 34 #[.agg #[.int .u64 (n : Int), .int .u64 0, .int .u64 0, .int .u64 0], oneV, zeroV] W (numV (M n 1 0))
  redF : ∀ W, Ret Try.prog 39 #[strV (s ++ Z)] W (numV a)
  redG : ∀ W, Ret Try.prog 39 #[strV (s ++ (Z ++ m))] W (numV a)

attribute [local go_sem] str_add' le_length List.length_append

set_option maxRecDepth 100000 in
set_option maxHeartbeats 2000000 in
theorem scalarBack_gen (M : Nat → Nat → Nat → Nat) (q a n T c : Nat) (s m L Z : List UInt8) (S : ScCalls M q) (E : ScBack M q a n T c s m L Z) (w : World) (hs : s.length ≤ 64) (hm : m.length ≤ 40) (hL : L.length = 32)
    (k : Nat) (hk : s.length + k = 64) (hZ : Z = List.replicate k 0) (h7 : a % B ^ 4 < q % B ^ 4) :
    Ret Try.prog 11 #[strV s, strV m, .int .u64 (n : Int)] w (.bool true) := by
  refine Ret.of ?_
  have hd : decide ((64 : Int) < (s.length : Int)) = false := by simp; omega
  have hd2 : decide ((40 : Int) < (m.length : Int)) = false := by simp; omega
  have hks : (64 : Int) - (s.length : Int) = (k : Int) := by omega
  have HK := Lib.hid hk
  have HZ := Lib.hid hZ
  clear hk hZ
  go_enter Try.func11, Try.ntmps11
  go_wp2_with fail
  refine (E.reds _).out.mono ?_
  rintro _ _ ⟨rfl, x1, rfl⟩
  go_wp2_with fail
  refine (E.bya _).out.mono ?_
  rintro _ _ ⟨rfl, x2, rfl⟩
  go_wp2_with fail
  refine (E.back _).out.mono ?_
  rintro _ _ ⟨rfl, x3, rfl⟩
  go_wp2_with fail
  refine (S.ord _).out.mono ?_
  rintro _ _ ⟨rfl, x4, rfl⟩
  go_wp2_with fail
  refine (E.add _).out.mono ?_
  rintro _ _ ⟨rfl, x5, rfl⟩
  go_wp2_with fail
  refine wp_loop_rounds 5 ?_
  rw [rounds_succ]
  go_wp2_with fail
  refine (little_any (nw T 0) _).out.mono ?_
  rintro _ _ ⟨rfl, y0, rfl⟩
  go_wp2_with fail
  rw [rounds_succ]
  go_wp2_with fail
  refine (little_any (nw T 1) _).out.mono ?_
  rintro _ _ ⟨rfl, y1, rfl⟩
  go_wp2_with fail
  rw [rounds_succ]
  go_wp2_with fail
  refine (little_any (nw T 2) _).out.mono ?_
  rintro _ _ ⟨rfl, y2, rfl⟩
  go_wp2_with fail
  rw [rounds_succ]
  go_wp2_with fail
  refine (little_any (nw T 3) _).out.mono ?_
  rintro _ _ ⟨rfl, y3, rfl⟩
  go_wp2_with fail
  rw [rounds_succ]
  go_wp2_with fail
  rw [le_words_r T]
  refine (E.large _).out.mono ?_
  rintro _ _ ⟨rfl, z1, rfl⟩
  have hmk := fun W => make50 k (by have := HK.out; omega) W
  rw [← HZ.out] at hmk
  have hzl : Z.length = k := by rw [HZ.out, List.length_replicate]
  have HZL := Lib.hid hzl
  have hc1 : (9223372036854775807 < s.length + Z.length) = False := by have := HK.out; simp; omega
  have hc2 : (9223372036854775807 < s.length + (Z.length + m.length)) = False := by have := HK.out; simp; omega
  have hc3 : (9223372036854775807 < s.length + Z.length + m.length) = False := by have := HK.out; simp; omega
  clear hzl
  go_wp2_with fail
  rw [conv50 _ _ _ _ Z HZL.out.symm (by
    refine Eq.trans (congrArg (fun (i : Nat) => (World.heap _)[i]?) ?_) (heap_new _ _)
    simp [size_plus])]
  go_wp2_with fail
  refine wp_region_plain 47 112 mixed (by kernel_rfl) (by kernel_rfl) rfl (fun _ _ _ _ _ h => h) ?_
  simp only [List.take_succ_cons, List.take_zero, List.drop_succ_cons, List.drop_zero]
  repeat (first | (refine wpHead_skip rfl ?_) | (refine wpHead_run rfl rfl (fun K hK => ?_); go_simp; first | (refine hK _ ?_; clear hK K) | (apply Exists.intro; refine ⟨fun _ => ?_, hK _ ?_⟩; (with_reducible first | exact E.redF _ | exact E.redG _ | exact E.redT _ | exact E.n10 _ | exact S.ord _ | exact lessR_any _ _ _ | exact awake7 _); clear hK K)) | (refine wpHead_want rfl rfl (fun K hK => ?_); go_simp; first | (refine hK _ ?_; clear hK K) | (apply Exists.intro; refine ⟨fun _ => ?_, hK _ ?_⟩; (with_reducible first | exact E.redF _ | exact E.redG _ | exact E.redT _ | exact E.n10 _ | exact S.ord _ | exact lessR_any _ _ _ | exact awake7 _); clear hK K)) | (refine wpHead_pass rfl rfl ?_; simp only [Act.put, List.setIfInBounds_toArray, List.set_cons_succ, List.set_cons_zero]))
  refine wpHead_nil ?_
  intro zz x6
  clear zz
  go_wp2_with fail
  refine bodyPost_ret (v := .bool true) (by simp [results, Try.results11, go_sem]) rfl ⟨rfl, ?_⟩
  repeat (first | exact Below.refl _ _ | refine Below.setCell ?_ (by first | (simp; done) | (simp; omega) | (simp [size_plus]; done) | (simp [size_plus]; omega)) _ | refine Below.alloc ?_ (by first | (simp; done) | (simp; omega) | (simp [size_plus]; done) | (simp [size_plus]; omega)) _ | refine Below.drew ?_ | refine Below.plus ?_ (by first | (simp; done) | (simp; omega) | (simp [size_plus]; done) | (simp [size_plus]; omega)) _)

theorem ofle_zeros : ∀ k, ofle (List.replicate k 0) = 0
  | 0 => rfl
  | k + 1 => by rw [List.replicate_succ, ofle, ofle_zeros k]; rfl
theorem redN_full {s : List UInt8} {k : Nat} (hk : s.length + k = 64) : redN (s ++ List.replicate k 0) = redN s := by
  unfold redN
  rw [List.take_of_length_le (by simp; omega), List.take_of_length_le (by omega), ofle_append, ofle_zeros, Nat.mul_zero, Nat.add_zero]
theorem redN_more {s m : List UInt8} {k : Nat} (hk : s.length + k = 64) : redN (s ++ (List.replicate k 0 ++ m)) = redN s := by
  rw [← redN_full hk]
  unfold redN
  rw [← List.append_assoc, List.take_append_of_le_length (by simp; omega)]
theorem red_lt (s : List UInt8) : redN s < ordN := Nat.mod_lt _ ordN_pos

theorem scBack (n : Nat) (hn : n < B) (s m : List UInt8) (hs : s.length ≤ 64) (hm : m.length ≤ 40) (k : Nat) (hk : s.length + k = 64) :
    ScBack maN ordN (redN s) n (ordN + n) (cz ordN n 4) s m (le 32 (redN s)) (List.replicate k 0) := by
  have hlen := le_length 32 (redN s)
  have hr := red_lt s
  have hr4 : redN s < B ^ 4 := ord4 _
  have hT : ordN + n < B ^ 4 := by
    have : ordN + B < B ^ 4 := by decide +kernel
    omega
  have hol : ofle (le 32 (redN s)) = redN s := by rw [ofle_le]; exact Nat.mod_eq_of_lt hr4
  have holT : ofle (le 32 (ordN + n)) = ordN + n := by rw [ofle_le]; exact Nat.mod_eq_of_lt hT
  refine ⟨fun W => ?_, fun W => ?_, fun W => ?_, fun W => ?_, fun W => ?_, fun W => ?_, fun W => ?_, fun W => ?_, fun W => ?_⟩
  · exact reduce_any s W (by omega)
  · have h := bytesS_any (redN s) W hr4
    rwa [Nat.mod_eq_of_lt hr] at h
  · have h := fromS_any (le 32 (redN s)) W (by omega)
    rwa [show fromS (le 32 (redN s)) = (redN s, true) by
      unfold fromS
      rw [if_pos ⟨hlen, by rw [hol]; exact hr⟩, hol]] at h
  · have h := addNum_any ordN n W
    rwa [numV_small n hn] at h
  · have h := fromS_any (le 32 (ordN + n)) W (by simp [le_length])
    rwa [show fromS (le 32 (ordN + n)) = (0, false) by
      unfold fromS
      rw [if_neg (fun h => by have := h.2; rw [holT] at this; omega)]] at h
  · have h := reduce_any (le 32 (ordN + n)) W (by simp [le_length])
    rwa [show redN (le 32 (ordN + n)) = maN n 1 0 by
      unfold redN maN
      rw [List.take_of_length_le (by simp [le_length]), holT, Nat.mul_one, Nat.add_zero, Nat.add_mod_left]] at h
  · have h := ma_any n 1 0 W (Nat.lt_of_lt_of_le hn (by decide)) one4 zero4
    rwa [numV_small n hn, numV_one, numV_zero] at h
  · have h := reduce_any (s ++ List.replicate k 0) W (by simp; omega)
    rwa [redN_full hk] at h
  · have h := reduce_any (s ++ (List.replicate k 0 ++ m)) W (by simp; omega)
    rwa [redN_more hk] at h

set_option maxRecDepth 100000 in
theorem scalarBack_long (n : Nat) (s m : List UInt8) (w : World) (hs : ¬ (s.length ≤ 64 ∧ m.length ≤ 40)) : Ret Try.prog 11 #[strV s, strV m, .int .u64 (n : Int)] w (.bool true) := by
  refine Ret.of ?_
  by_cases h : s.length ≤ 64
  · have hd : decide ((64 : Int) < (s.length : Int)) = false := by simp; omega
    have hd2 : decide ((40 : Int) < (m.length : Int)) = true := by simp; omega
    go_enter Try.func11, Try.ntmps11
    go_wp2_with fail
    refine (awake7 _).out.mono ?_
    rintro _ _ ⟨rfl, x1, rfl⟩
    go_wp2_with fail
    refine bodyPost_ret (v := .bool true) (by simp [results, Try.results11, go_sem]) rfl ⟨rfl, ?_⟩
    repeat (first | exact Below.refl _ _ | refine Below.setCell ?_ (by first | (simp; done) | (simp; omega) | (simp [size_plus]; done) | (simp [size_plus]; omega)) _ | refine Below.alloc ?_ (by first | (simp; done) | (simp; omega) | (simp [size_plus]; done) | (simp [size_plus]; omega)) _ | refine Below.drew ?_ | refine Below.plus ?_ (by first | (simp; done) | (simp; omega) | (simp [size_plus]; done) | (simp [size_plus]; omega)) _)
  · have hd : decide ((64 : Int) < (s.length : Int)) = true := by simp; omega
    go_enter Try.func11, Try.ntmps11
    go_wp2_with fail
    refine (awake7 _).out.mono ?_
    rintro _ _ ⟨rfl, x1, rfl⟩
    go_wp2_with fail
    refine bodyPost_ret (v := .bool true) (by simp [results, Try.results11, go_sem]) rfl ⟨rfl, ?_⟩
    repeat (first | exact Below.refl _ _ | refine Below.setCell ?_ (by first | (simp; done) | (simp; omega) | (simp [size_plus]; done) | (simp [size_plus]; omega)) _ | refine Below.alloc ?_ (by first | (simp; done) | (simp; omega) | (simp [size_plus]; done) | (simp [size_plus]; omega)) _ | refine Below.drew ?_ | refine Below.plus ?_ (by first | (simp; done) | (simp; omega) | (simp [size_plus]; done) | (simp [size_plus]; omega)) _)
theorem scalarBack_all (s m : ByteArray) (n : Nat) (w : World) (_ : s.size ≤ maxLen) (_ : m.size ≤ maxLen) (hn : n < B) : Ret Try.prog 11 #[.string s, .string m, .int .u64 (n : Int)] w (.bool true) := by
  obtain ⟨⟨s⟩⟩ := s
  obtain ⟨⟨m⟩⟩ := m
  by_cases h : s.length ≤ 64 ∧ m.length ≤ 40
  · refine scalarBack_gen maN ordN (redN s) n (ordN + n) (cz ordN n 4) s m (le 32 (redN s)) (List.replicate (64 - s.length) 0) scCalls (scBack n hn s m h.1 h.2 (64 - s.length) (by omega)) w h.1 h.2 (le_length _ _) (64 - s.length) (by omega) rfl ?_
    rw [Nat.mod_eq_of_lt (show redN s < B ^ 4 from ord4 _), Nat.mod_eq_of_lt ordN_lt]
    exact red_lt s
  · exact scalarBack_long n s m w h
end Go.Proofs.Ytihbjlpohjohpaa
