/- Walks: ScalarEdges. -/
import Derived.Test.YtihbjlpohjohpaaSc7
namespace Go.Proofs.Ytihbjlpohjohpaa
open Go.RowKit Go.Shelf

theorem str_add' (l m : List UInt8) : (⟨l.toArray⟩ : ByteArray) ++ ⟨m.toArray⟩ = ⟨(l ++ m).toArray⟩ := by
  apply ByteArray.ext
  simp

structure ScEdges (M : Nat → Nat → Nat → Nat) (p n r : Nat) (s L : List UInt8) : Prop where
  by32 : ∀ W, Ret Try.prog 42 #[numV p] W (strV L)
  back : ∀ W, Ret Try.prog 37 #[strV L] W (.tuple #[numV p, .bool true])
  long : ∀ W, Ret Try.prog 37 #[strV (L ++ [0])] W (.tuple #[numV 0, .bool false])
  none_ : ∀ W, Ret Try.prog 39 #[.string ⟨#[]⟩] W (numV 0)
  redL : ∀ W, Ret Try.prog 39 #[strV L] W (numV p)
  reds : ∀ W, Ret Try.prog 39 #[strV s] W (numV r)
  red0 : ∀ W, Ret Try.prog 39 #[strV (0 :: s)] W (numV (M 256 r 0))
  pnn : ∀ W, Ret Try.prog 34 #[numV p, .agg #[.int .u64 (n : Int), .int .u64 0, .int .u64 0, .int .u64 0], .agg #[.int .u64 (n : Int), .int .u64 0, .int .u64 0, .int .u64 0]] W (numV (M p n n))
  p11 : ∀ W, Ret Try.prog 34 #[numV p, oneV, oneV] W (numV (M p 1 1))
  pp0 : ∀ W, Ret Try.prog 34 #[numV p, numV p, zeroV] W (numV (M p p 0))
  r0 : ∀ W, Ret Try.prog 34 #[.agg #[.int .u64 256, .int .u64 0, .int .u64 0, .int .u64 0], numV r, zeroV] W (numV (M 256 r 0))

set_option maxRecDepth 100000 in
set_option maxHeartbeats 2000000 in
theorem scalarEdges_gen (M : Nat → Nat → Nat → Nat) (q p n r : Nat) (s L : List UInt8) (S : ScCalls M q) (E : ScEdges M p n r s L) (w : World) (hn : n < 65536) (hs : s.length ≤ 40) (hL : L.length = 32)
    (h0 : IntKind.u64.wrap (((nw q 0 : Nat) : Int) - 1) = ((nw p 0 : Nat) : Int)) (h1 : nw q 1 = nw p 1) (h2 : nw q 2 = nw p 2) (h3 : nw q 3 = nw p 3)
    (m1 : M p 1 1 % B ^ 4 = 0) (m2 : M p p 0 % B ^ 4 = 1) (m3 : M p n n % B ^ 4 = 0) (mz : 0 % B ^ 4 = 0)
    (c1 : (⟨L.toArray⟩ : ByteArray) ++ ⟨#[0]⟩ = ⟨(L ++ [0]).toArray⟩) (c2 : (⟨#[0]⟩ : ByteArray) ++ ⟨s.toArray⟩ = ⟨(0 :: s).toArray⟩) :
    Ret Try.prog 12 #[.int .u16 (n : Int), strV s] w (.bool true) := by
  refine Ret.of ?_
  have hd : decide ((40 : Int) < (s.length : Int)) = false := by simp; omega
  go_enter Try.func12, Try.ntmps12
  go_wp2_with fail
  refine (S.ord _).out.mono ?_
  rintro _ _ ⟨rfl, x1, rfl⟩
  go_wp2_with fail
  clear h0 h1 h2 h3
  have hc1 : (9223372036854775807 < 1 + s.length) = False := by simp; omega
  refine (E.by32 _).out.mono ?_
  rintro _ _ ⟨rfl, x2, rfl⟩
  go_wp2_with fail
  refine (E.back _).out.mono ?_
  rintro _ _ ⟨rfl, x3, rfl⟩
  go_wp2_with fail
  refine (E.long _).out.mono ?_
  rintro _ _ ⟨rfl, x4, rfl⟩
  go_wp2_with fail
  refine wp_region_plain 59 98 mixed (by kernel_rfl) (by kernel_rfl) rfl (fun _ _ _ _ _ h => h) ?_
  simp only [List.take_succ_cons, List.take_zero, List.drop_succ_cons, List.drop_zero]
  repeat (first | (refine wpHead_skip rfl ?_) | (refine wpHead_run rfl rfl (fun K hK => ?_); go_simp; first | (refine hK _ ?_; clear hK K) | (apply Exists.intro; refine ⟨fun _ => ?_, hK _ ?_⟩; (with_reducible first | exact E.none_ _ | exact E.redL _ | exact E.reds _ | exact E.red0 _ | exact E.pnn _ | exact E.p11 _ | exact E.pp0 _ | exact E.r0 _ | exact awake7 _); clear hK K)) | (refine wpHead_want rfl rfl (fun K hK => ?_); go_simp; first | (refine hK _ ?_; clear hK K) | (apply Exists.intro; refine ⟨fun _ => ?_, hK _ ?_⟩; (with_reducible first | exact E.none_ _ | exact E.redL _ | exact E.reds _ | exact E.red0 _ | exact E.pnn _ | exact E.p11 _ | exact E.pp0 _ | exact E.r0 _ | exact awake7 _); clear hK K)) | (refine wpHead_pass rfl rfl ?_; simp only [Act.put, List.setIfInBounds_toArray, List.set_cons_succ, List.set_cons_zero]))
  refine wpHead_nil ?_
  intro zz x5
  clear zz
  go_wp2_with fail
  refine bodyPost_ret (v := .bool true) (by simp [results, Try.results12, go_sem]) rfl ⟨rfl, ?_⟩
  repeat (first | exact Below.refl _ _ | refine Below.setCell ?_ (by first | (simp; done) | (simp; omega) | (simp [size_plus]; done) | (simp [size_plus]; omega)) _ | refine Below.alloc ?_ (by first | (simp; done) | (simp; omega) | (simp [size_plus]; done) | (simp [size_plus]; omega)) _ | refine Below.drew ?_ | refine Below.plus ?_ (by first | (simp; done) | (simp; omega) | (simp [size_plus]; done) | (simp [size_plus]; omega)) _)

theorem redN_nil : redN [] = 0 := by decide +kernel
theorem redN_zero (s : List UInt8) (hs : s.length ≤ 40) : redN (0 :: s) = maN 256 (redN s) 0 := by
  unfold redN maN
  rw [List.take_of_length_le (by simp; omega), List.take_of_length_le (by omega)]
  rw [Nat.add_zero, Nat.mul_mod_mod]
  congr 1
  simp [ofle]

theorem last4 : ordN - 1 < B ^ 4 := by decide +kernel
theorem last_red (n : Nat) : ((ordN - 1) * n + n) % ordN = 0 := by
  rw [show (ordN - 1) * n + n = ordN * n by rw [Nat.sub_mul, Nat.one_mul]; have := Nat.le_mul_of_pos_left n ordN_pos; omega, Nat.mul_mod_right]
theorem ofle_last : ofle (le 32 (ordN - 1)) = ordN - 1 := by
  rw [ofle_le]
  exact Nat.mod_eq_of_lt last4
theorem last_mod : (ordN - 1) % ordN = ordN - 1 := Nat.mod_eq_of_lt (by have := ordN_pos; omega)

theorem scEdges (n : Nat) (hn : n < 65536) (s : List UInt8) (hs : s.length ≤ 40) : ScEdges maN (ordN - 1) n (redN s) s (le 32 (ordN - 1)) := by
  have hlen := le_length 32 (ordN - 1)
  have hol := ofle_last
  have hn4 : n < B ^ 4 := Nat.lt_trans hn (by decide +kernel)
  have hnB : n < B := Nat.lt_trans hn (by decide +kernel)
  have hr4 : redN s < B ^ 4 := ord4 _
  refine ⟨fun W => ?_, fun W => ?_, fun W => ?_, fun W => ?_, fun W => ?_, fun W => ?_, fun W => ?_, fun W => ?_, fun W => ?_, fun W => ?_, fun W => ?_⟩
  · have h := bytesS_any (ordN - 1) W last4
    rwa [last_mod] at h
  · have h := fromS_any (le 32 (ordN - 1)) W (by omega)
    rwa [show fromS (le 32 (ordN - 1)) = (ordN - 1, true) by
      unfold fromS
      rw [if_pos ⟨hlen, by rw [hol]; have := ordN_pos; omega⟩, hol]] at h
  · have h := fromS_any (le 32 (ordN - 1) ++ [0]) W (by simp [hlen])
    rwa [show fromS (le 32 (ordN - 1) ++ [0]) = (0, false) by
      unfold fromS
      rw [if_neg (fun h => by have := h.1; simp [hlen] at this)]] at h
  · have h := reduce_any [] W (by simp)
    rwa [redN_nil] at h
  · have h := reduce_any (le 32 (ordN - 1)) W (by omega)
    rwa [show redN (le 32 (ordN - 1)) = ordN - 1 by
      unfold redN
      rw [List.take_of_length_le (by omega), hol, last_mod]] at h
  · exact reduce_any s W (by omega)
  · have h := reduce_any (0 :: s) W (by simp; omega)
    rwa [redN_zero s hs] at h
  · have h := ma_any (ordN - 1) n n W last4 hn4 hn4
    rwa [numV_small n hnB] at h
  · exact ma_x11 _ W last4
  · exact ma_xx0 _ _ W last4 last4
  · have h := ma_xx0 256 (redN s) W (by decide) hr4
    rwa [numV_small 256 (by decide)] at h

theorem scalarEdges_any (n : Nat) (s : List UInt8) (w : World) (hn : n < 65536) (hs : s.length ≤ 40) : Ret Try.prog 12 #[.int .u16 (n : Int), strV s] w (.bool true) := by
  refine scalarEdges_gen maN ordN (ordN - 1) n (redN s) s (le 32 (ordN - 1)) scCalls (scEdges n hn s hs) w hn hs (le_length _ _) (by decide +kernel) (by decide +kernel) (by decide +kernel) (by decide +kernel) ?_ ?_ ?_ (by decide) ?_ ?_
  · decide +kernel
  · decide +kernel
  · show ((ordN - 1) * n + n) % ordN % B ^ 4 = 0
    rw [last_red]
    rfl
  · exact str_add' _ _
  · exact str_add' [0] s

set_option maxRecDepth 100000 in
theorem scalarEdges_long (n : Nat) (s : List UInt8) (w : World) (hs : ¬ s.length ≤ 40) : Ret Try.prog 12 #[.int .u16 (n : Int), strV s] w (.bool true) := by
  refine Ret.of ?_
  have hd : decide ((40 : Int) < (s.length : Int)) = true := by simp; omega
  go_enter Try.func12, Try.ntmps12
  go_wp2_with fail
  refine (awake7 _).out.mono ?_
  rintro _ _ ⟨rfl, x1, rfl⟩
  go_wp2_with fail
  refine bodyPost_ret (v := .bool true) (by simp [results, Try.results12, go_sem]) rfl ⟨rfl, ?_⟩
  repeat (first | exact Below.refl _ _ | refine Below.setCell ?_ (by first | (simp; done) | (simp; omega) | (simp [size_plus]; done) | (simp [size_plus]; omega)) _ | refine Below.alloc ?_ (by first | (simp; done) | (simp; omega) | (simp [size_plus]; done) | (simp [size_plus]; omega)) _ | refine Below.drew ?_ | refine Below.plus ?_ (by first | (simp; done) | (simp; omega) | (simp [size_plus]; done) | (simp [size_plus]; omega)) _)
theorem wf16 {n : Int} (h : (Lit.int .u16 n).wf = true) : ∃ m : Nat, n = m ∧ m < 65536 := by
  simp [Lit.wf, IntKind.min, IntKind.max, IntKind.signed, IntKind.bits] at h
  exact ⟨n.toNat, by omega, by omega⟩
theorem scalarEdges_all (n : Nat) (s : ByteArray) (w : World) (hn : n < 65536) (_ : s.size ≤ maxLen) : Ret Try.prog 12 #[.int .u16 (n : Int), .string s] w (.bool true) := by
  obtain ⟨⟨l⟩⟩ := s
  by_cases h : l.length ≤ 40
  · exact scalarEdges_any n l w hn h
  · exact scalarEdges_long n l w h
end Go.Proofs.Ytihbjlpohjohpaa
