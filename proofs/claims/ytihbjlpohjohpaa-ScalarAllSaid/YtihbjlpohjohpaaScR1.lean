/- Walks: the reference modulo the order. -/
import Derived.Test.YtihbjlpohjohpaaMulP
import Derived.Test.YtihbjlpohjohpaaSc5
import Derived.Test.YtihbjlpohjohpaaRef6c
namespace Go.Proofs.Ytihbjlpohjohpaa
open Go.RowKit

theorem ordN_two : 2 * ordN < B ^ 4 := by decide +kernel
theorem dif_less {a b : Nat} (h : b ≤ a) (ha : a < B ^ 4) : dif a b % B ^ 4 = a - b := by
  unfold dif
  rw [Nat.div_eq_of_lt (by omega), Nat.zero_add, Nat.mul_one, show a + B ^ 4 - b = a - b + B ^ 4 by omega, Nat.add_mod_right, Nat.mod_eq_of_lt (by omega)]
theorem subO_any (a : Nat) (w : World) (h : ordN ≤ a) (ha : a < B ^ 4) : Ret Try.prog 53 #[numV a, numV ordN] w (numV (a - ordN)) := by
  have hs := subNum_any a ordN w
  rwa [← numV_mod (dif a ordN), dif_less h ha] at hs
/-- A word more, an even number's last bit. -/
theorem nw_bit0 (a b : Nat) (hb : b < 2) : nw (2 * a + b) 0 = nw (2 * a) 0 + b := by
  rw [nw_zero, nw_zero]
  unfold B
  omega
theorem nw_bit (a b i : Nat) (hb : b < 2) : nw (2 * a + b) (i + 1) = nw (2 * a) (i + 1) := by
  unfold nw
  rw [Nat.pow_succ, Nat.mul_comm (B ^ i) B, ← Nat.div_div_eq_div_mul, ← Nat.div_div_eq_div_mul, show (2 * a + b) / B = 2 * a / B by unfold B; omega]
theorem or_bit0 (a b : Nat) (hb : b < 2) : bits BinOp.or IntKind.u64 ((nw (a + a) 0 : Nat) : Int) (b : Int) = ((nw (2 * a + b) 0 : Nat) : Int) := by
  have h0 := nw_lt' (a + a) 0
  rw [bits_or_u64_nat _ _ h0 (by omega), nw_bit0 a b hb, show a + a = 2 * a by omega]
  congr 1
  have he : nw (2 * a) 0 = 2 * (nw (2 * a) 0 / 2) := by rw [nw_zero]; unfold B; omega
  rw [he, show 2 * (nw (2 * a) 0 / 2) = 2 ^ 1 * (nw (2 * a) 0 / 2) by rfl, ← Nat.two_pow_add_eq_or_of_lt (show b < 2 ^ 1 by omega)]
theorem mod_once {s : Nat} (h : s < 2 * ordN) : (if s < ordN then s else s - ordN) = s % ordN := by
  split
  · rw [Nat.mod_eq_of_lt (by assumption)]
  · rw [Nat.mod_eq_sub_mod (by omega), Nat.mod_eq_of_lt (by omega)]

set_option maxRecDepth 100000 in
set_option maxHeartbeats 1000000 in
theorem reduced_any (a b : Nat) (w : World) (ha : a < ordN) (hb : b < 2) : Ret Try.prog 60 #[numV a, .int .u64 (b : Int)] w (numV ((2 * a + b) % ordN)) := by
  refine Ret.of ?_
  have h2 := ordN_two
  have hor := or_bit0 a b hb
  have hw := nw_bit a b
  obtain ⟨s, hs⟩ : ∃ s, 2 * a + b = s := ⟨_, rfl⟩
  have hs2 : s < 2 * ordN := by omega
  have e1 : nw (a + a) 1 = nw s 1 := by rw [← hs, nw_bit a b 0 hb, Nat.two_mul]
  have e2 : nw (a + a) 2 = nw s 2 := by rw [← hs, nw_bit a b 1 hb, Nat.two_mul]
  have e3 : nw (a + a) 3 = nw s 3 := by rw [← hs, nw_bit a b 2 hb, Nat.two_mul]
  have hv : numV (a + a) = .agg #[.int .u64 (nw (a + a) 0), .int .u64 (nw s 1), .int .u64 (nw s 2), .int .u64 (nw s 3)] := by rw [← e1, ← e2, ← e3]
  have hsum : ∀ W, Ret Try.prog 22 #[numV a, numV a] W (.tuple #[.agg #[.int .u64 (nw (a + a) 0), .int .u64 (nw s 1), .int .u64 (nw s 2), .int .u64 (nw s 3)], .int .u64 (cz a a 4)]) := fun W => hv ▸ addNum_any a a W
  rw [hs] at hor ⊢
  have HM := Lib.hid (mod_once hs2)
  have HS2 := Lib.hid hs2
  have HTWO := Lib.hid h2
  clear hs hs2 h2 hw ha e1 e2 e3 hv
  go_enter Try.func60, Try.ntmps60
  go_wp2_with fail
  refine (hsum _).out.mono ?_
  rintro _ _ ⟨rfl, x1, rfl⟩
  go_wp2_with fail
  refine wp_region_plain 4 26 mixed (by kernel_rfl) (by kernel_rfl) rfl (fun _ _ _ _ _ h => h) ?_
  simp only [List.take_succ_cons, List.take_zero, List.drop_succ_cons, List.drop_zero]
  repeat (first | (refine wpHead_skip rfl ?_) | (refine wpHead_run rfl rfl (fun K hK => ?_); go_simp; first | (refine hK _ ?_; clear hK K) | (apply Exists.intro; refine ⟨fun _ => ?_, hK _ ?_⟩; (with_reducible first | exact orderR_any _ | exact lessR_any _ _ _); clear hK K)))
  refine wpHead_nil ?_
  intro zz x2
  clear zz
  have hs4 : s < B ^ 4 := Nat.lt_trans HS2.out HTWO.out
  by_cases hlt : s < ordN
  · have e : decide (s % B ^ 4 < ordN % B ^ 4) = true := decide_eq_true (by rw [Nat.mod_eq_of_lt hs4, Nat.mod_eq_of_lt ordN_lt]; exact hlt)
    simp only [e, Bool.not_true]
    go_wp2_with fail
    refine bodyPost_ret (v := numV s) (by simp [results, Try.results60, go_sem]) rfl ⟨by rw [← HM.out, if_pos hlt], ?_⟩
    repeat (first | exact Below.refl _ _ | refine Below.setCell ?_ (by first | (simp; done) | (simp; omega) | (simp [size_plus]; done) | (simp [size_plus]; omega)) _ | refine Below.alloc ?_ (by first | (simp; done) | (simp; omega) | (simp [size_plus]; done) | (simp [size_plus]; omega)) _ | refine Below.drew ?_ | refine Below.plus ?_ (by first | (simp; done) | (simp; omega) | (simp [size_plus]; done) | (simp [size_plus]; omega)) _)
  · have e : decide (s % B ^ 4 < ordN % B ^ 4) = false := decide_eq_false (by rw [Nat.mod_eq_of_lt hs4, Nat.mod_eq_of_lt ordN_lt]; exact hlt)
    simp only [e, Bool.not_false]
    clear e
    go_wp2_with fail
    refine wp_region_plain 3 26 mixed (by kernel_rfl) (by kernel_rfl) rfl (fun _ _ _ _ _ h => h) ?_
    simp only [List.take_succ_cons, List.take_zero, List.drop_succ_cons, List.drop_zero]
    repeat (first | (refine wpHead_skip rfl ?_) | (refine wpHead_run rfl rfl (fun K hK => ?_); go_simp; first | (refine hK _ ?_; clear hK K) | (apply Exists.intro; refine ⟨fun _ => ?_, hK _ ?_⟩; (with_reducible first | exact orderR_any _ | exact subO_any s _ (by omega) hs4); clear hK K)))
    refine wpHead_nil ?_
    intro zz x3
    clear zz
    go_wp2_with fail
    refine bodyPost_ret (v := numV (s - ordN)) (by simp [results, Try.results60, go_sem]) rfl ⟨by rw [← HM.out, if_neg hlt], ?_⟩
    repeat (first | exact Below.refl _ _ | refine Below.setCell ?_ (by first | (simp; done) | (simp; omega) | (simp [size_plus]; done) | (simp [size_plus]; omega)) _ | refine Below.alloc ?_ (by first | (simp; done) | (simp; omega) | (simp [size_plus]; done) | (simp [size_plus]; omega)) _ | refine Below.drew ?_ | refine Below.plus ?_ (by first | (simp; done) | (simp; omega) | (simp [size_plus]; done) | (simp [size_plus]; omega)) _)

theorem ofle_bit (l : List UInt8) (T j : Nat) (hT : T ≤ l.length) (hj : j < 8 * T) : ofle (l.take T) / 2 ^ j % 2 = (l.getD (j / 8) 0).toNat / 2 ^ (j % 8) % 2 := by
  have key : ∀ (T : Nat) (l : List UInt8) (i : Nat), i < T → T ≤ l.length → ofle (l.take T) / 2 ^ (8 * i) % 256 = (l.getD i 0).toNat := by
    intro T
    induction T with
    | zero => intro l i h; omega
    | succ T ih =>
      intro l i h hT
      match l, hT with
      | b :: l, hT =>
        have hb := b.toNat_lt
        cases i with
        | zero => simp [ofle]
        | succ i =>
          rw [List.take_succ_cons, show 8 * (i + 1) = 8 + 8 * i by omega, Nat.pow_add, ← Nat.div_div_eq_div_mul, show ofle (b :: l.take T) / 2 ^ 8 = ofle (l.take T) by simp [ofle]; omega]
          exact ih l i (by omega) (by simpa using hT)
  have h := key T l (j / 8) (by omega) hT
  have e : ofle (l.take T) / 2 ^ j = ofle (l.take T) / 2 ^ (8 * (j / 8)) / 2 ^ (j % 8) := by rw [Nat.div_div_eq_div_mul, ← Nat.pow_add, Nat.div_add_mod]
  rw [e]
  generalize ofle (l.take T) / 2 ^ (8 * (j / 8)) = z at *
  have hr : j % 8 < 8 := Nat.mod_lt _ (by omega)
  rw [← h]
  match j % 8, hr with
  | 0, _ | 1, _ | 2, _ | 3, _ | 4, _ | 5, _ | 6, _ | 7, _ => omega
theorem bit_u8 (b j : Nat) (hb : b < 256) : bits BinOp.and IntKind.u8 ((b : Int) / 2 ^ j) 1 = ((b / 2 ^ j % 2 : Nat) : Int) := by
  have h := Nat.div_le_self b (2 ^ j)
  have e : (b : Int) / 2 ^ j = ((b / 2 ^ j : Nat) : Int) := by simp
  rw [e, show (1 : Int) = ((1 : Nat) : Int) from rfl, (bits_nat .u8 8 (by decide) wraps_u8 _ 1 (by omega) (by omega)).1, Nat.and_one_is_mod]
theorem halve_step (N j : Nat) : (2 * (N / 2 ^ (j + 1) % ordN) + N / 2 ^ j % 2) % ordN = N / 2 ^ j % ordN := by
  rw [Nat.pow_succ, ← Nat.div_div_eq_div_mul]
  generalize N / 2 ^ j = y
  rw [← Nat.add_mod_mod, Nat.add_mod, Nat.mul_mod_mod, Nat.mod_mod]
  conv => rhs; rw [show y = 2 * (y / 2) + y % 2 by omega]
  rw [Nat.add_mod]
  simp
set_option maxRecDepth 100000 in
set_option maxHeartbeats 1000000 in
theorem reduceR_any (l : List UInt8) (w : World) (hl : l.length ≤ 1000000) : Ret Try.prog 40 #[strV l] w (numV (redN l)) := by
  refine Ret.of ?_
  have e0 : (#[.int .u64 0, .int .u64 0, .int .u64 0, .int .u64 0] : Array Value) = wordsOf 0 := by kernel_rfl
  have HE0 := Lib.hid e0
  clear e0
  go_enter Try.func40, Try.ntmps40
  go_wp2_with fail
  · rename_i hcase
    have hT : 64 ≤ l.length := by omega
    have hN : ofle (l.take 64) / 2 ^ (8 * 64) = 0 := by
      have h := ofle_lt (l.take 64)
      rw [List.length_take, Nat.min_eq_left hT, show (256 : Nat) = 2 ^ 8 from rfl, ← Nat.pow_mul] at h
      exact Nat.div_eq_of_lt h
    have hred : redN l = ofle (l.take 64) % ordN := by rfl
    have hbits := fun j hj => ofle_bit l 64 j hT hj
    generalize ofle (l.take 64) = M at *
    have HN := Lib.hid hN
    have HB := Lib.hid hbits
    have HRED := Lib.hid hred
    clear hN hbits hred
    go_loopw [4] (fun v wr => ∃ i : Nat, i ≤ 8 * 64 ∧ v = .int .i64 ((i : Int) - 1) ∧ ∃ V : Nat, V < ordN ∧ Hid (V = M / 2 ^ i % ordN) ∧ ∃ x : Ext,
      wr = plus ((w.alloc (.cells #[.int .u64 0, .int .u64 0, .int .u64 0, .int .u64 0] 24)).alloc (.cells (wordsOf V) 24)) x) (fun v _ => (intOf v + 1).toNat)
    case atStart => exact ⟨8 * 64, by omega, by go_num, 0, ordN_pos, by rw [HN.out]; exact (Nat.zero_mod _).symm, _, by rw [← HE0.out]; exact (plus_none _).symm⟩
    case round =>
      obtain ⟨i, hi, rfl, V, hV, HV, x, rfl⟩ := hrel
      cases i with
      | zero =>
        go_wp2_with fail
        refine bodyPost_ret (v := numV V) (by simp [results, Try.results40, go_sem]) rfl ⟨by rw [HRED.out, HV.out, Nat.pow_zero, Nat.div_one], ?_⟩
        repeat (first | exact Below.refl _ _ | refine Below.setCell ?_ (by first | (simp; done) | (simp; omega) | (simp [size_plus]; done) | (simp [size_plus]; omega)) _ | refine Below.alloc ?_ (by first | (simp; done) | (simp; omega) | (simp [size_plus]; done) | (simp [size_plus]; omega)) _ | refine Below.drew ?_ | refine Below.plus ?_ (by first | (simp; done) | (simp; omega) | (simp [size_plus]; done) | (simp [size_plus]; omega)) _)
      | succ j =>
        have ej : ((j + 1 : Nat) : Int) - 1 = (j : Int) := by omega
        rw [ej]
        have hjl : j / 8 < l.length := by omega
        obtain ⟨c, hc⟩ : ∃ c, l.getD (j / 8) 0 = c := ⟨_, rfl⟩
        have hgc : l[j / 8] = c := by rw [← hc]; simp [hjl]
        have hcb := c.toNat_lt
        have hbit := bit_u8 c.toNat (j % 8) hcb
        obtain ⟨b, hb⟩ : ∃ b, c.toNat / 2 ^ (j % 8) % 2 = b := ⟨_, rfl⟩
        have hb2 : b < 2 := by rw [← hb]; exact Nat.mod_lt _ (by omega)
        have HBB := Lib.hid (show M / 2 ^ j % 2 = b by rw [HB.out j (by omega), hc, hb])
        rw [hb] at hbit
        have hwb : IntKind.u64.wrap (b : Int) = (b : Int) := wrap_u64_nat b (by omega)
        have hix : (j : Int) / 8 < (l.length : Int) := by omega
        have hix0 : 0 ≤ (j : Int) / 8 := by omega
        have hw8 : IntKind.i64.wrap ((j : Int) / 8) = (j : Int) / 8 := by rw [IntKind.wrap_i64]; omega
        have htm : (j : Int).tmod 8 = (j : Int) % 8 := Int.tmod_eq_emod_of_nonneg (by omega)
        have hm0 : 0 ≤ (j : Int) % 8 := by omega
        have hm8 : ((j : Int) % 8).toNat = j % 8 := by omega
        have hby : ∀ h, ({ data := l.toArray } : ByteArray)[((j : Int) / 8).toNat]'h = c := fun h => by
          have e : ((j : Int) / 8).toNat = j / 8 := by omega
          simp only [e]
          rw [byte_at l (j / 8) hjl, hgc]
        clear hb hc
        go_wp2_with fail
        refine wp_region_plain 11 26 mixed (by kernel_rfl) (by kernel_rfl) rfl (fun _ _ _ _ _ h => h) ?_
        simp only [List.take_succ_cons, List.take_zero, List.drop_succ_cons, List.drop_zero]
        repeat (first | (refine wpHead_skip rfl ?_) | (refine wpHead_run rfl rfl (fun K hK => ?_); go_simp; first | (refine hK _ ?_; clear hK K) | (apply Exists.intro; refine ⟨fun _ => ?_, hK _ ?_⟩; (with_reducible exact reduced_any V b _ hV hb2); clear hK K)))
        refine wpHead_nil ?_
        intro zz x1
        clear zz
        go_wp2_with fail
        go_roundw
        case rel =>
          have e : (2 * V + b) % ordN = M / 2 ^ j % ordN := by rw [HV.out, ← HBB.out]; exact halve_step M j
          exact ⟨j, by omega, by go_num, _, Nat.mod_lt _ ordN_pos, e, _, by rw [plus_plus]⟩
        case measure => simp [intOf]
  · rename_i hcase
    have hT : l.length ≤ l.length := by omega
    have hN : ofle (l.take l.length) / 2 ^ (8 * l.length) = 0 := by
      have h := ofle_lt (l.take l.length)
      rw [List.length_take, Nat.min_eq_left hT, show (256 : Nat) = 2 ^ 8 from rfl, ← Nat.pow_mul] at h
      exact Nat.div_eq_of_lt h
    have hred : redN l = ofle (l.take l.length) % ordN := by unfold redN; rw [List.take_of_length_le (Nat.le_refl _), List.take_of_length_le (by omega)]
    have hbits := fun j hj => ofle_bit l l.length j hT hj
    generalize ofle (l.take l.length) = M at *
    have HN := Lib.hid hN
    have HB := Lib.hid hbits
    have HRED := Lib.hid hred
    clear hN hbits hred
    go_loopw [4] (fun v wr => ∃ i : Nat, i ≤ 8 * l.length ∧ v = .int .i64 ((i : Int) - 1) ∧ ∃ V : Nat, V < ordN ∧ Hid (V = M / 2 ^ i % ordN) ∧ ∃ x : Ext,
      wr = plus ((w.alloc (.cells #[.int .u64 0, .int .u64 0, .int .u64 0, .int .u64 0] 24)).alloc (.cells (wordsOf V) 24)) x) (fun v _ => (intOf v + 1).toNat)
    case atStart => exact ⟨8 * l.length, by omega, by go_num, 0, ordN_pos, by rw [HN.out]; exact (Nat.zero_mod _).symm, _, by rw [← HE0.out]; exact (plus_none _).symm⟩
    case round =>
      obtain ⟨i, hi, rfl, V, hV, HV, x, rfl⟩ := hrel
      cases i with
      | zero =>
        go_wp2_with fail
        refine bodyPost_ret (v := numV V) (by simp [results, Try.results40, go_sem]) rfl ⟨by rw [HRED.out, HV.out, Nat.pow_zero, Nat.div_one], ?_⟩
        repeat (first | exact Below.refl _ _ | refine Below.setCell ?_ (by first | (simp; done) | (simp; omega) | (simp [size_plus]; done) | (simp [size_plus]; omega)) _ | refine Below.alloc ?_ (by first | (simp; done) | (simp; omega) | (simp [size_plus]; done) | (simp [size_plus]; omega)) _ | refine Below.drew ?_ | refine Below.plus ?_ (by first | (simp; done) | (simp; omega) | (simp [size_plus]; done) | (simp [size_plus]; omega)) _)
      | succ j =>
        have ej : ((j + 1 : Nat) : Int) - 1 = (j : Int) := by omega
        rw [ej]
        have hjl : j / 8 < l.length := by omega
        obtain ⟨c, hc⟩ : ∃ c, l.getD (j / 8) 0 = c := ⟨_, rfl⟩
        have hgc : l[j / 8] = c := by rw [← hc]; simp [hjl]
        have hcb := c.toNat_lt
        have hbit := bit_u8 c.toNat (j % 8) hcb
        obtain ⟨b, hb⟩ : ∃ b, c.toNat / 2 ^ (j % 8) % 2 = b := ⟨_, rfl⟩
        have hb2 : b < 2 := by rw [← hb]; exact Nat.mod_lt _ (by omega)
        have HBB := Lib.hid (show M / 2 ^ j % 2 = b by rw [HB.out j (by omega), hc, hb])
        rw [hb] at hbit
        have hwb : IntKind.u64.wrap (b : Int) = (b : Int) := wrap_u64_nat b (by omega)
        have hix : (j : Int) / 8 < (l.length : Int) := by omega
        have hix0 : 0 ≤ (j : Int) / 8 := by omega
        have hw8 : IntKind.i64.wrap ((j : Int) / 8) = (j : Int) / 8 := by rw [IntKind.wrap_i64]; omega
        have htm : (j : Int).tmod 8 = (j : Int) % 8 := Int.tmod_eq_emod_of_nonneg (by omega)
        have hm0 : 0 ≤ (j : Int) % 8 := by omega
        have hm8 : ((j : Int) % 8).toNat = j % 8 := by omega
        have hby : ∀ h, ({ data := l.toArray } : ByteArray)[((j : Int) / 8).toNat]'h = c := fun h => by
          have e : ((j : Int) / 8).toNat = j / 8 := by omega
          simp only [e]
          rw [byte_at l (j / 8) hjl, hgc]
        clear hb hc
        go_wp2_with fail
        refine wp_region_plain 11 26 mixed (by kernel_rfl) (by kernel_rfl) rfl (fun _ _ _ _ _ h => h) ?_
        simp only [List.take_succ_cons, List.take_zero, List.drop_succ_cons, List.drop_zero]
        repeat (first | (refine wpHead_skip rfl ?_) | (refine wpHead_run rfl rfl (fun K hK => ?_); go_simp; first | (refine hK _ ?_; clear hK K) | (apply Exists.intro; refine ⟨fun _ => ?_, hK _ ?_⟩; (with_reducible exact reduced_any V b _ hV hb2); clear hK K)))
        refine wpHead_nil ?_
        intro zz x1
        clear zz
        go_wp2_with fail
        go_roundw
        case rel =>
          have e : (2 * V + b) % ordN = M / 2 ^ j % ordN := by rw [HV.out, ← HBB.out]; exact halve_step M j
          exact ⟨j, by omega, by go_num, _, Nat.mod_lt _ ordN_pos, e, _, by rw [plus_plus]⟩
        case measure => simp [intOf]

theorem redN_le {a : Nat} (ha : a < B ^ 4) : redN (le 32 a) = a % ordN := by
  unfold redN
  rw [List.take_of_length_le (by rw [le_length]; omega), ofle_le, Nat.mod_eq_of_lt (show a < 256 ^ 32 from ha)]
set_option maxRecDepth 100000 in
theorem moduloR_any (a : Nat) (w : World) (ha : a < B ^ 4) : Ret Try.prog 61 #[numV a] w (numV (a % ordN)) := by
  refine Ret.of ?_
  have hr := fun W => reduceR_any (le 32 a) W (by rw [le_length]; omega)
  rw [redN_le ha] at hr
  go_enter Try.func61, Try.ntmps61
  go_wp2_with fail
  refine (bytesIn_any a _).out.mono ?_
  rintro _ _ ⟨rfl, x1, rfl⟩
  go_wp2_with fail
  refine (hr _).out.mono ?_
  rintro _ _ ⟨rfl, x2, rfl⟩
  go_wp2_with fail
  refine bodyPost_ret (v := numV (a % ordN)) (by simp [results, Try.results61, go_sem]) rfl ⟨rfl, ?_⟩
  repeat (first | exact Below.refl _ _ | refine Below.setCell ?_ (by first | (simp; done) | (simp; omega) | (simp [size_plus]; done) | (simp [size_plus]; omega)) _ | refine Below.alloc ?_ (by first | (simp; done) | (simp; omega) | (simp [size_plus]; done) | (simp [size_plus]; omega)) _ | refine Below.drew ?_ | refine Below.plus ?_ (by first | (simp; done) | (simp; omega) | (simp [size_plus]; done) | (simp [size_plus]; omega)) _)
set_option maxRecDepth 100000 in
theorem bytesOf_any (a : Nat) (w : World) (ha : a < B ^ 4) : Ret Try.prog 43 #[numV a] w (strV (le 32 (a % ordN))) := by
  refine Ret.of ?_
  go_enter Try.func43, Try.ntmps43
  go_wp2_with fail
  refine (moduloR_any a _ ha).out.mono ?_
  rintro _ _ ⟨rfl, x1, rfl⟩
  go_wp2_with fail
  refine (bytesIn_any (a % ordN) _).out.mono ?_
  rintro _ _ ⟨rfl, x2, rfl⟩
  go_wp2_with fail
  refine bodyPost_ret (v := strV (le 32 (a % ordN))) (by simp [results, Try.results43, go_sem]) rfl ⟨rfl, ?_⟩
  repeat (first | exact Below.refl _ _ | refine Below.setCell ?_ (by first | (simp; done) | (simp; omega) | (simp [size_plus]; done) | (simp [size_plus]; omega)) _ | refine Below.alloc ?_ (by first | (simp; done) | (simp; omega) | (simp [size_plus]; done) | (simp [size_plus]; omega)) _ | refine Below.drew ?_ | refine Below.plus ?_ (by first | (simp; done) | (simp; omega) | (simp [size_plus]; done) | (simp [size_plus]; omega)) _)
theorem fromS_eq (l : List UInt8) (h : l.length = 32) : (le 32 (ofle l % ordN) = l ↔ ofle l < ordN) := by
  have hl := le_ofle l
  rw [h] at hl
  have h4 := ofle_lt l
  rw [h] at h4
  constructor
  · intro e
    have e2 : ofle (le 32 (ofle l % ordN)) = ofle l := by rw [e]
    have hm := Nat.mod_lt (ofle l) ordN_pos
    rw [ofle_le, Nat.mod_eq_of_lt (show ofle l % ordN < 256 ^ 32 from Nat.lt_trans hm ordN_lt)] at e2
    omega
  · intro e
    rw [Nat.mod_eq_of_lt e]
    exact hl
set_option maxRecDepth 100000 in
set_option maxHeartbeats 1000000 in
theorem fromOf_any (l : List UInt8) (w : World) : Ret Try.prog 38 #[strV l] w (gotV (fromS l).1 (fromS l).2) := by
  refine Ret.of ?_
  by_cases hl : l.length = 32
  · have ht : l.take 32 = l := List.take_of_length_le (by omega)
    have h4 : ofle l < B ^ 4 := by
      have := ofle_lt l
      rw [hl] at this
      exact this
    have hN := fun W => ht ▸ number_any l W
    go_enter Try.func38, Try.ntmps38
    go_wp2_with fail
    refine (hN _).out.mono ?_
    rintro _ _ ⟨rfl, x1, rfl⟩
    go_wp2_with fail
    refine (bytesOf_any (ofle l) _ h4).out.mono ?_
    rintro _ _ ⟨rfl, x2, rfl⟩
    by_cases hp : ofle l < ordN
    · have e := (fromS_eq l hl).2 hp
      go_wp2_with fail
      refine (hN _).out.mono ?_
      rintro _ _ ⟨rfl, x3, rfl⟩
      go_wp2_with fail
      refine bodyPost_ret (v := gotV (fromS l).1 (fromS l).2) (by rw [fromS, if_pos ⟨hl, hp⟩]; simp [results, Try.results38, go_sem]) rfl ⟨rfl, ?_⟩
      repeat (first | exact Below.refl _ _ | refine Below.setCell ?_ (by first | (simp; done) | (simp; omega) | (simp [size_plus]; done) | (simp [size_plus]; omega)) _ | refine Below.alloc ?_ (by first | (simp; done) | (simp; omega) | (simp [size_plus]; done) | (simp [size_plus]; omega)) _ | refine Below.drew ?_ | refine Below.plus ?_ (by first | (simp; done) | (simp; omega) | (simp [size_plus]; done) | (simp [size_plus]; omega)) _)
    · have e : (le 32 (ofle l % ordN) == l) = false := by
        simp only [beq_eq_false_iff_ne, ne_eq]
        exact fun h => hp ((fromS_eq l hl).1 h)
      go_wp2_with fail
      refine bodyPost_ret (v := gotV (fromS l).1 (fromS l).2) (by rw [fromS, if_neg (fun h => hp h.2)]; simp [results, Try.results38, go_sem]; exact ⟨rfl, rfl, rfl, rfl⟩) rfl ⟨rfl, ?_⟩
      repeat (first | exact Below.refl _ _ | refine Below.setCell ?_ (by first | (simp; done) | (simp; omega) | (simp [size_plus]; done) | (simp [size_plus]; omega)) _ | refine Below.alloc ?_ (by first | (simp; done) | (simp; omega) | (simp [size_plus]; done) | (simp [size_plus]; omega)) _ | refine Below.drew ?_ | refine Below.plus ?_ (by first | (simp; done) | (simp; omega) | (simp [size_plus]; done) | (simp [size_plus]; omega)) _)
  · go_enter Try.func38, Try.ntmps38
    go_wp2_with fail
    refine bodyPost_ret (v := gotV (fromS l).1 (fromS l).2) (by rw [fromS, if_neg (fun h => hl h.1)]; simp [results, Try.results38, go_sem]; exact ⟨rfl, rfl, rfl, rfl⟩) rfl ⟨rfl, ?_⟩
    repeat (first | exact Below.refl _ _ | refine Below.setCell ?_ (by first | (simp; done) | (simp; omega) | (simp [size_plus]; done) | (simp [size_plus]; omega)) _ | refine Below.alloc ?_ (by first | (simp; done) | (simp; omega) | (simp [size_plus]; done) | (simp [size_plus]; omega)) _ | refine Below.drew ?_ | refine Below.plus ?_ (by first | (simp; done) | (simp; omega) | (simp [size_plus]; done) | (simp [size_plus]; omega)) _)
end Go.Proofs.Ytihbjlpohjohpaa
