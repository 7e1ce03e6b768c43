/- Walks: the field's product. -/
import Derived.Test.YtihbjlpohjohpaaFieldW1
import Derived.Test.YtihbjlpohjohpaaArr
namespace Go.Proofs.Ytihbjlpohjohpaa
open Go.RowKit
attribute [local go_sem] wrap_add mac_low mac_high

set_option maxHeartbeats 1000000 in
theorem mul64_any (x y : Nat) (hx : x < 18446744073709551616) (hy : y < 18446744073709551616) (w : World) : Calls Try.prog 45 #[.int .u64 x, .int .u64 y] w fun e w' => e = .returned (.tuple #[.int .u64 (mulH x y), .int .u64 (mulL x y)]) ∧ w = w' := by
  have hH : mulH x y = x * y / 18446744073709551616 := rfl
  have hL : mulL x y = x * y % 18446744073709551616 := rfl
  rw [hH, hL]
  clear hH hL
  obtain ⟨bd, bt, bw, hhi⟩ := Lib.mul64_hi x y hx hy
  have ba := Lib.half_mul_le (a := x / 4294967296) (b := y / 4294967296) (by omega) (by omega)
  have bb := Lib.half_mul_le (a := x / 4294967296) (b := y % 4294967296) (by omega) (by omega)
  have bc := Lib.half_mul_le (a := x % 4294967296) (b := y / 4294967296) (by omega) (by omega)
  have ba' : x / 4294967296 * (y / 4294967296) < 18446744073709551616 := by omega
  have bb' : x / 4294967296 * (y % 4294967296) < 18446744073709551616 := by omega
  have bc' : x % 4294967296 * (y / 4294967296) < 18446744073709551616 := by omega
  have bh1 : x / 4294967296 * (y / 4294967296) + (x / 4294967296 * (y % 4294967296) + x % 4294967296 * (y % 4294967296) / 4294967296) / 4294967296 < 18446744073709551616 := by omega
  have bh : x / 4294967296 * (y / 4294967296) + (x / 4294967296 * (y % 4294967296) + x % 4294967296 * (y % 4294967296) / 4294967296) / 4294967296 + ((x / 4294967296 * (y % 4294967296) + x % 4294967296 * (y % 4294967296) / 4294967296) % 4294967296 + x % 4294967296 * (y / 4294967296)) / 4294967296 < 18446744073709551616 := by omega
  go_enter Try.func45, Try.ntmps45
  go_wp2
  simp only [Mul64.maskN x hx, Mul64.maskN y hy, Mul64.divN, Mul64.mulN, Mul64.addN, Mul64.wrapN _ bd, Mul64.wrapN _ bb', Mul64.wrapN _ bt, Mul64.maskN _ bt, Mul64.wrapN _ bc', Mul64.wrapN _ bw, Mul64.wrapN _ ba', Mul64.wrapN _ bh1, Mul64.wrapN _ bh, Mul64.wrapM (x * y)]
  rw [hhi]
  go_ret2
  exact ⟨rfl, rfl⟩

theorem mul38_any (x : Nat) (hx : x < 18446744073709551616) (w : World) : Calls Try.prog 45 #[.int .u64 x, .int .u64 38] w fun e w' => e = .returned (.tuple #[.int .u64 (mulH x 38), .int .u64 (mulL x 38)]) ∧ w = w' := mul64_any x 38 hx (by omega) w

theorem more38_any (x : Nat) (w : World) : Ret Try.prog 46 #[numV x, .int .u64 38] w (.tuple #[numV (x + 38), .int .u64 (cy x 38 4)]) := more_any x 38 w
theorem norm_mod (x : Nat) (w : World) : Ret Try.prog 16 #[numV x] w (numV (x % B ^ 4 % Ar.pp)) := by
  rw [← numV_mod x]
  exact norm_any (x % B ^ 4) w (Nat.mod_lt _ (pow_B_pos 4))

/-- The row's cells. -/
def cellsU (l : List Nat) : Array Value := (l.map fun (n : Nat) => Value.int .u64 (n : Int)).toArray
theorem cellsU_get {l : List Nat} {j : Nat} (h : j < l.length) : (cellsU l)[j]? = some (.int .u64 ((l.getD j 0 : Nat) : Int)) := by
  simp [cellsU, h]
theorem cellsU_set (l : List Nat) (j v : Nat) : (cellsU l).setIfInBounds j (.int .u64 (v : Int)) = cellsU (l.set j v) := by
  simp [cellsU]
theorem cellsU_size (l : List Nat) : (cellsU l).size = l.length := by simp [cellsU]
theorem idxN {a i : Nat} (hi : i < 4) (w : World) : (Instr.index 24 (numV a) (.int .i64 (i : Int))).run Try.prog w = .ok (.int .u64 ((nw a i : Nat) : Int)) w := by
  match i, hi with
  | 0, _ => exact idx0 _ _ _ _ w
  | 1, _ => exact idx1 _ _ _ _ w
  | 2, _ => exact idx2 _ _ _ _ w
  | 3, _ => exact idx3 _ _ _ _ w

attribute [local go_sem] cellsU_set

set_option maxRecDepth 100000 in
set_option maxHeartbeats 1000000 in
theorem mul_any (a b : Nat) (w : World) (ha : a < B ^ 4) (hb : b < B ^ 4) : Ret Try.prog 14 #[numV a, numV b] w (numV (Ar.mulN a b)) := by
  refine Ret.of ?_
  go_enter Try.func14, Try.ntmps14
  go_wp2_with fail
  go_loopw [21] (fun v wr => ∃ i : Nat, i ≤ 4 ∧ v = .int .i64 i ∧ ∃ l : List Nat, l.length = 8 ∧ (∀ j, l.getD j 0 < B) ∧ (∀ j, i + 4 ≤ j → l.getD j 0 = 0) ∧ vl l = a % B ^ i * b ∧
      wr = (((w.alloc (.cells #[.int .u64 (nw a 0), .int .u64 (nw a 1), .int .u64 (nw a 2), .int .u64 (nw a 3)] 24)).alloc (.cells #[.int .u64 (nw b 0), .int .u64 (nw b 1), .int .u64 (nw b 2), .int .u64 (nw b 3)] 24)).alloc
        (.cells #[.int .u64 0, .int .u64 0, .int .u64 0, .int .u64 0] 24)).alloc (.cells (cellsU l) 56)) (fun v _ => 4 - (intOf v).toNat)
  case atStart =>
    refine ⟨0, by omega, rfl, [0, 0, 0, 0, 0, 0, 0, 0], rfl, fun j => ?_, fun j _ => ?_, by simp [vl, Nat.mod_one], rfl⟩
    · rcases j with _ | _ | _ | _ | _ | _ | _ | _ | j <;> exact B_pos
    · rcases j with _ | _ | _ | _ | _ | _ | _ | _ | j <;> rfl
  case round =>
    obtain ⟨i, hi, rfl, l, hlen, hlt, hz, hl, rfl⟩ := hrel
    by_cases h4 : i < 4
    · have hidx := fun W => idxN (a := a) h4 W
      have hd : decide ((i : Int) < 4) = true := by simp; omega
      have HL := Lib.hid hl
      have HZ := Lib.hid hz
      have HB := Lib.hid hlt
      clear hl hz hlt
      go_wp2_with fail
      go_loopw [26, 8] (fun v cv wr => ∃ k c : Nat, k ≤ 4 ∧ v = .int .i64 k ∧ cv = .int .u64 c ∧ c < 18446744073709551616 ∧ ∃ l' : List Nat, l'.length = 8 ∧ Hid ((∀ j, l'.getD j 0 < B) ∧ (∀ j, i + k ≤ j → l'.getD j 0 = l.getD j 0) ∧ vl l' + c * B ^ (i + k) = vl l + nw a i * (b % B ^ k) * B ^ i) ∧
          wr = ((((w.alloc (.cells #[.int .u64 (nw a 0), .int .u64 (nw a 1), .int .u64 (nw a 2), .int .u64 (nw a 3)] 24)).alloc (.cells #[.int .u64 (nw b 0), .int .u64 (nw b 1), .int .u64 (nw b 2), .int .u64 (nw b 3)] 24)).alloc (.cells #[.int .u64 0, .int .u64 0, .int .u64 0, .int .u64 0] 24)).alloc (.cells (cellsU l') 56))) (fun v _ _ => 4 - (intOf v).toNat)
      case atStart =>
        exact ⟨0, 0, by omega, rfl, rfl, by omega, l, hlen, ⟨HB.out, fun j _ => rfl, by simp [Nat.mod_one]⟩, rfl⟩
      case round =>
        obtain ⟨k, c, hk, rfl, rfl, hc, l', hlen', HR, rfl⟩ := hrel
        by_cases hk4 : k < 4
        · have hidx2 := fun W => idxN (a := b) hk4 W
          have hik : i + k < l'.length := by omega
          have hget := cellsU_get hik
          have hik8 : (i : Int) + (k : Int) < 8 := by omega
          have hB1 := nw_lt' a i
          have hB2 := nw_lt' b k
          go_wp2_with fail
          refine (mul64_any _ _ hB1 hB2 _).mono ?_
          rintro _ _ ⟨rfl, rfl⟩
          go_wp2_with fail
          go_roundw
          case rel =>
            obtain ⟨h1, h2, h3⟩ := HR.out
            refine ⟨k + 1, macH (nw a i) (nw b k) c (l'.getD (i + k) 0), by omega, by go_num, rfl, macH_lt _ _ _ _, l'.set (i + k) (macL (nw a i) (nw b k) c (l'.getD (i + k) 0)), by simpa using hlen', ⟨set_lt h1 (macL_lt _ _ _ _), fun j hj => ?_, mul_step hlen' (by omega) hc (h1 _) h3⟩, rfl⟩
            rw [set_far j (by omega)]
            exact h2 j (by omega)
          case measure => simp [intOf]; omega
        · obtain rfl : k = 4 := by omega
          clear hk4
          have hi8 : (i : Int) + 4 < 8 := by omega
          have hget := cellsU_get (show i + 4 < l'.length by omega)
          go_wp2_with fail
          go_roundw
          case rel =>
            obtain ⟨h1, h2, h3⟩ := HR.out
            refine ⟨i + 1, by omega, by go_num, l'.set (i + 4) c, by simpa using hlen', set_lt h1 hc, fun j hj => ?_, mul_row hb hlen' h4 (by rw [h2 _ (Nat.le_refl _)]; exact HZ.out _ (Nat.le_refl _)) HL.out h3, rfl⟩
            rw [set_far j (by omega), h2 j (by omega)]
            exact HZ.out j (by omega)
          case measure => simp [intOf]; omega
    · obtain rfl : i = 4 := by omega
      clear h4
      obtain ⟨l0, l1, l2, l3, l4, l5, l6, l7, rfl⟩ : ∃ l0 l1 l2 l3 l4 l5 l6 l7, l = [l0, l1, l2, l3, l4, l5, l6, l7] := by
        rcases l with _ | ⟨l0, _ | ⟨l1, _ | ⟨l2, _ | ⟨l3, _ | ⟨l4, _ | ⟨l5, _ | ⟨l6, _ | ⟨l7, _ | ⟨l8, l⟩⟩⟩⟩⟩⟩⟩⟩⟩ <;> simp at hlen
        exact ⟨l0, l1, l2, l3, l4, l5, l6, l7, rfl⟩
      have hlt0 := hlt 0
      have hlt1 := hlt 1
      have hlt2 := hlt 2
      have hlt3 := hlt 3
      have hlt4 := hlt 4
      have hlt5 := hlt 5
      have hlt6 := hlt 6
      have hlt7 := hlt 7
      simp only [List.getD_cons_zero, List.getD_cons_succ] at hlt0 hlt1 hlt2 hlt3 hlt4 hlt5 hlt6 hlt7
      clear hlt hz hlen hi
      have HL := Lib.hid hl
      clear hl
      simp only [cellsU, List.map_cons, List.map_nil]
      go_wp2_with fail
      refine wp_loop_rounds 5 ?_
      rw [rounds_succ]
      go_wp2_with fail
      refine (mul38_any l4 hlt4 _).mono ?_
      rintro _ _ ⟨rfl, rfl⟩
      go_wp2_with fail
      rw [rounds_succ]
      go_wp2_with fail
      refine (mul38_any l5 hlt5 _).mono ?_
      rintro _ _ ⟨rfl, rfl⟩
      go_wp2_with fail
      rw [rounds_succ]
      go_wp2_with fail
      refine (mul38_any l6 hlt6 _).mono ?_
      rintro _ _ ⟨rfl, rfl⟩
      go_wp2_with fail
      rw [rounds_succ]
      go_wp2_with fail
      refine (mul38_any l7 hlt7 _).mono ?_
      rintro _ _ ⟨rfl, rfl⟩
      go_wp2_with fail
      rw [rounds_succ]
      go_wp2_with fail
      have hfold := fold_eq (f := 38) hlt0 hlt1 hlt2 hlt3 hlt4 hlt5 hlt6 hlt7 (by decide) rfl rfl rfl rfl rfl rfl rfl rfl
      have hL := HL.out
      rw [vl_eight, Nat.mod_eq_of_lt ha] at hL
      have hlow := ofw_lt hlt0 hlt1 hlt2 hlt3
      have hhigh := ofw_lt hlt4 hlt5 hlt6 hlt7
      have hmod := fold_mod hL.symm
      rw [← hfold.1] at hmod
      have hc38 := carry_small hlow hhigh hfold.1
      have hmod := carry_mod hmod
      have hN := hfold.2
      have hw := ofw_words (macL_lt l4 38 0 l0) (macL_lt l5 38 (macH l4 38 0 l0) l1) (macL_lt l6 38 (macH l5 38 (macH l4 38 0 l0) l1) l2) (macL_lt l7 38 (macH l6 38 (macH l5 38 (macH l4 38 0 l0) l1) l2) l3)
      clear hfold hL hlow hhigh HL
      generalize macL l4 38 0 l0 = w0 at *
      generalize macL l5 38 (macH l4 38 0 l0) l1 = w1 at *
      generalize macL l6 38 (macH l5 38 (macH l4 38 0 l0) l1) l2 = w2 at *
      generalize macL l7 38 (macH l6 38 (macH l5 38 (macH l4 38 0 l0) l1) l2) l3 = w3 at *
      generalize macH l7 38 (macH l6 38 (macH l5 38 (macH l4 38 0 l0) l1) l2) l3 = c at *
      generalize ofw w0 w1 w2 w3 = n at *
      obtain ⟨rfl, rfl, rfl, rfl⟩ := hw
      have HM := Lib.hid hmod
      clear hmod
      have hw38 : IntKind.u64.wrap ((c : Int) * 38) = ((c * 38 : Nat) : Int) := by rw [show ((c : Int) * 38) = ((c * 38 : Nat) : Int) by omega]; exact wrap_u64_nat _ (by omega)
      by_cases hc0 : 0 < c
      · have hc0' : (0 : Int) < (c : Int) := by omega
        have hsome := fun h => cy_some hN hc38 h
        have hnone := fun h => cy_none (m := c * 38) hN h
        have HS := Lib.hid hsome
        have HNo := Lib.hid hnone
        clear hsome hnone
        refine wp_loop_rounds 3 ?_
        rw [rounds_succ]
        go_wp2_with fail
        refine (more_any n (c * 38) _).out.mono ?_
        rintro _ _ ⟨rfl, x1, rfl⟩
        clear hw38
        go_wp2_with fail
        by_cases hc1 : 0 < cy n (c * 38) 4
        · obtain ⟨g1, g2, g3, g4⟩ := HS.out hc1
          have G2 := Lib.hid g2
          clear g2 hc1
          rw [g1]
          clear g1
          rw [rounds_succ]
          go_wp2_with fail
          refine (more38_any (n + c * 38) _).out.mono ?_
          rintro _ _ ⟨rfl, x2, rfl⟩
          go_wp2_with fail
          rw [rounds_succ]
          go_wp2_with fail
          refine (norm_mod (n + c * 38 + 38) _).out.mono ?_
          rintro _ _ ⟨rfl, x3, rfl⟩
          go_wp2_with fail
          refine bodyPost_ret (v := numV ((n + c * 38 + 38) % B ^ 4 % Ar.pp)) (by simp [results, Try.results14, go_sem]) rfl ⟨?_, ?_⟩
          · have g2 := G2.out
            have hM : (n + c * 38 + 38) % B ^ 4 = n + c * 38 + 38 - B ^ 4 := by rw [Nat.mod_eq_sub_mod (by omega), Nat.mod_eq_of_lt g4]
            rw [hM, fold_again (by omega) HM.out]; rfl
          repeat (first | exact Below.refl _ _ | refine Below.setCell ?_ (by first | (simp; done) | (simp; omega) | (simp [size_plus]; done) | (simp [size_plus]; omega)) _ | refine Below.alloc ?_ (by first | (simp; done) | (simp; omega) | (simp [size_plus]; done) | (simp [size_plus]; omega)) _ | refine Below.drew ?_ | refine Below.plus ?_ (by first | (simp; done) | (simp; omega) | (simp [size_plus]; done) | (simp [size_plus]; omega)) _)
        · have hc1' : ¬ (0 : Int) < (cy n (c * 38) 4 : Int) := by omega
          have hlt := HNo.out hc1
          rw [rounds_succ]
          go_wp2_with fail
          refine (norm_any (n + c * 38) _ hlt).out.mono ?_
          rintro _ _ ⟨rfl, x2, rfl⟩
          go_wp2_with fail
          refine bodyPost_ret (v := numV ((n + c * 38) % Ar.pp)) (by simp [results, Try.results14, go_sem]) rfl ⟨by rw [HM.out]; rfl, ?_⟩
          repeat (first | exact Below.refl _ _ | refine Below.setCell ?_ (by first | (simp; done) | (simp; omega) | (simp [size_plus]; done) | (simp [size_plus]; omega)) _ | refine Below.alloc ?_ (by first | (simp; done) | (simp; omega) | (simp [size_plus]; done) | (simp [size_plus]; omega)) _ | refine Below.drew ?_ | refine Below.plus ?_ (by first | (simp; done) | (simp; omega) | (simp [size_plus]; done) | (simp [size_plus]; omega)) _)
      · obtain rfl : c = 0 := by omega
        refine wp_loop_rounds 1 ?_
        rw [rounds_succ]
        go_wp2_with fail
        refine (norm_any n _ hN).out.mono ?_
        rintro _ _ ⟨rfl, x2, rfl⟩
        go_wp2_with fail
        refine bodyPost_ret (v := numV (n % Ar.pp)) (by simp [results, Try.results14, go_sem]) rfl ⟨by have h := HM.out; rw [Nat.zero_mul, Nat.add_zero] at h; rw [h]; rfl, ?_⟩
        repeat (first | exact Below.refl _ _ | refine Below.setCell ?_ (by first | (simp; done) | (simp; omega) | (simp [size_plus]; done) | (simp [size_plus]; omega)) _ | refine Below.alloc ?_ (by first | (simp; done) | (simp; omega) | (simp [size_plus]; done) | (simp [size_plus]; omega)) _ | refine Below.drew ?_ | refine Below.plus ?_ (by first | (simp; done) | (simp; omega) | (simp [size_plus]; done) | (simp [size_plus]; omega)) _)
end Go.Proofs.Ytihbjlpohjohpaa
