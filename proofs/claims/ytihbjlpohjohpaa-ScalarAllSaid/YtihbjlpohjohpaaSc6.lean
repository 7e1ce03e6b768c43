/- Walks: a product and a number, modulo the order. -/
import Derived.Test.YtihbjlpohjohpaaSc5
namespace Go.Proofs.Ytihbjlpohjohpaa
open Go.RowKit Go.Shelf
attribute [local go_sem] wrap_add mac_low mac_high

/-- A carry on. -/
theorem carry_step {l : List Nat} {k c T : Nat} (hk : k < l.length) (h : vl l + c * B ^ k = T) :
    vl (l.set k (addS (l.getD k 0) c 0)) + addC (l.getD k 0) c 0 * B ^ (k + 1) = T := by
  have h1 := vl_set l k (addS (l.getD k 0) c 0) hk
  generalize l.getD k 0 = z at *
  have h2 : addS z c 0 + B * addC z c 0 = z + c := by
    unfold addS addC
    rw [Nat.add_zero, Nat.mod_add_div]
  have h3 : (addS z c 0 + B * addC z c 0) * B ^ k = (z + c) * B ^ k := by rw [h2]
  have e2 : addC z c 0 * B ^ (k + 1) = B * addC z c 0 * B ^ k := by rw [Nat.pow_succ]; grind
  rw [Nat.add_mul, Nat.add_mul] at h3
  rw [e2]
  omega
theorem vl_words : ∀ (L : List Nat), (∀ j, L.getD j 0 < B) → ∀ j, j < L.length → nw (vl L) j = L.getD j 0
  | x :: r, h, 0, _ => by
    have h0 : x < B := h 0
    rw [nw_zero, vl, Nat.add_mul_mod_self_left, Nat.mod_eq_of_lt h0]
    rfl
  | x :: r, h, j + 1, hj => by
    have h0 : x < B := h 0
    rw [nw_succ, vl, Nat.add_mul_div_left _ _ B_pos, Nat.div_eq_of_lt h0, Nat.zero_add, vl_words r (fun j => h (j + 1)) j (by simpa using hj)]
    rfl
theorem list8 {α : Type} (l : List α) (h : l.length = 8) : ∃ a0 a1 a2 a3 a4 a5 a6 a7, l = [a0, a1, a2, a3, a4, a5, a6, a7] := by
  match l, h with
  | [a0, a1, a2, a3, a4, a5, a6, a7], _ => exact ⟨a0, a1, a2, a3, a4, a5, a6, a7, rfl⟩
theorem cells_words8 {L : List Nat} (hl : L.length = 8) (h : ∀ j, L.getD j 0 < B) : cellsU L = words8 (vl L) := by
  have hw := vl_words L h
  obtain ⟨a0, a1, a2, a3, a4, a5, a6, a7, rfl⟩ := list8 L hl
  have w0 := hw 0 (by simp)
  have w1 := hw 1 (by simp)
  have w2 := hw 2 (by simp)
  have w3 := hw 3 (by simp)
  have w4 := hw 4 (by simp)
  have w5 := hw 5 (by simp)
  have w6 := hw 6 (by simp)
  have w7 := hw 7 (by simp)
  simp only [List.getD_cons_zero, List.getD_cons_succ] at w0 w1 w2 w3 w4 w5 w6 w7
  unfold words8
  rw [w0, w1, w2, w3, w4, w5, w6, w7]
  rfl
theorem words8_cells {c : Nat} (hc : c < B ^ 4) : words8 c = cellsU [nw c 0, nw c 1, nw c 2, nw c 3, 0, 0, 0, 0] ∧ vl [nw c 0, nw c 1, nw c 2, nw c 3, 0, 0, 0, 0] = c ∧ ∀ j, [nw c 0, nw c 1, nw c 2, nw c 3, 0, 0, 0, 0].getD j 0 < B := by
  refine ⟨by rw [words8_low hc]; rfl, by rw [vl_eight, ofw_nw hc]; simp [ofw], fun j => ?_⟩
  rcases j with _ | _ | _ | _ | _ | _ | _ | _ | j <;> first | exact nw_lt _ _ | exact B_pos
theorem prod_lt {a b c : Nat} (ha : a < B ^ 4) (hb : b < B ^ 4) (hc : c < B ^ 4) : a * b + c < B ^ 8 := by
  have h1 : a * b ≤ (B ^ 4 - 1) * (B ^ 4 - 1) := Nat.mul_le_mul (by omega) (by omega)
  have h2 : (B ^ 4 - 1) * (B ^ 4 - 1) + B ^ 4 < B ^ 8 := by decide +kernel
  omega
theorem prod_low {a b c i : Nat} (ha : a < B ^ 4) (hb : b < B ^ 4) (hc : c < B ^ 4) : a % B ^ i * b + c < B ^ 8 := prod_lt (Nat.lt_of_le_of_lt (Nat.mod_le _ _) ha) hb hc
theorem row_next {a b c i S : Nat} (hb : b < B ^ 4) (hS : S = a % B ^ i * b + c) : S + nw a i * (b % B ^ 4) * B ^ i = a % B ^ (i + 1) * b + c := by
  rw [hS, pow_split a i, Nat.add_mul, Nat.mod_eq_of_lt hb]
  have : B ^ i * nw a i * b = nw a i * b * B ^ i := by grind
  omega
theorem carry_none {x c : Nat} (h : x + c * B ^ 8 < B ^ 8) : c = 0 := by
  rcases Nat.eq_zero_or_pos c with h1 | h1
  · exact h1
  · have := Nat.mul_le_mul_right (B ^ 8) h1
    omega
theorem addC_le {z c : Nat} (hz : z < B) (hc : c < B) : addC z c 0 < B := by
  unfold addC B at *
  omega

/-- What the product stands upon. -/
abbrev maBase (w : World) (a b c : Nat) : World := (((w.alloc (.cells (wordsOf a) 24)).alloc (.cells (wordsOf b) 24)).alloc (.cells (wordsOf c) 24)).alloc (.cells z4 24)

set_option maxRecDepth 100000 in
set_option maxHeartbeats 1000000 in
theorem mulAdd_any (a b c : Nat) (w : World) (ha : a < B ^ 4) (hb : b < B ^ 4) (hc : c < B ^ 4) : Ret Try.prog 34 #[numV a, numV b, numV c] w (numV ((a * b + c) % ordN)) := by
  refine Ret.of ?_
  go_enter Try.func34, Try.ntmps34
  go_wp2_with fail
  refine wp_region_plain 4 99 mixed (by kernel_rfl) (by kernel_rfl) rfl (fun _ _ _ _ _ h => h) ?_
  simp only [List.take_succ_cons, List.take_zero, List.drop_succ_cons, List.drop_zero]
  repeat (first | (refine wpHead_skip rfl ?_) | (refine wpHead_run rfl rfl (fun K hK => ?_); go_simp; first | (refine hK _ ?_; clear hK K) | (apply Exists.intro; refine ⟨fun _ => ?_, hK _ ?_⟩; (fail); clear hK K)))
  refine wpHead_nil ?_
  intro zz x1
  clear zz
  have hcp := copy_num (maBase w a b c) x1 (w.heap.size + 1 + 1) c hc (by
    have := heap_new ((w.alloc (.cells (wordsOf a) 24)).alloc (.cells (wordsOf b) 24)) (.cells (wordsOf c) 24)
    rw [Below.heap_alloc _ _ _ (by simp)]
    simpa using this)
  simp only [World.size_alloc] at hcp
  go_wp2_with fail
  clear hcp
  obtain ⟨hw8, hv8, hB8⟩ := words8_cells hc
  rw [hw8]
  have HC := Lib.hid hc
  clear hw8 hc
  go_loopw [25] (fun v wr => ∃ i : Nat, i ≤ 4 ∧ v = .int .i64 i ∧ ∃ l : List Nat, l.length = 8 ∧ Hid (∀ j, l.getD j 0 < B) ∧ Hid (vl l = a % B ^ i * b + c) ∧ ∃ x : Ext, wr = plus ((maBase w a b c).alloc (.cells (cellsU l) 66)) x) (fun v _ => 4 - (intOf v).toNat)
  case atStart => exact ⟨0, by omega, rfl, _, rfl, hB8, by rw [Nat.pow_zero, Nat.mod_one, Nat.zero_mul, Nat.zero_add]; exact hv8, x1, rfl⟩
  case round =>
    clear hv8 hB8 x1
    obtain ⟨i, hi, rfl, l, hlen, HB, HL, x, rfl⟩ := hrel
    by_cases h4 : i < 4
    · have hidx := fun W => idxN (a := a) h4 W
      have hd : decide ((i : Int) < 4) = true := by simp; omega
      have HA := Lib.hid (prod_low (i := i + 1) ha hb HC.out)
      go_wp2_with fail
      go_loopw [30, 10] (fun v cv wr => ∃ k d : Nat, k ≤ 4 ∧ v = .int .i64 k ∧ cv = .int .u64 d ∧ d < 18446744073709551616 ∧ ∃ l' : List Nat, l'.length = 8 ∧ Hid ((∀ j, l'.getD j 0 < B) ∧ vl l' + d * B ^ (i + k) = vl l + nw a i * (b % B ^ k) * B ^ i) ∧ ∃ x : Ext, wr = plus ((maBase w a b c).alloc (.cells (cellsU l') 66)) x) (fun v _ _ => 4 - (intOf v).toNat)
      case atStart =>
        exact ⟨0, 0, by omega, rfl, rfl, by omega, l, hlen, ⟨HB.out, by simp [Nat.mod_one]⟩, x, rfl⟩
      case round =>
        obtain ⟨k, d, hk, rfl, rfl, hcd, l', hlen', HR, x, rfl⟩ := hrel
        by_cases hk4 : k < 4
        · have hidx2 := fun W => idxN (a := b) hk4 W
          have hd2 : decide ((k : Int) < 4) = true := by simp; omega
          have hik : i + k < l'.length := by omega
          have hget := cellsU_get hik
          have hik8 : (i : Int) + (k : Int) < 8 := by omega
          have hB1 := nw_lt' a i
          have hB2 := nw_lt' b k
          go_wp2_with fail
          refine (mul64_any _ _ hB1 hB2 _).mono ?_
          rintro _ _ ⟨rfl, rfl⟩
          go_wp2_with fail
          go_roundw
          case rel =>
            obtain ⟨h1, h3⟩ := HR.out
            exact ⟨k + 1, macH (nw a i) (nw b k) d (l'.getD (i + k) 0), by omega, by go_num, rfl, macH_lt _ _ _ _, l'.set (i + k) (macL (nw a i) (nw b k) d (l'.getD (i + k) 0)), by simpa using hlen', ⟨set_lt h1 (macL_lt _ _ _ _), mul_step hlen' (by omega) hcd (h1 _) h3⟩, x, by rw [cellsU_set, List.getD_eq_getElem?_getD]⟩
          case measure => simp [intOf]; omega
        · obtain rfl : k = 4 := by omega
          clear hk4
          have HN := Lib.hid (row_next (i := i) hb HL.out)
          rw [show ((4 : Nat) : Int) = 4 from rfl]
          go_wp2_with fail
          have HT := Lib.hid (show vl l' + d * B ^ (i + 4) = a % B ^ (i + 1) * b + c from HR.out.2.trans HN.out)
          have HB' := Lib.hid HR.out.1
          clear HR HN
          generalize hT : a % B ^ (i + 1) * b + c = T at *
          have HTT := Lib.hid hT
          clear hT
          go_loopw [10, 16] (fun cv v wr => ∃ k d : Nat, i + 4 ≤ k ∧ k ≤ 8 ∧ v = .int .i64 k ∧ cv = .int .u64 d ∧ d < 18446744073709551616 ∧ ∃ l' : List Nat, l'.length = 8 ∧ Hid ((∀ j, l'.getD j 0 < B) ∧ vl l' + d * B ^ k = T) ∧ ∃ x : Ext, wr = plus ((maBase w a b c).alloc (.cells (cellsU l') 66)) x) (fun _ v _ => 8 - (intOf v).toNat)
          case atStart =>
            exact ⟨i + 4, d, by omega, by omega, by go_num, rfl, hcd, l', hlen', ⟨HB'.out, HT.out⟩, x, rfl⟩
          case round =>
            clear HT HB' hlen' hcd
            obtain ⟨k, d, hk4, hk8, rfl, rfl, hcd, l', hlen', HR, x, rfl⟩ := hrel
            by_cases hd0 : 0 < d
            · by_cases hk : k < 8
              · have hd1 : (0 : Int) < (d : Int) := by omega
                have hd2 : decide ((k : Int) < 8) = true := by simp; omega
                have hkk : (k : Int) < 8 := by omega
                have hget := cellsU_get (show k < l'.length by omega)
                obtain ⟨z, hz⟩ : ∃ z, l'.getD k 0 = z := ⟨_, rfl⟩
                rw [hz] at hget
                have HZ := Lib.hid hz
                clear hz
                have hadd := fun W => add64z z d W
                go_wp2_with fail
                refine wp_region_plain 14 99 mixed (by kernel_rfl) (by kernel_rfl) rfl (fun _ _ _ _ _ h => h) ?_
                simp only [List.take_succ_cons, List.take_zero, List.drop_succ_cons, List.drop_zero]
                repeat (first | (refine wpHead_skip rfl ?_) | (refine wpHead_run rfl rfl (fun K hK => ?_); go_simp; first | (refine hK _ ?_; clear hK K) | (apply Exists.intro; refine ⟨fun _ => ?_, hK _ ?_⟩; (fail); clear hK K)))
                refine wpHead_nil ?_
                intro zz y
                clear zz
                go_wp2_with fail
                go_roundw
                case rel =>
                  obtain ⟨h1, h3⟩ := HR.out
                  have hzB := h1 k
                  have hcs := carry_step (show k < l'.length by omega) h3
                  rw [HZ.out] at hzB hcs
                  exact ⟨k + 1, addC z d 0, by omega, by omega, by go_num, rfl, addC_le hzB hcd, l'.set k (addS z d 0), by simpa using hlen', ⟨set_lt h1 (Nat.mod_lt _ B_pos), hcs⟩, ⟨x.blocks ++ y.blocks, y.draws⟩, by rw [plus_plus, cellsU_set]⟩
                case measure => simp [intOf]; omega
              · obtain rfl : k = 8 := by omega
                exfalso
                have h3 := HR.out.2
                rw [← h3] at HA
                have := carry_none HA.out
                omega
            · obtain rfl : d = 0 := by omega
              clear hd0
              go_wp2_with fail
              go_roundw
              case rel =>
                obtain ⟨h1, h3⟩ := HR.out
                exact ⟨i + 1, by omega, by go_num, l', hlen', h1, Lib.hid (by rw [HTT.out, ← h3, Nat.zero_mul, Nat.add_zero]), x, rfl⟩
              case measure => simp [intOf]; omega
    · obtain rfl : i = 4 := by omega
      clear h4
      have hb8 : vl l < B ^ 8 := by rw [HL.out]; exact prod_low ha hb HC.out
      have hv : vl l = a * b + c := by rw [HL.out, Nat.mod_eq_of_lt ha]
      rw [cells_words8 hlen HB.out]
      generalize vl l = T at *
      have HV := Lib.hid hv
      clear hv HL HB
      go_wp2_with fail
      refine (modulo_any T (w.heap.size + 1 + 1 + 1 + 1) _ hb8 (by rw [heap_plus x (by unfold has; simp)]; have := heap_new (maBase w a b c) (.cells (words8 T) 66); simpa using this)).out.mono ?_
      rintro _ _ ⟨rfl, x2, rfl⟩
      go_wp2_with fail
      refine bodyPost_ret (v := numV (T % ordN)) (by simp [results, Try.results34, go_sem]) rfl ⟨by rw [HV.out], ?_⟩
      repeat (first | exact Below.refl _ _ | refine Below.setCell ?_ (by first | (simp; done) | (simp; omega) | (simp [size_plus]; done) | (simp [size_plus]; omega)) _ | refine Below.alloc ?_ (by first | (simp; done) | (simp; omega) | (simp [size_plus]; done) | (simp [size_plus]; omega)) _ | refine Below.drew ?_ | refine Below.plus ?_ (by first | (simp; done) | (simp; omega) | (simp [size_plus]; done) | (simp [size_plus]; omega)) _)
end Go.Proofs.Ytihbjlpohjohpaa
