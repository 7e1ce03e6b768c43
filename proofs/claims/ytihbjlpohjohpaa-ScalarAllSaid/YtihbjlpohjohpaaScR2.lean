/- Walks: the reference's product and sum modulo the order. -/
import Derived.Test.YtihbjlpohjohpaaScR1
import Derived.Test.YtihbjlpohjohpaaSc7
namespace Go.Proofs.Ytihbjlpohjohpaa
open Go.RowKit

def IsRow (L : List Nat) (n : Nat) : Prop := L.length = 16 ∧ (∀ j, L.getD j 0 < H) ∧ vh L = n
theorem IsRow.one {L M : List Nat} {n : Nat} (h : IsRow L n) (k : IsRow M n) : L = M := by
  rw [← hd_vh L h.2.1, ← hd_vh M k.2.1, h.1, k.1, h.2.2, k.2.2]
open Classical in
/-- The sixteen half words of a number. -/
noncomputable def rowN (n : Nat) : List Nat := if h : ∃ L, IsRow L n then Classical.choose h else []
theorem rowN_is {L : List Nat} {n : Nat} (h : IsRow L n) : rowN n = L := by
  unfold rowN
  rw [dif_pos ⟨L, h⟩]
  exact (Classical.choose_spec (⟨L, h⟩ : ∃ L, IsRow L n)).one h
theorem mulRow_ret (a b : Nat) (w : World) (ha : a < B ^ 4) (hb : b < B ^ 4) : Ret Try.prog 56 #[numV a, numV b] w (.agg (cellsU (rowN (a * b)))) := by
  refine Ret.of ((mulRow_any a b w ha hb).mono ?_)
  rintro e w' ⟨⟨L, h1, h2, h3, rfl⟩, h5⟩
  exact ⟨by rw [rowN_is ⟨h1, h2, h3⟩], h5⟩
theorem rowN_row {n : Nat} (h : n < H ^ 16) : IsRow (rowN n) n := by
  have hr : IsRow (hd 16 n) n := ⟨hd_length 16 n, hd_lt 16 n, by rw [vh_hd, Nat.mod_eq_of_lt h]⟩
  rw [rowN_is hr]
  exact hr
theorem alloc63 (o : Oper) (ho : o.op = .alloc 63) (ρ : Operand → Value) (w : World) : (execOp ρ o).run Try.prog w = .ok (.value (.pointer (some ⟨w.heap.size, 0, none⟩))) (w.alloc (.cells (cellsU zero16) 63)) := by
  obtain ⟨dst, op, type, pos, after, guard⟩ := o
  dsimp only at ho
  subst ho
  simp [execOp, go_sem, cellsU, zero16]
/-- A bit of a row. -/
theorem vh_bit (L : List Nat) (hL : ∀ j, L.getD j 0 < H) : ∀ i, i < 32 * L.length → vh L / 2 ^ i % 2 = L.getD (i / 32) 0 / 2 ^ (i % 32) % 2 := by
  induction L with
  | nil => intro i hi; simp at hi
  | cons x r ih =>
    intro i hi
    have hx : x < H := hL 0
    have hH : H = 2 ^ 32 := rfl
    by_cases h : i < 32
    · rw [Nat.div_eq_of_lt h, Nat.mod_eq_of_lt h, vh, List.getD_cons_zero]
      have e : H = 2 ^ i * (2 * 2 ^ (31 - i)) := by rw [hH, ← Nat.pow_succ', ← Nat.pow_add]; congr 1; omega
      rw [e, Nat.mul_assoc, Nat.add_mul_div_left _ _ (Nat.pow_pos (by omega)), Nat.mul_assoc, Nat.add_mul_mod_self_left]
    · have ihr := ih (fun j => hL (j + 1)) (i - 32) (by simp only [List.length_cons] at hi; omega)
      rw [show i / 32 = (i - 32) / 32 + 1 by omega, show i % 32 = (i - 32) % 32 by omega, List.getD_cons_succ, ← ihr, vh]
      have e : 2 ^ i = H * 2 ^ (i - 32) := by rw [hH, ← Nat.pow_add]; congr 1; omega
      rw [e, ← Nat.div_div_eq_div_mul, Nat.add_mul_div_left _ _ H_pos, Nat.div_eq_of_lt hx, Nat.zero_add]
theorem bit_u64 (x j : Nat) (hx : x < B) : bits BinOp.and IntKind.u64 ((x : Int) / 2 ^ j) 1 = ((x / 2 ^ j % 2 : Nat) : Int) := by
  have h := Nat.div_le_self x (2 ^ j)
  have e : (x : Int) / 2 ^ j = ((x / 2 ^ j : Nat) : Int) := by simp
  rw [e, show (1 : Int) = ((1 : Nat) : Int) from rfl, bits_and_u64_nat _ 1 (by unfold B at hx; omega) (by omega), Nat.and_one_is_mod]

set_option maxRecDepth 100000 in
set_option maxHeartbeats 2000000 in
theorem mulAddR_any (a b c : Nat) (w : World) (ha : a < B ^ 4) (hb : b < B ^ 4) (hc : c < B ^ 4) : Ret Try.prog 41 #[numV a, numV b, numV c] w (numV (maN a b c)) := by
  refine Ret.of ?_
  have e0 : (#[.int .u64 0, .int .u64 0, .int .u64 0, .int .u64 0] : Array Value) = wordsOf 0 := by kernel_rfl
  have HE0 := Lib.hid e0
  clear e0
  obtain ⟨m, hm⟩ : ∃ m, a % ordN = m := ⟨_, rfl⟩
  obtain ⟨n, hn⟩ : ∃ n, b % ordN = n := ⟨_, rfl⟩
  obtain ⟨k, hk⟩ : ∃ k, c % ordN = k := ⟨_, rfl⟩
  have k1 := fun W => hm ▸ moduloR_any a W ha
  have k2 := fun W => hn ▸ moduloR_any b W hb
  have k3 := fun W => hk ▸ moduloR_any c W hc
  have hmo : m < ordN := hm ▸ Nat.mod_lt _ ordN_pos
  have hno : n < ordN := hn ▸ Nat.mod_lt _ ordN_pos
  have hko : k < ordN := hk ▸ Nat.mod_lt _ ordN_pos
  have hm4 : m < B ^ 4 := Nat.lt_trans hmo ordN_lt
  have hn4 : n < B ^ 4 := Nat.lt_trans hno ordN_lt
  have hres : maN a b c = (m * n % ordN + k) % ordN := by
    unfold maN
    rw [← hm, ← hn, ← hk, ← Nat.mul_mod, ← Nat.add_mod]
  have hmul : m * n < H ^ 16 := by
    have h1 : m * n ≤ ordN * ordN := Nat.mul_le_mul (by omega) (by omega)
    have h2 : ordN * ordN < H ^ 16 := by decide +kernel
    omega
  have k4 := fun W => mulRow_ret m n W hm4 hn4
  have hrow := rowN_row hmul
  generalize rowN (m * n) = L at k4 hrow
  obtain ⟨hL, hLH, hLv⟩ := hrow
  have HRES := Lib.hid hres
  have HLH := Lib.hid hLH
  have HLV := Lib.hid hLv
  have HN0 := Lib.hid (show m * n / 2 ^ 512 = 0 from Nat.div_eq_of_lt (by rw [show (2 : Nat) ^ 512 = H ^ 16 by decide +kernel]; exact hmul))
  clear hres hLH hLv hmul hm hn hk
  obtain ⟨l0, l1, l2, l3, l4, l5, l6, l7, l8, l9, la, lb, lc, ld, le', lf, hLe⟩ := list16 L hL
  have HLE := Lib.hid hLe
  rw [hLe] at k4
  simp only [cellsU, List.map_cons, List.map_nil] at k4
  clear hLe
  go_enter Try.func41, Try.ntmps41
  go_wp2_with fail
  refine wp_region_one 6 40 5 7 63 _ mixed (by kernel_rfl) (by kernel_rfl) rfl alloc63 (fun _ _ _ _ _ h => h) ?_
  simp only [List.take_succ_cons, List.take_zero, List.drop_succ_cons, List.drop_zero]
  repeat (first | (refine wpHead_skip rfl ?_) | (refine wpHead_run rfl rfl (fun K hK => ?_); go_simp; first | (refine hK _ ?_; clear hK K) | (apply Exists.intro; refine ⟨fun _ => ?_, hK _ ?_⟩; (with_reducible first | exact k1 _ | exact k2 _ | exact k4 _); clear hK K)))
  refine wpHead_nil ?_
  intro zz x1 x2
  clear zz
  simp only [cellsU, zero16, List.map_cons, List.map_nil]
  go_wp2_with fail
  obtain ⟨N, hN⟩ : ∃ N, m * n = N := ⟨_, rfl⟩
  rw [hN] at HN0 HLV HRES
  clear hN
  go_loopw [9] (fun v wr => ∃ i : Nat, i ≤ 512 ∧ v = .int .i64 ((i : Int) - 1) ∧ ∃ V : Nat, V < ordN ∧ Hid (V = N / 2 ^ i % ordN) ∧ ∃ x : Ext,
    wr = plus ((plus ((plus ((((w.alloc (.cells (wordsOf a) 24)).alloc (.cells (wordsOf b) 24)).alloc (.cells (wordsOf c) 24)).alloc (.cells #[.int .u64 0, .int .u64 0, .int .u64 0, .int .u64 0] 24)) x1).alloc (.cells (cellsU L) 63)) x2).alloc (.cells (wordsOf V) 24)) x) (fun v _ => (intOf v + 1).toNat)
  case atStart => exact ⟨512, by omega, by go_num, 0, ordN_pos, by rw [HN0.out]; exact (Nat.zero_mod _).symm, _, by rw [← HE0.out, HLE.out]; exact (plus_none _).symm⟩
  case round =>
    obtain ⟨i, hi, rfl, V, hV, HV, x, rfl⟩ := hrel
    have hV4 : V < B ^ 4 := Nat.lt_trans hV ordN_lt
    cases i with
    | zero =>
      have hVk : V + k < B ^ 4 := by have := ordN_two; omega
      go_wp2_with fail
      refine wp_region_one 8 40 7 10 24 _ mixed (by kernel_rfl) (by kernel_rfl) rfl alloc24 (fun _ _ _ _ _ h => h) ?_
      simp only [List.take_succ_cons, List.take_zero, List.drop_succ_cons, List.drop_zero]
      repeat (first | (refine wpHead_skip rfl ?_) | (refine wpHead_run rfl rfl (fun K hK => ?_); go_simp; first | (refine hK _ ?_; clear hK K) | (apply Exists.intro; refine ⟨fun _ => ?_, hK _ ?_⟩; (with_reducible first | exact k3 _ | exact addNum_any _ _ _); clear hK K)))
      refine wpHead_nil ?_
      intro zz y1 y2
      clear zz
      go_wp2_with fail
      refine (moduloR_any (V + k) _ hVk).out.mono ?_
      rintro _ _ ⟨rfl, y3, rfl⟩
      go_wp2_with fail
      refine bodyPost_ret (v := numV ((V + k) % ordN)) (by simp [results, Try.results41, go_sem]) rfl ⟨by rw [HRES.out, HV.out, Nat.pow_zero, Nat.div_one], ?_⟩
      repeat (first | exact Below.refl _ _ | refine Below.setCell ?_ (by first | (simp; done) | (simp; omega) | (simp [size_plus]; done) | (simp [size_plus]; omega)) _ | refine Below.alloc ?_ (by first | (simp; done) | (simp; omega) | (simp [size_plus]; done) | (simp [size_plus]; omega)) _ | refine Below.drew ?_ | refine Below.plus ?_ (by first | (simp; done) | (simp; omega) | (simp [size_plus]; done) | (simp [size_plus]; omega)) _)
    | succ j =>
      have ej : ((j + 1 : Nat) : Int) - 1 = (j : Int) := by omega
      rw [ej]
      have hj16 : j / 32 < L.length := by rw [hL]; omega
      have g := cellsU_get (l := L) (j := j / 32) hj16
      obtain ⟨z, hz⟩ : ∃ z, L.getD (j / 32) 0 = z := ⟨_, rfl⟩
      have hzH : z < H := hz ▸ HLH.out (j / 32)
      have hbit := bit_u64 z (j % 32) (Nat.lt_of_lt_of_le hzH (by decide))
      obtain ⟨b', hb⟩ : ∃ b', z / 2 ^ (j % 32) % 2 = b' := ⟨_, rfl⟩
      have hb2 : b' < 2 := by rw [← hb]; exact Nat.mod_lt _ (by omega)
      have HBB := Lib.hid (show N / 2 ^ j % 2 = b' by rw [← HLV.out, vh_bit L HLH.out j (by rw [hL]; omega), hz, hb])
      rw [hb] at hbit
      rw [hz] at g
      have hix : (j : Int) / 32 < 16 := by omega
      have hix0 : 0 ≤ (j : Int) / 32 := by omega
      have hw8 : IntKind.i64.wrap ((j : Int) / 32) = (j : Int) / 32 := by rw [IntKind.wrap_i64]; omega
      have htn : ((j : Int) / 32).toNat = j / 32 := by omega
      have htm : (j : Int).tmod 32 = (j : Int) % 32 := Int.tmod_eq_emod_of_nonneg (by omega)
      have hm0 : 0 ≤ (j : Int) % 32 := by omega
      have hm8 : ((j : Int) % 32).toNat = j % 32 := by omega
      clear hb hz
      go_wp2_with fail
      refine wp_region_plain 10 40 mixed (by kernel_rfl) (by kernel_rfl) rfl (fun _ _ _ _ _ h => h) ?_
      simp only [List.take_succ_cons, List.take_zero, List.drop_succ_cons, List.drop_zero]
      repeat (first | (refine wpHead_skip rfl ?_) | (refine wpHead_run rfl rfl (fun K hK => ?_); go_simp; first | (refine hK _ ?_; clear hK K) | (apply Exists.intro; refine ⟨fun _ => ?_, hK _ ?_⟩; (with_reducible exact reduced_any V b' _ hV hb2); clear hK K)))
      refine wpHead_nil ?_
      intro zz z1
      clear zz
      go_wp2_with fail
      go_roundw
      case rel =>
        have e : (2 * V + b') % ordN = N / 2 ^ j % ordN := by rw [HV.out, ← HBB.out]; exact halve_step N j
        exact ⟨j, by omega, by go_num, _, Nat.mod_lt _ ordN_pos, e, _, by rw [plus_plus]⟩
      case measure => simp [intOf]
end Go.Proofs.Ytihbjlpohjohpaa
