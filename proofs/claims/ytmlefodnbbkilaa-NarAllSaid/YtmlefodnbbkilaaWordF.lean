/- Walks: words of any number. -/
import Derived.Test.YtmlefodnbbkilaaRn2
namespace Go.Proofs.Ytmlefodnbbkilaa
open Go.RowKit

set_option maxRecDepth 100000 in
theorem wordF_any (n : Int) (w : World) (hn : n ≤ 9223372036854775807) : Calls Try.prog 18 #[.int .i64 n] w fun e w' => e = .returned (strV (wordN n.toNat)) ∧ Below w.heap.size w w' := by
  obtain ⟨m, hm⟩ : ∃ m : Nat, n.toNat = m := ⟨_, rfl⟩
  have hm1 : (if 0 < n then n else 0) = (m : Int) := by split <;> omega
  have hm2 : max 0 n = (m : Int) := by omega
  have hm3 : m ≤ 9223372036854775807 := by omega
  rw [hm]
  have hmk := make8 w
  clear hm hn
  go_enter Try.func18, Try.ntmps18
  go_wp2_with fail
  go_loopw [10] (fun z wr => ∃ k : Nat, k ≤ 8 ∧ z = .int .i64 k ∧ wr = w.alloc (.cells (u8s (wordS m k)).toArray 5)) (fun z _ => 8 - (intOf z).toNat)
  case atStart => exact ⟨0, by omega, rfl, rfl⟩
  case round =>
    obtain ⟨k, hk, rfl, rfl⟩ := hrel
    by_cases hlt : k < 8
    · have hd : decide ((k : Int) < 8) = true := by simp; omega
      have hget := u8s_at (wordS m k) k (by rw [wordS_len m k hk]; omega)
      have HSET := Lib.hid (wordS_set m k hlt)
      have hlen := wordS_len m k hk
      obtain ⟨y, hy⟩ : ∃ y, (wordS m k).getD k 0 = y := ⟨_, rfl⟩
      rw [hy] at hget
      clear hy
      go_wp2_with fail
      go_roundw
      case rel => exact ⟨k + 1, by omega, by go_num, by rw [HSET.out]⟩
      case measure => simp [intOf]; omega
    · obtain rfl : k = 8 := by omega
      have hconv := block_str (w.alloc (.cells (u8s (wordS m 8)).toArray 5)) w.heap.size 8 8 (wordS m 8) (wordS_len m 8 hk).symm (fr := (0, 0)) (new_at w _)
      have HALL := Lib.hid (wordS_all m)
      go_wp2_with fail
      refine bodyPost_ret (v := strV (wordS m 8)) (by simp [results, Try.results18, go_sem]) rfl ⟨by rw [HALL.out], ?_⟩
      exact (Below.refl _ w).alloc (Nat.le_refl _) _
set_option maxRecDepth 100000 in
theorem littleRF_any (m : Nat) (w : World) (_hm3 : m ≤ 9223372036854775807) : Calls Try.prog 61 #[.int .u64 (m : Int), .int .i64 8] w fun e w' => e = .returned (strV (wordN m)) ∧ Below w.heap.size w w' := by
  have hmk := make8 w
  go_enter Try.func61, Try.ntmps61
  go_wp2_with fail
  rename_i K hK
  have HKK := Lib.hid hK
  clear hK
  go_loopw [6] (fun z wr => ∃ k : Nat, k ≤ 8 ∧ z = .int .i64 k ∧ wr = w.alloc (.cells (u8s (wordS m k)).toArray 5)) (fun z _ => 8 - (intOf z).toNat)
  case atStart => exact ⟨0, by omega, rfl, rfl⟩
  case round =>
    obtain ⟨k, hk, rfl, rfl⟩ := hrel
    by_cases hlt : k < 8
    · have hd : decide ((k : Int) < 8) = true := by simp; omega
      have hget := u8s_at (wordS m k) k (by rw [wordS_len m k hk]; omega)
      have HSET := Lib.hid (wordS_set m k hlt)
      have hlen := wordS_len m k hk
      obtain ⟨y, hy⟩ : ∃ y, (wordS m k).getD k 0 = y := ⟨_, rfl⟩
      rw [hy] at hget
      clear hy
      go_wp2_with fail
      go_roundw
      case rel => exact ⟨k + 1, by omega, by go_num, by rw [HSET.out]⟩
      case measure => simp [intOf]; omega
    · obtain rfl : k = 8 := by omega
      have hconv := block_str (w.alloc (.cells (u8s (wordS m 8)).toArray 5)) w.heap.size 8 8 (wordS m 8) (wordS_len m 8 hk).symm (fr := (0, 0)) (new_at w _)
      have HALL := Lib.hid (wordS_all m)
      go_wp2_with fail
      refine HKK.out _ _ ?_
      go_wp2_with fail
      refine bodyPost_ret (v := strV (wordS m 8)) (by simp [results, Try.results61, go_sem]) rfl ⟨by rw [HALL.out], ?_⟩
      exact (Below.refl _ w).alloc (Nat.le_refl _) _
theorem wordRF_any (n : Int) (w : World) (hn : n ≤ 9223372036854775807) : Calls Try.prog 23 #[.int .i64 n] w fun e w' => e = .returned (strV (wordN n.toNat)) ∧ Below w.heap.size w w' := by
  obtain ⟨m, hm⟩ : ∃ m : Nat, n.toNat = m := ⟨_, rfl⟩
  have hm1 : (if 0 < n then n else 0) = (m : Int) := by split <;> omega
  have hm2 : max 0 n = (m : Int) := by omega
  have hm4 : max n 0 = (m : Int) := by omega
  have hm3 : m ≤ 9223372036854775807 := by omega
  rw [hm]
  have HL := Lib.hid (littleRF_any m w hm3)
  obtain ⟨WN, hWN⟩ : ∃ WN, wordN m = WN := ⟨_, rfl⟩
  rw [hWN] at HL ⊢
  have HL45 : Hid (Calls Try.prog 45 #[.int .u64 (m : Int), .int .i64 8] w fun e w' => e = .returned (strV WN) ∧ Below w.heap.size w w') := by
    refine Lib.hid ?_
    clear hm1 hm2 hm4 hm hWN
    go_enter Try.func45, Try.ntmps45
    go_wp2_with fail
    refine HL.out.mono ?_
    rintro _ V ⟨rfl, hb⟩
    have HB := Lib.hid hb
    clear hb
    go_wp2_with fail
    exact bodyPost_ret (v := strV WN) (by simp [results, Try.results45, go_sem]) rfl ⟨rfl, HB.out⟩
  clear hm hWN HL
  go_enter Try.func23, Try.ntmps23
  go_wp2_with fail
  refine HL45.out.mono ?_
  rintro _ V ⟨rfl, hb⟩
  have HB := Lib.hid hb
  clear hb
  go_wp2_with fail
  exact bodyPost_ret (v := strV WN) (by simp [results, Try.results23, go_sem]) rfl ⟨rfl, HB.out⟩
end Go.Proofs.Ytmlefodnbbkilaa
