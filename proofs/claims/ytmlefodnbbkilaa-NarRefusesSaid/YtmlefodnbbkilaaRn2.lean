/- Walks: the document's words and texts. -/
import Derived.Test.YtmlefodnbbkilaaRn1
namespace Go.Proofs.Ytmlefodnbbkilaa
open Go.RowKit

set_option maxRecDepth 100000 in
theorem littleR_any (m : Nat) (w : World) (_hm3 : m ≤ 4611686018427387904) : Calls Try.prog 61 #[.int .u64 (m : Int), .int .i64 8] w fun e w' => e = .returned (strV (wordN m)) ∧ Below w.heap.size w w' := by
  have hmk := make8 w
  go_enter Try.func61, Try.ntmps61
  go_wp2_with fail
  rename_i K hK
  have HKK := Lib.hid hK
  clear hK
  go_loopw [6] (fun z wr => ∃ k : Nat, k ≤ 8 ∧ z = .int .i64 k ∧ wr = w.alloc (.cells (u8s (wordS m k)).toArray 5)) (fun z _ => 8 - (intOf z).toNat)
  case atStart => exact ⟨0, by omega, rfl, rfl⟩
  case round =>
    obtain ⟨k, hk, rfl, rfl⟩ := hrel
    by_cases hlt : k < 8
    · have hd : decide ((k : Int) < 8) = true := by simp; omega
      have hget := u8s_at (wordS m k) k (by rw [wordS_len m k hk]; omega)
      have HSET := Lib.hid (wordS_set m k hlt)
      have hlen := wordS_len m k hk
      obtain ⟨y, hy⟩ : ∃ y, (wordS m k).getD k 0 = y := ⟨_, rfl⟩
      rw [hy] at hget
      clear hy
      go_wp2_with fail
      go_roundw
      case rel => exact ⟨k + 1, by omega, by go_num, by rw [HSET.out]⟩
      case measure => simp [intOf]; omega
    · obtain rfl : k = 8 := by omega
      have hconv := block_str (w.alloc (.cells (u8s (wordS m 8)).toArray 5)) w.heap.size 8 8 (wordS m 8) (wordS_len m 8 hk).symm (fr := (0, 0)) (new_at w _)
      have HALL := Lib.hid (wordS_all m)
      go_wp2_with fail
      refine HKK.out _ _ ?_
      go_wp2_with fail
      refine bodyPost_ret (v := strV (wordS m 8)) (by simp [results, Try.results61, go_sem]) rfl ⟨by rw [HALL.out], ?_⟩
      exact (Below.refl _ w).alloc (Nat.le_refl _) _
theorem wordR_any (n : Int) (w : World) (hn : n ≤ 4611686018427387904) : Calls Try.prog 23 #[.int .i64 n] w fun e w' => e = .returned (strV (wordN n.toNat)) ∧ Below w.heap.size w w' := by
  obtain ⟨m, hm⟩ : ∃ m : Nat, n.toNat = m := ⟨_, rfl⟩
  have hm1 : (if 0 < n then n else 0) = (m : Int) := by split <;> omega
  have hm2 : max 0 n = (m : Int) := by omega
  have hm4 : max n 0 = (m : Int) := by omega
  have hm3 : m ≤ 4611686018427387904 := by omega
  rw [hm]
  have HL := Lib.hid (littleR_any m w hm3)
  obtain ⟨WN, hWN⟩ : ∃ WN, wordN m = WN := ⟨_, rfl⟩
  rw [hWN] at HL ⊢
  have HL45 : Hid (Calls Try.prog 45 #[.int .u64 (m : Int), .int .i64 8] w fun e w' => e = .returned (strV WN) ∧ Below w.heap.size w w') := by
    refine Lib.hid ?_
    clear hm1 hm2 hm4 hm hWN
    go_enter Try.func45, Try.ntmps45
    go_wp2_with fail
    refine HL.out.mono ?_
    rintro _ V ⟨rfl, hb⟩
    have HB := Lib.hid hb
    clear hb
    go_wp2_with fail
    exact bodyPost_ret (v := strV WN) (by simp [results, Try.results45, go_sem]) rfl ⟨rfl, HB.out⟩
  clear hm hWN HL
  go_enter Try.func23, Try.ntmps23
  go_wp2_with fail
  refine HL45.out.mono ?_
  rintro _ V ⟨rfl, hb⟩
  have HB := Lib.hid hb
  clear hb
  go_wp2_with fail
  exact bodyPost_ret (v := strV WN) (by simp [results, Try.results23, go_sem]) rfl ⟨rfl, HB.out⟩
set_option maxRecDepth 100000 in
theorem strR_any (s : Bs) (w : World) (hs : s.length ≤ 1000000000) : Calls Try.prog 24 #[strV s] w fun e w' => e = .returned (strV (strN s)) ∧ Below w.heap.size w w' := by
  have HW := Lib.hid (wordR_any (s.length : Int) w (by omega))
  rw [Int.toNat_natCast] at HW
  have hsn : strN s = wordN s.length ++ (s ++ List.replicate (padN s.length) 0) := by simp [strN]
  have hpad : padN s.length < 8 ∧ (8 + s.length + padN s.length) % 8 = 0 ∧ ∀ k, k < padN s.length → (8 + s.length + k) % 8 ≠ 0 := by
    unfold padN
    refine ⟨by omega, by omega, fun k hk => by omega⟩
  obtain ⟨T, hT⟩ : ∃ T, strN s = T := ⟨_, rfl⟩
  rw [hT] at hsn ⊢
  obtain ⟨WN, hWN⟩ : ∃ WN, wordN s.length = WN := ⟨_, rfl⟩
  have hwl : WN.length = 8 := by rw [← hWN]; exact wordN_len _
  rw [hWN] at HW hsn
  obtain ⟨q, hq⟩ : ∃ q, padN s.length = q := ⟨_, rfl⟩
  rw [hq] at hsn hpad
  have HSN := Lib.hid hsn
  have HPAD := Lib.hid hpad
  clear hT hWN hq hsn hpad
  go_enter Try.func24, Try.ntmps24
  go_wp2_with fail
  refine HW.out.mono ?_
  rintro _ V ⟨rfl, hb⟩
  have HB := Lib.hid hb
  clear hb HW
  go_wp2_with fail
  rename_i K hK
  have HKK := Lib.hid hK
  clear hK
  go_loopw [3] (fun z wr => ∃ (k : Nat) (X : Bs), k ≤ q ∧ z = strV X ∧ X.length = 8 + s.length + k ∧ Hid (X = WN ++ (s ++ List.replicate k 0)) ∧ Hid (wr = V)) (fun z _ => 8 + s.length + q - (match z with | .string b => b.size | _ => 0))
  case atStart => exact ⟨0, WN ++ s, by omega, by simp, by simp [hwl], Lib.hid (by simp), rfl⟩
  case round =>
    obtain ⟨k, X, hk, rfl, hX, HX, HWV⟩ := hrel
    have hW := HWV.out
    subst hW
    have HXL := Lib.hid hX
    have hxb : X.length ≤ 2000000000 := by have := HPAD.out.1; omega
    by_cases hlt : k < q
    · have hr : ((X.length : Int)).tmod 8 = (((8 + s.length + k) % 8 : Nat) : Int) := by
        rw [Int.tmod_eq_emod_of_nonneg (by omega)]
        omega
      obtain ⟨r, hr2⟩ : ∃ r, (8 + s.length + k) % 8 = r := ⟨_, rfl⟩
      have hr0 : r ≠ 0 := by rw [← hr2]; exact HPAD.out.2.2 k hlt
      rw [hr2] at hr
      have hr3 : ((r : Int) != 0) = true := by simp; omega
      clear hr2 hX
      go_wp2_with fail
      have hl2 : (X ++ [0]).length = 8 + s.length + (k + 1) := by have := HXL.out; simp; omega
      have hx2 : X ++ [0] = WN ++ (s ++ List.replicate (k + 1) 0) := by rw [HX.out, List.replicate_succ']; simp
      go_roundw
      case rel => exact ⟨k + 1, X ++ [0], by omega, rfl, hl2, Lib.hid hx2, (by first | exact Lib.hid trivial | exact Lib.hid rfl)⟩
      case measure =>
        have e1 : (⟨X.toArray⟩ : ByteArray).size = X.length := rfl
        have e2 : (⟨(X ++ [0]).toArray⟩ : ByteArray).size = (X ++ [0]).length := rfl
        have := HXL.out
        dsimp only
        simp
        omega
    · obtain rfl : k = q := by omega
      have hr : ((X.length : Int)).tmod 8 = 0 := by
        rw [Int.tmod_eq_emod_of_nonneg (by omega)]
        have := HPAD.out.2.1
        omega
      have hxe : X = T := by rw [HX.out, HSN.out]
      subst hxe
      clear hX
      go_wp2_with fail
      refine HKK.out _ _ ?_
      go_wp2_with fail
      exact bodyPost_ret (v := strV X) (by simp [results, Try.results24, go_sem]) rfl ⟨rfl, HB.out⟩
end Go.Proofs.Ytmlefodnbbkilaa
