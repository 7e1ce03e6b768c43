/- Walks: a number of bytes, as eight words. -/
import Derived.Test.YtihbjlpohjohpaaSc2
namespace Go.Proofs.Ytihbjlpohjohpaa
open Go.RowKit Go.Shelf

theorem words8_set {m b i : Nat} (hm : m < 256 ^ i) (hb : b < 256) (hi : i < 64) : (words8 m).setIfInBounds (i / 8) (.int .u64 ((nw m (i / 8) + b * 256 ^ (i % 8) : Nat) : Int)) = words8 (m + b * 256 ^ i) := by
  have hs := fun k (hk : k ≠ i / 8) => word_same hk hm hb
  rw [← (word_more hm hb).2]
  have h4 : i / 8 < 8 := by omega
  generalize i / 8 = q at *
  match q, h4 with
  | 0, _ => simp [words8, hs 1 (by omega), hs 2 (by omega), hs 3 (by omega), hs 4 (by omega), hs 5 (by omega), hs 6 (by omega), hs 7 (by omega)]
  | 1, _ => simp [words8, hs 0 (by omega), hs 2 (by omega), hs 3 (by omega), hs 4 (by omega), hs 5 (by omega), hs 6 (by omega), hs 7 (by omega)]
  | 2, _ => simp [words8, hs 0 (by omega), hs 1 (by omega), hs 3 (by omega), hs 4 (by omega), hs 5 (by omega), hs 6 (by omega), hs 7 (by omega)]
  | 3, _ => simp [words8, hs 0 (by omega), hs 1 (by omega), hs 2 (by omega), hs 4 (by omega), hs 5 (by omega), hs 6 (by omega), hs 7 (by omega)]
  | 4, _ => simp [words8, hs 0 (by omega), hs 1 (by omega), hs 2 (by omega), hs 3 (by omega), hs 5 (by omega), hs 6 (by omega), hs 7 (by omega)]
  | 5, _ => simp [words8, hs 0 (by omega), hs 1 (by omega), hs 2 (by omega), hs 3 (by omega), hs 4 (by omega), hs 6 (by omega), hs 7 (by omega)]
  | 6, _ => simp [words8, hs 0 (by omega), hs 1 (by omega), hs 2 (by omega), hs 3 (by omega), hs 4 (by omega), hs 5 (by omega), hs 7 (by omega)]
  | 7, _ => simp [words8, hs 0 (by omega), hs 1 (by omega), hs 2 (by omega), hs 3 (by omega), hs 4 (by omega), hs 5 (by omega), hs 6 (by omega)]

theorem extract_take (l : List UInt8) (n : Nat) : ByteArray.extract ⟨l.toArray⟩ 0 n = ⟨(l.take n).toArray⟩ := by
  apply ByteArray.ext
  simp

set_option maxRecDepth 100000 in
theorem of_any (l : List UInt8) (w : World) (hl : l.length ≤ 9223372036854775807) : Calls Try.prog 59 #[strV l] w fun e w' => e = .returned (.pointer (some ⟨w.heap.size, 0, none⟩)) ∧ ∃ x, w' = plus (w.alloc (.cells (words8 (ofle (l.take 64))) 66)) x := by
  by_cases h64 : l.length ≤ 64
  · rw [List.take_of_length_le h64]
    have hx1 : ByteArray.extract ⟨l.toArray⟩ 0 l.length = ⟨l.toArray⟩ := by rw [extract_take, List.take_length]
    go_enter Try.func59, Try.ntmps59
    go_wp2_with fail
    obtain ⟨X, d0, c, hx, hs, hcell⟩ := conv950 (w.alloc (.cells #[.int .u64 0, .int .u64 0, .int .u64 0, .int .u64 0, .int .u64 0, .int .u64 0, .int .u64 0, .int .u64 0] 66)) l (w.heap.size + 1) (by simp)
    rw [hx]
    clear hx
    go_wp2_with fail
    go_loopw [15] (fun v wr => ∃ i : Nat, i ≤ l.length ∧ v = .int .i64 i ∧ ∃ d : Nat, wr = plus (w.alloc (.cells (words8 (ofle (l.take i))) 66)) ⟨X, d⟩) (fun v _ => l.length - (intOf v).toNat)
    case atStart => exact ⟨0, by omega, rfl, d0, by simp [words8, ofle, nw]⟩
    case round =>
      obtain ⟨i, hi, rfl, d, rfl⟩ := hrel
      by_cases h8 : i < l.length
      · have hd : decide ((i : Int) < (l.length : Int)) = true := by simp; omega
        have hi64 : (i : Int) < 64 := by omega
        have hcl := hcell d (w.alloc (.cells (words8 (ofle (l.take i))) 66)) (by simp) i (by omega)
        have hw := word8_get (ofle (l.take i)) (i / 8) (by omega)
        obtain ⟨b, hbe⟩ : ∃ b, l.getD i 0 = b := ⟨_, rfl⟩
        rw [hbe] at hcl
        have HB := Lib.hid hbe
        clear hbe
        have hb256 := b.toNat_lt
        have HM := Lib.hid (take_lt_ofle l i (by omega))
        have HS := Lib.hid (take_succ_ofle l i (by omega))
        clear hcell
        generalize hm : ofle (l.take i) = m at *
        clear hm
        go_wp2_with fail
        go_region
        go_wp2_with fail
        go_roundw
        case rel =>
          obtain ⟨k1, k2⟩ := word_more HM.out hb256
          refine ⟨i + 1, by omega, by go_num, d + 1, ?_⟩
          rw [HS.out, HB.out, or_byte k1 (by omega) hb256, ← words8_set HM.out hb256 (by omega)]
          simp
        case measure => simp [intOf]; omega
      · obtain rfl : i = l.length := by omega
        clear h8
        go_wp2_with fail
        go_ret
        exact ⟨rfl, ⟨X, d⟩, by first | rfl | rw [List.take_of_length_le (by omega)]⟩
  · have hx1 : ByteArray.extract ⟨l.toArray⟩ 0 64 = ⟨(l.take 64).toArray⟩ := by rw [extract_take]
    obtain ⟨t, ht⟩ : ∃ t, l.take 64 = t := ⟨_, rfl⟩
    have htl : t.length = 64 := by rw [← ht]; simp; omega
    rw [ht] at hx1 ⊢
    clear ht
    go_enter Try.func59, Try.ntmps59
    go_wp2_with fail
    obtain ⟨X, d0, c, hx, hs, hcell⟩ := conv950 (w.alloc (.cells #[.int .u64 0, .int .u64 0, .int .u64 0, .int .u64 0, .int .u64 0, .int .u64 0, .int .u64 0, .int .u64 0] 66)) t (w.heap.size + 1) (by simp)
    rw [hx]
    clear hx
    go_wp2_with fail
    go_loopw [15] (fun v wr => ∃ i : Nat, i ≤ t.length ∧ v = .int .i64 i ∧ ∃ d : Nat, wr = plus (w.alloc (.cells (words8 (ofle (t.take i))) 66)) ⟨X, d⟩) (fun v _ => t.length - (intOf v).toNat)
    case atStart => exact ⟨0, by omega, rfl, d0, by simp [words8, ofle, nw]⟩
    case round =>
      obtain ⟨i, hi, rfl, d, rfl⟩ := hrel
      by_cases h8 : i < t.length
      · have hd : decide ((i : Int) < (t.length : Int)) = true := by simp; omega
        have hi64 : (i : Int) < 64 := by omega
        have hcl := hcell d (w.alloc (.cells (words8 (ofle (t.take i))) 66)) (by simp) i (by omega)
        have hw := word8_get (ofle (t.take i)) (i / 8) (by omega)
        obtain ⟨b, hbe⟩ : ∃ b, t.getD i 0 = b := ⟨_, rfl⟩
        rw [hbe] at hcl
        have HB := Lib.hid hbe
        clear hbe
        have hb256 := b.toNat_lt
        have HM := Lib.hid (take_lt_ofle t i (by omega))
        have HS := Lib.hid (take_succ_ofle t i (by omega))
        clear hcell
        generalize hm : ofle (t.take i) = m at *
        clear hm
        go_wp2_with fail
        go_region
        go_wp2_with fail
        go_roundw
        case rel =>
          obtain ⟨k1, k2⟩ := word_more HM.out hb256
          refine ⟨i + 1, by omega, by go_num, d + 1, ?_⟩
          rw [HS.out, HB.out, or_byte k1 (by omega) hb256, ← words8_set HM.out hb256 (by omega)]
          simp
        case measure => simp [intOf]; omega
      · obtain rfl : i = t.length := by omega
        clear h8
        go_wp2_with fail
        go_ret
        exact ⟨rfl, ⟨X, d⟩, by first | rfl | rw [List.take_of_length_le (by omega)]⟩
end Go.Proofs.Ytihbjlpohjohpaa
