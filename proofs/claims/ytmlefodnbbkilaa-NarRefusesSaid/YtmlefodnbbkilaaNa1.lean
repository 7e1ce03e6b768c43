/- Walks: a number as a word. -/
import Derived.Test.YtmlefodnbbkilaaBase2
import Derived.Test.YtmlefodnbbkilaaPureRefN
import Derived.Test.YtmlefodnbbkilaaShelf
import Derived.Laws.MakeOwn
import Derived.IntWalk
namespace Go.Proofs.Ytmlefodnbbkilaa
open Go.RowKit

theorem info5 : (Try.prog.info? 5).map (fun i => (i.zero, i.size, i.bytes)) = some (some (.int .u8 0), 1, 1) := by kernel_rfl
theorem make8 (w : World) : (Instr.makeSlice 22 (.int .i64 8) (.int .i64 8)).run Try.prog w = .ok (.slice (some ⟨w.heap.size, 0, none⟩) 8 8) (w.alloc (.cells (u8s (List.replicate 8 0)).toArray 5)) := by
  obtain ⟨i, hi, hz, hs, hb⟩ := info_parts info5
  have h := run_make (P := Try.prog) w 22 5 i (.int .u8 0) Try.underlying22 hi hz .i64 .i64 8 8 (by omega) (by omega) (by rw [hb]; omega) (by omega)
  have hm : madeCells (Value.int IntKind.u8 0).cells (8 * 1) = (u8s (List.replicate 8 0)).toArray := by
    apply Array.ext'
    rw [Nat.mul_one]
    show (madeCells #[.int .u8 0] 8).toList = _
    rw [toList_madeCells_one]
    simp [u8s]
  rw [hs] at h
  simp only [show Int.toNat 8 = 8 from rfl] at h
  rw [hm] at h
  exact h
/-- A word, so far. -/
def wordS (n k : Nat) : Bs := (wordN n).take k ++ List.replicate (8 - k) 0
theorem u8s_at (l : List UInt8) (j : Nat) (h : j < l.length) : ((u8s l).toArray)[j]? = some (.int .u8 ((l.getD j 0).toNat : Int)) := by
  simp [u8s, h]
theorem wordS_set (m k : Nat) (hk : k < 8) : (u8s (wordS m k)).set k (.int .u8 ((m : Int) / 2 ^ (8 * k) % 256)) = u8s (wordS m (k + 1)) := by
  have key : ∀ q : Nat, ((m : Int) / (q : Int) % 256) = ((UInt8.ofNat (m / q)).toNat : Int) := fun q => by
    rw [UInt8.toNat_ofNat']
    omega
  have hp : ((m : Int) / 2 ^ (8 * k) % 256) = ((UInt8.ofNat (m / 2 ^ (8 * k))).toNat : Int) := by
    rw [← key]
    simp
  rw [hp]
  have e : k = 0 ∨ k = 1 ∨ k = 2 ∨ k = 3 ∨ k = 4 ∨ k = 5 ∨ k = 6 ∨ k = 7 := by omega
  rcases e with rfl | rfl | rfl | rfl | rfl | rfl | rfl | rfl <;> simp [wordS, wordN, u8s]
theorem wordS_len (m k : Nat) (hk : k ≤ 8) : (wordS m k).length = 8 := by simp [wordS, wordN_len]; omega
theorem wordS_all (m : Nat) : wordS m 8 = wordN m := by
  simp only [wordS]
  rw [List.take_of_length_le (by rw [wordN_len]; omega)]
  simp
/-- Such a block as a string. -/
theorem block_str (W : World) (b cap n : Nat) (l : List UInt8) (hn : n = l.length) {fr : Nat × Nat} (hb : W.heap[b]? = some (.cells (u8s l).toArray 5 fr)) :
    (convert 22 9 (.slice (some ⟨b, 0, none⟩) n cap)).run Try.prog W = .ok (strV l) W := by
  subst hn
  refine run_convert_bytes_back W 22 9 5 ⟨b, 0, none⟩ cap l Try.underlying22 Try.underlying5 Try.underlying9 fun j hj => ?_
  rw [addr_add]
  simp only [World.cell?, hb]
  have := u8s_at l j hj
  simp [hj] at this ⊢
  exact this
set_option maxRecDepth 100000 in
theorem word_any (n : Int) (w : World) (hn : n ≤ 4611686018427387904) : Calls Try.prog 18 #[.int .i64 n] w fun e w' => e = .returned (strV (wordN n.toNat)) ∧ Below w.heap.size w w' := by
  obtain ⟨m, hm⟩ : ∃ m : Nat, n.toNat = m := ⟨_, rfl⟩
  have hm1 : (if 0 < n then n else 0) = (m : Int) := by split <;> omega
  have hm2 : max 0 n = (m : Int) := by omega
  have hm3 : m ≤ 4611686018427387904 := by omega
  rw [hm]
  have hmk := make8 w
  clear hm hn
  go_enter Try.func18, Try.ntmps18
  go_wp2_with fail
  go_loopw [10] (fun z wr => ∃ k : Nat, k ≤ 8 ∧ z = .int .i64 k ∧ wr = w.alloc (.cells (u8s (wordS m k)).toArray 5)) (fun z _ => 8 - (intOf z).toNat)
  case atStart => exact ⟨0, by omega, rfl, rfl⟩
  case round =>
    obtain ⟨k, hk, rfl, rfl⟩ := hrel
    by_cases hlt : k < 8
    · have hd : decide ((k : Int) < 8) = true := by simp; omega
      have hget := u8s_at (wordS m k) k (by rw [wordS_len m k hk]; omega)
      have HSET := Lib.hid (wordS_set m k hlt)
      have hlen := wordS_len m k hk
      obtain ⟨y, hy⟩ : ∃ y, (wordS m k).getD k 0 = y := ⟨_, rfl⟩
      rw [hy] at hget
      clear hy
      go_wp2_with fail
      go_roundw
      case rel => exact ⟨k + 1, by omega, by go_num, by rw [HSET.out]⟩
      case measure => simp [intOf]; omega
    · obtain rfl : k = 8 := by omega
      have hconv := block_str (w.alloc (.cells (u8s (wordS m 8)).toArray 5)) w.heap.size 8 8 (wordS m 8) (wordS_len m 8 hk).symm (fr := (0, 0)) (new_at w _)
      have HALL := Lib.hid (wordS_all m)
      go_wp2_with fail
      refine bodyPost_ret (v := strV (wordS m 8)) (by simp [results, Try.results18, go_sem]) rfl ⟨by rw [HALL.out], ?_⟩
      exact (Below.refl _ w).alloc (Nat.le_refl _) _
end Go.Proofs.Ytmlefodnbbkilaa
