/- Walks: a field's number's bytes. -/
import Derived.Test.YtihbjlpohjohpaaBytes
namespace Go.Proofs.Ytihbjlpohjohpaa
open Go.RowKit

set_option maxRecDepth 100000 in
theorem little_any (x : Nat) (w : World) : Ret Try.prog 23 #[.int .u64 x, .int .i64 8] w (strV (le 8 x)) := by
  refine Ret.of ?_
  go_enter Try.func23, Try.ntmps23
  go_wp2_with fail
  refine (little8_any x _).out.mono ?_
  rintro _ _ ⟨rfl, x1, rfl⟩
  go_wp2_with fail
  refine bodyPost_ret (v := strV (le 8 x)) (by simp [results, Try.results23, go_sem]) rfl ⟨rfl, ?_⟩
  repeat (first | exact Below.refl _ _ | refine Below.setCell ?_ (by first | (simp; done) | (simp; omega) | (simp [size_plus]; done) | (simp [size_plus]; omega)) _ | refine Below.alloc ?_ (by first | (simp; done) | (simp; omega) | (simp [size_plus]; done) | (simp [size_plus]; omega)) _ | refine Below.drew ?_ | refine Below.plus ?_ (by first | (simp; done) | (simp; omega) | (simp [size_plus]; done) | (simp [size_plus]; omega)) _)

theorem word_get (a k : Nat) (hk : k < 4) : (#[Value.int .u64 ((nw a 0 : Nat) : Int), Value.int .u64 ((nw a 1 : Nat) : Int), Value.int .u64 ((nw a 2 : Nat) : Int), Value.int .u64 ((nw a 3 : Nat) : Int)] : Array Value)[k]? = some (.int .u64 ((nw a k : Nat) : Int)) := by
  match k, hk with
  | 0, _ => rfl
  | 1, _ => rfl
  | 2, _ => rfl
  | 3, _ => rfl

theorem byte_mod (m r : Nat) (hr : r < 8) : m % B / 256 ^ r % 256 = m / 256 ^ r % 256 := by
  unfold B
  match r, hr with
  | 0, _ | 1, _ | 2, _ | 3, _ | 4, _ | 5, _ | 6, _ | 7, _ => simp only [Nat.reducePow]; omega
theorem B_eq (k : Nat) : B ^ k = 256 ^ (8 * k) := by rw [Nat.pow_mul]; rfl
theorem byte_of (a i : Nat) : nw a (i / 8) / 256 ^ (i % 8) % 256 = a / 256 ^ i % 256 := by
  unfold nw
  rw [byte_mod _ _ (by omega), B_eq, Nat.div_div_eq_div_mul, ← Nat.pow_add]
  congr 3
  omega

theorem word_byte (p i : Nat) : (((nw p (i / 8) : Nat) : Int) / 2 ^ (i % 8 * 8) % 256) = ((UInt8.ofNat (p / 256 ^ i)).toNat : Int) := by
  rw [UInt8.toNat_ofNat', show (2 : Nat) ^ 8 = 256 from rfl, ← byte_of p i, Nat.mul_comm (i % 8) 8, show (256 : Nat) ^ (i % 8) = 2 ^ (8 * (i % 8)) by rw [Nat.pow_mul]]
  simp

set_option maxRecDepth 100000 in
theorem bytes_any (a : Nat) (w : World) (ha : a < B ^ 4) : Ret Try.prog 20 #[numV a] w (strV (le 32 (a % Ar.pp))) := by
  refine Ret.of ?_
  go_enter Try.func20, Try.ntmps20
  go_wp2_with fail
  refine (norm_any a _ ha).out.mono ?_
  rintro _ _ ⟨rfl, x1, rfl⟩
  go_wp2_with fail
  generalize hp : a % Ar.pp = p
  have hp4 : p < B ^ 4 := hp ▸ Nat.lt_trans (Nat.mod_lt _ Ar.pp_pos) pp_lt
  have HP := Lib.hid hp
  clear hp
  go_loopw [10] (fun v wr => ∃ i : Nat, i ≤ 32 ∧ v = .int .i64 i ∧ wr = (plus (w.alloc (Obj.cells #[Value.int .u64 ((nw p 0 : Nat) : Int), Value.int .u64 ((nw p 1 : Nat) : Int), Value.int .u64 ((nw p 2 : Nat) : Int), Value.int .u64 ((nw p 3 : Nat) : Int)] 24)) x1).alloc (.cells (cells8 (le i p ++ List.replicate (32 - i) 0)) 5)) (fun v _ => 32 - (intOf v).toNat)
  case atStart => exact ⟨0, by omega, rfl, rfl⟩
  case round =>
    obtain ⟨i, hi, rfl, rfl⟩ := hrel
    by_cases h8 : i < 32
    · have hd : decide ((i : Int) < 32) = true := by simp; omega
      have hl := half_length 32 i p hi
      have hget := cells8_get (show i < (le i p ++ List.replicate (32 - i) 0).length by omega)
      have hw := word_get p (i / 8) (by omega)
      go_wp2_with fail
      go_roundw
      case rel => exact ⟨i + 1, by omega, by go_num, by rw [word_byte, cells8_set, le_set 32 i p h8]⟩
      case measure => simp [intOf]; omega
    · obtain rfl : i = 32 := by omega
      clear h8
      have hc := conv50 ((plus (w.alloc (Obj.cells #[Value.int .u64 ((nw p 0 : Nat) : Int), Value.int .u64 ((nw p 1 : Nat) : Int), Value.int .u64 ((nw p 2 : Nat) : Int), Value.int .u64 ((nw p 3 : Nat) : Int)] 24)) x1).alloc (.cells (cells8 (le 32 p)) 5)) (w.heap.size + 1 + x1.blocks.size) 32 32 (le 32 p) rfl (by rw [show w.heap.size + 1 + x1.blocks.size = (plus (w.alloc (Obj.cells #[Value.int .u64 ((nw p 0 : Nat) : Int), Value.int .u64 ((nw p 1 : Nat) : Int), Value.int .u64 ((nw p 2 : Nat) : Int), Value.int .u64 ((nw p 3 : Nat) : Int)] 24)) x1).heap.size by simp [size_plus]]; exact heap_new _ _)
      go_wp2_with fail
      refine bodyPost_ret (v := strV (le 32 p)) (by simp [results, Try.results20, go_sem]) rfl ⟨by rw [HP.out], ?_⟩
      repeat (first | exact Below.refl _ _ | refine Below.setCell ?_ (by first | (simp; done) | (simp; omega) | (simp [size_plus]; done) | (simp [size_plus]; omega)) _ | refine Below.alloc ?_ (by first | (simp; done) | (simp; omega) | (simp [size_plus]; done) | (simp [size_plus]; omega)) _ | refine Below.drew ?_ | refine Below.plus ?_ (by first | (simp; done) | (simp; omega) | (simp [size_plus]; done) | (simp [size_plus]; omega)) _)
end Go.Proofs.Ytihbjlpohjohpaa
