/- Walks: a word's bytes, the lowest first; a number's bytes. -/
import Derived.Test.YtihbjlpohjohpaaFieldW3
import Derived.Test.YtihbjlpohjohpaaByteRow
namespace Go.Proofs.Ytihbjlpohjohpaa
open Go.RowKit

theorem info5 : (Try.prog.info? 5).map (fun i => (i.zero, i.size, i.bytes)) = some (some (.int .u8 0), 1, 1) := by kernel_rfl
theorem info_five : ∃ i, Try.prog.info? 5 = some i ∧ i.zero = some (.int .u8 0) ∧ i.size = 1 ∧ i.bytes = 1 := by
  have h := info5
  cases hi : Try.prog.info? 5 with
  | none => rw [hi] at h; cases h
  | some i =>
    rw [hi] at h
    simp only [Option.map_some, Option.some.injEq, Prod.mk.injEq] at h
    exact ⟨i, rfl, h.1, h.2.1, h.2.2⟩
theorem make50 (n : Nat) (hn : n ≤ 1000) (w : World) : (Instr.makeSlice 50 (.int .i64 (n : Int)) (.int .i64 (n : Int))).run Try.prog w = .ok (.slice (some ⟨w.heap.size, 0, none⟩) n n) (w.alloc (.cells (cells8 (List.replicate n 0)) 5)) := by
  obtain ⟨i, hi, hz, hs, hb⟩ := info_five
  have h := run_make (P := Try.prog) w 50 5 i (.int .u8 0) Try.underlying50 hi hz .i64 .i64 n n (by omega) (by omega) (by rw [hb]; omega) (by omega)
  rw [hs, Int.toNat_natCast, made8] at h
  exact h
theorem make50_8 (w : World) : (Instr.makeSlice 50 (.int .i64 8) (.int .i64 8)).run Try.prog w = .ok (.slice (some ⟨w.heap.size, 0, none⟩) 8 8) (w.alloc (.cells (cells8 (List.replicate 8 0)) 5)) := make50 8 (by omega) w
theorem make50_32 (w : World) : (Instr.makeSlice 50 (.int .i64 32) (.int .i64 32)).run Try.prog w = .ok (.slice (some ⟨w.heap.size, 0, none⟩) 32 32) (w.alloc (.cells (cells8 (List.replicate 32 0)) 5)) := make50 32 (by omega) w
attribute [go_sem] make50_8 make50_32

theorem heap_new (w : World) (o : Obj) : (w.alloc o).heap[w.heap.size]? = some o := by simp [World.alloc, -World.alloc_eq]
theorem byte_val (x i : Nat) : ((x : Int) / 2 ^ (8 * i) % 256) = ((UInt8.ofNat (x / 256 ^ i)).toNat : Int) := by
  rw [UInt8.toNat_ofNat', Int.natCast_emod, Int.natCast_ediv, Int.natCast_pow, show (2 : Int) ^ (8 * i) = ((256 : Nat) : Int) ^ i by rw [Int.pow_mul]; rfl]
  rfl
theorem conv50 (W : World) (b cap n : Nat) (l : List UInt8) (hn : n = l.length) {fr : Nat × Nat} (hb : W.heap[b]? = some (.cells (cells8 l) 5 fr)) :
    (convert 50 9 (.slice (some ⟨b, 0, none⟩) n cap)).run Try.prog W = .ok (strV l) W := conv8 Try.underlying50 Try.underlying5 Try.underlying9 W b cap n l hn hb

set_option maxRecDepth 100000 in
theorem little8_any (x : Nat) (w : World) : Ret Try.prog 49 #[.int .u64 x, .int .i64 8] w (strV (le 8 x)) := by
  refine Ret.of ?_
  go_enter Try.func49, Try.ntmps49
  go_wp2_with fail
  go_loopw [6] (fun v wr => ∃ i : Nat, i ≤ 8 ∧ v = .int .i64 i ∧ wr = w.alloc (.cells (cells8 (le i x ++ List.replicate (8 - i) 0)) 5)) (fun v _ => 8 - (intOf v).toNat)
  case atStart => exact ⟨0, by omega, rfl, rfl⟩
  case round =>
    obtain ⟨i, hi, rfl, rfl⟩ := hrel
    by_cases h8 : i < 8
    · have hd : decide ((i : Int) < 8) = true := by simp; omega
      have hl := half_length 8 i x hi
      have hget := cells8_get (show i < (le i x ++ List.replicate (8 - i) 0).length by omega)
      go_wp2_with fail
      go_roundw
      case rel => exact ⟨i + 1, by omega, by go_num, by rw [byte_val, cells8_set, le_set 8 i x h8]⟩
      case measure => simp [intOf]; omega
    · obtain rfl : i = 8 := by omega
      clear h8
      have hc := conv50 (w.alloc (.cells (cells8 (le 8 x)) 5)) w.heap.size 8 8 (le 8 x) rfl (heap_new w _)
      go_wp2_with fail
      refine bodyPost_ret (v := strV (le 8 x)) (by simp [results, Try.results49, go_sem]) rfl ⟨rfl, ?_⟩
      repeat (first | exact Below.refl _ _ | refine Below.setCell ?_ (by first | (simp; done) | (simp; omega) | (simp [size_plus]; done) | (simp [size_plus]; omega)) _ | refine Below.alloc ?_ (by first | (simp; done) | (simp; omega) | (simp [size_plus]; done) | (simp [size_plus]; omega)) _ | refine Below.drew ?_ | refine Below.plus ?_ (by first | (simp; done) | (simp; omega) | (simp [size_plus]; done) | (simp [size_plus]; omega)) _)
end Go.Proofs.Ytihbjlpohjohpaa
