/- Walks: what bytes are modulo the order; a number's bytes. -/
import Derived.Test.YtihbjlpohjohpaaSc3
namespace Go.Proofs.Ytihbjlpohjohpaa
open Go.RowKit Go.Shelf

theorem ord4 (n : Nat) : n % ordN < B ^ 4 := Nat.lt_trans (Nat.mod_lt _ ordN_pos) ordN_lt
theorem ofle64 (l : List UInt8) : ofle (l.take 64) < B ^ 8 := by
  have h := ofle_lt (l.take 64)
  have h2 : (256 : Nat) ^ (l.take 64).length ≤ 256 ^ 64 := Nat.pow_le_pow_right (by omega) (by simp; omega)
  have h3 : B ^ 8 = 256 ^ 64 := by decide +kernel
  omega
/-- What bytes are, modulo the order. -/
def redN (l : List UInt8) : Nat := ofle (l.take 64) % ordN

set_option maxRecDepth 100000 in
theorem reduce_any (l : List UInt8) (w : World) (hl : l.length ≤ 9223372036854775807) : Ret Try.prog 39 #[strV l] w (numV (redN l)) := by
  refine Ret.of ?_
  go_enter Try.func39, Try.ntmps39
  go_wp2_with fail
  refine (of_any l _ hl).mono ?_
  rintro _ _ ⟨rfl, x, rfl⟩
  have h8 := ofle64 l
  generalize hm : ofle (l.take 64) = m at *
  have HM := Lib.hid hm
  clear hm
  go_wp2_with fail
  refine (modulo_any m (w.heap.size + 1) _ h8 (by rw [heap_plus x (by unfold has; simp)]; have := heap_new (w.alloc (.cells #[.int .u64 0, .int .u64 0, .int .u64 0, .int .u64 0] 24)) (.cells (words8 m) 66); simpa using this)).out.mono ?_
  rintro _ _ ⟨rfl, x1, rfl⟩
  go_wp2_with fail
  refine bodyPost_ret (v := numV (m % ordN)) (by simp [results, Try.results39, go_sem]) rfl ⟨by unfold redN; rw [HM.out], ?_⟩
  repeat (first | exact Below.refl _ _ | refine Below.setCell ?_ (by first | (simp; done) | (simp; omega) | (simp [size_plus]; done) | (simp [size_plus]; omega)) _ | refine Below.alloc ?_ (by first | (simp; done) | (simp; omega) | (simp [size_plus]; done) | (simp [size_plus]; omega)) _ | refine Below.drew ?_ | refine Below.plus ?_ (by first | (simp; done) | (simp; omega) | (simp [size_plus]; done) | (simp [size_plus]; omega)) _)

theorem info22 : (Try.prog.info? 22).map (·.size) = some 1 := by kernel_rfl
abbrev z8 : Array Value := #[.int .u64 0, .int .u64 0, .int .u64 0, .int .u64 0, .int .u64 0, .int .u64 0, .int .u64 0, .int .u64 0]
theorem words8_low {a : Nat} (ha : a < B ^ 4) : words8 a = #[.int .u64 (nw a 0), .int .u64 (nw a 1), .int .u64 (nw a 2), .int .u64 (nw a 3), .int .u64 0, .int .u64 0, .int .u64 0, .int .u64 0] := by
  have h : ∀ k, 4 ≤ k → nw a k = 0 := fun k hk => by
    unfold nw
    rw [Nat.div_eq_of_lt (Nat.lt_of_lt_of_le ha (Nat.pow_le_pow_right B_pos hk)), Nat.zero_mod]
  simp [words8, h 4 (by omega), h 5 (by omega), h 6 (by omega), h 7 (by omega)]
theorem setRow_new (V : World) (x : Ext) (cur cs : Array Value) (T : TypeId) : (plus (V.alloc (.cells cur T)) x).setRow V.heap.size cs = plus (V.alloc (.cells cs T)) x := by
  have e : ∀ (d : Array Value), (plus (V.alloc (.cells d T)) x).heap = V.heap.push (.cells d T) ++ x.blocks := fun d => rfl
  have hh : (V.heap.push (.cells cur T) ++ x.blocks).modify V.heap.size (fun | .cells _ elem frozen => .cells cs elem frozen | o => o) = V.heap.push (.cells cs T) ++ x.blocks := by
    apply Array.ext_getElem?
    intro i
    simp only [Array.getElem?_modify, Array.getElem?_append, Array.getElem?_push, Array.size_push]
    by_cases h1 : V.heap.size = i
    · subst h1
      simp
    · by_cases h2 : i < V.heap.size + 1
      · simp [h1, h2, Ne.symm h1]
      · simp [h1, h2]
  unfold World.setRow
  rw [e]
  exact congrArg (fun h => ({ plus (V.alloc (.cells cur T)) x with heap := h } : World)) hh
theorem copy_num (V : World) (x : Ext) (sp a : Nat) (ha : a < B ^ 4) (hsp : V.heap[sp]? = some (.cells (wordsOf a) 24)) :
    (Builtin.copy_ #[67, 67] 3 #[.slice (some ⟨V.heap.size, 0, none⟩) 8 8, .slice (some ⟨sp, 0, none⟩) 4 4]).run Try.prog (plus (V.alloc (.cells z8 66)) x) = .ok (goInt 4) (plus (V.alloc (.cells (words8 a) 66)) x) := by
  have hlt : sp < V.heap.size := (Array.getElem?_eq_some_iff.1 hsp).1
  rw [run_copy_row (P := Try.prog) _ 67 67 3 22 V.heap.size 0 8 8 ⟨sp, 0, none⟩ 4 4 z8 66 (wordsOf a).toList Try.underlying67 info22 ?_ rfl ?_ (by simp) ?_]
  · rw [setRow_new, words8_low ha]
    rfl
  · rw [heap_plus x (by unfold has; simp)]
    exact heap_new V _
  · intro j v hj
    have h1 : (plus (V.alloc (.cells z8 66)) x).heap[sp]? = some (.cells (wordsOf a) 24) := by
      rw [heap_plus x (by unfold has; simp; omega), Below.heap_alloc _ _ _ hlt, hsp]
    rw [show (⟨sp, 0, none⟩ : Addr).add j = ⟨sp, j, none⟩ by unfold Addr.add; split <;> simp_all]
    simp only [World.cell?, h1]
    simpa using hj
  · intro v hv
    simp at hv
    rcases hv with rfl | rfl | rfl | rfl <;> rfl

theorem low8 {a : Nat} (ha : a < B ^ 4) : a < B ^ 8 := Nat.lt_of_lt_of_le ha (by decide +kernel)

set_option maxRecDepth 100000 in
theorem bytesS_any (a : Nat) (w : World) (ha : a < B ^ 4) : Ret Try.prog 42 #[numV a] w (strV (le 32 (a % ordN))) := by
  refine Ret.of ?_
  go_enter Try.func42, Try.ntmps42
  go_wp2_with fail
  refine wp_region_plain 4 36 mixed (by kernel_rfl) (by kernel_rfl) rfl (fun _ _ _ _ _ h => h) ?_
  simp only [List.take_succ_cons, List.take_zero, List.drop_succ_cons, List.drop_zero]
  repeat (first | (refine wpHead_skip rfl ?_) | (refine wpHead_run rfl rfl (fun K hK => ?_); go_simp; first | (refine hK _ ?_; clear hK K) | (apply Exists.intro; refine ⟨fun _ => ?_, hK _ ?_⟩; (fail); clear hK K)))
  refine wpHead_nil ?_
  intro zz x1
  clear zz
  have hc := copy_num (w.alloc (.cells (wordsOf a) 24)) x1 w.heap.size a ha (heap_new w _)
  simp only [World.size_alloc] at hc
  go_wp2_with fail
  clear hc
  refine (modulo_any a (w.heap.size + 1) _ (low8 ha) (by rw [heap_plus x1 (by unfold has; simp)]; have := heap_new (w.alloc (.cells (wordsOf a) 24)) (.cells (words8 a) 66); simpa using this)).out.mono ?_
  rintro _ _ ⟨rfl, x2, rfl⟩
  go_wp2_with fail
  generalize hp : a % ordN = p
  have hp4 : p < B ^ 4 := hp ▸ ord4 a
  have HP := Lib.hid hp
  clear hp
  go_loopw [18] (fun v wr => ∃ i : Nat, i ≤ 32 ∧ v = .int .i64 i ∧ wr = (plus (plus ((w.alloc (.cells (wordsOf p) 24)).alloc (.cells (words8 a) 66)) x1) x2).alloc (.cells (cells8 (le i p ++ List.replicate (32 - i) 0)) 5)) (fun v _ => 32 - (intOf v).toNat)
  case atStart => exact ⟨0, by omega, rfl, rfl⟩
  case round =>
    obtain ⟨i, hi, rfl, rfl⟩ := hrel
    by_cases h8 : i < 32
    · have hd : decide ((i : Int) < 32) = true := by simp; omega
      have hl := half_length 32 i p hi
      have hget := cells8_get (show i < (le i p ++ List.replicate (32 - i) 0).length by omega)
      have hw := word_get p (i / 8) (by omega)
      go_wp2_with fail
      go_roundw
      case rel => exact ⟨i + 1, by omega, by go_num, by rw [word_byte, cells8_set, le_set 32 i p h8]⟩
      case measure => simp [intOf]; omega
    · obtain rfl : i = 32 := by omega
      clear h8
      have hc := conv50 ((plus (plus ((w.alloc (.cells (wordsOf p) 24)).alloc (.cells (words8 a) 66)) x1) x2).alloc (.cells (cells8 (le 32 p)) 5)) (w.heap.size + 1 + 1 + x1.blocks.size + x2.blocks.size) 32 32 (le 32 p) rfl (by rw [show w.heap.size + 1 + 1 + x1.blocks.size + x2.blocks.size = (plus (plus ((w.alloc (.cells (wordsOf p) 24)).alloc (.cells (words8 a) 66)) x1) x2).heap.size by simp [size_plus]]; exact heap_new _ _)
      go_wp2_with fail
      refine bodyPost_ret (v := strV (le 32 p)) (by simp [results, Try.results42, go_sem]) rfl ⟨by rw [HP.out], ?_⟩
      repeat (first | exact Below.refl _ _ | refine Below.setCell ?_ (by first | (simp; done) | (simp; omega) | (simp [size_plus]; done) | (simp [size_plus]; omega)) _ | refine Below.alloc ?_ (by first | (simp; done) | (simp; omega) | (simp [size_plus]; done) | (simp [size_plus]; omega)) _ | refine Below.drew ?_ | refine Below.plus ?_ (by first | (simp; done) | (simp; omega) | (simp [size_plus]; done) | (simp [size_plus]; omega)) _)
end Go.Proofs.Ytihbjlpohjohpaa
