/- Walks: a disk that there is not; New that refuses; calls that change nothing, as contracts over new blocks alone. -/
import Derived.Test.YtojgfaichkcmpaaRead4
namespace Go.Proofs.Ytojgfaichkcmpaa
open Go.RowKit

theorem Ret.same {f : FuncId} {args : Array Value} {w : World} {v : Value} (h : Calls Try.prog f args w fun e w' => e = .returned v ∧ w' = w) : Ret Try.prog f args w v := Ret.of (h.mono fun _ _ ⟨h1, h2⟩ => ⟨h1, h2 ▸ Below.refl _ _⟩)
theorem err_ret (n : Int) (w : World) : Ret Try.prog 10 #[.int .i64 n] w (.int .i64 n) := .same (err_any n w)
theorem sector_ret (l : List UInt8) (w : World) : Ret Try.prog 12 #[strV l] w (strV (secN l)) := .of (sector_any l w)
theorem new_bad (n : Int) (w : World) (h : n < 32 ∨ 4096 < n) : Ret Try.prog 9 #[.int .i64 n] w (.tuple #[.pointer none, .int .i64 1]) := by
  refine .of ?_
  by_cases h1 : n < 32
  · have hd : decide (n < 32) = true := by simp [h1]
    go_enter Try.func9, Try.ntmps9
    go_wp2_with fail
    exact bodyPost_ret (v := .tuple #[.pointer none, .int .i64 1]) (by simp [results, Try.results9, go_sem]) rfl ⟨rfl, Below.refl _ _⟩
  · have hd : decide (n < 32) = false := by simp [h1]
    have hd2 : decide (4096 < n) = true := by simp; omega
    go_enter Try.func9, Try.ntmps9
    go_wp2_with fail
    exact bodyPost_ret (v := .tuple #[.pointer none, .int .i64 1]) (by simp [results, Try.results9, go_sem]) rfl ⟨rfl, Below.refl _ _⟩
theorem len_nil (w : World) : Ret Try.prog 22 #[.pointer none] w (.int .i64 0) := by
  refine .of ?_
  go_enter Try.func22, Try.ntmps22
  go_wp2_with fail
  exact bodyPost_ret (v := .int .i64 0) (by simp [results, Try.results22, go_sem]) rfl ⟨rfl, Below.refl _ _⟩
theorem loose_nil (w : World) : Ret Try.prog 18 #[.pointer none] w (.int .i64 0) := by
  refine .of ?_
  go_enter Try.func18, Try.ntmps18
  go_wp2_with fail
  exact bodyPost_ret (v := .int .i64 0) (by simp [results, Try.results18, go_sem]) rfl ⟨rfl, Below.refl _ _⟩
theorem flush_nil (w : World) : Ret Try.prog 13 #[.pointer none] w (.int .i64 1) := by
  refine .of ?_
  go_enter Try.func13, Try.ntmps13
  go_wp2_with fail
  exact bodyPost_ret (v := .int .i64 1) (by simp [results, Try.results13, go_sem]) rfl ⟨rfl, Below.refl _ _⟩
theorem write_nil (i : Int) (s : List UInt8) (w : World) : Ret Try.prog 11 #[.pointer none, .int .i64 i, strV s] w (.int .i64 1) := by
  refine .of ?_
  go_enter Try.func11, Try.ntmps11
  go_wp2_with fail
  exact bodyPost_ret (v := .int .i64 1) (by simp [results, Try.results11, go_sem]) rfl ⟨rfl, Below.refl _ _⟩
theorem turn_nil (i k b : Int) (w : World) : Ret Try.prog 21 #[.pointer none, .int .i64 i, .int .i64 k, .int .i64 b] w (.int .i64 1) := by
  refine .of ?_
  go_enter Try.func21, Try.ntmps21
  go_wp2_with fail
  exact bodyPost_ret (v := .int .i64 1) (by simp [results, Try.results21, go_sem]) rfl ⟨rfl, Below.refl _ _⟩
theorem fuse_nil (n : Int) (w : World) : Calls Try.prog 14 #[.pointer none, .int .i64 n] w fun e w' => (∃ v, e = .returned v) ∧ w' = w := by
  go_enter Try.func14, Try.ntmps14
  go_wp2_with fail
  go_end0
  exact ⟨⟨_, rfl⟩, rfl⟩
theorem crash_nil (v : Value) (w : World) : Calls Try.prog 16 #[.pointer none, v] w fun e w' => (∃ v, e = .returned v) ∧ w' = w := by
  go_enter Try.func16, Try.ntmps16
  go_wp2_with fail
  exact bodyPost_ret (results_none rfl _ _ _) rfl ⟨⟨_, rfl⟩, rfl⟩
set_option maxRecDepth 100000 in
theorem read_nil (i : Int) (w : World) : Ret Try.prog 15 #[.pointer none, .int .i64 i] w (.tuple #[strV [], .int .i64 1]) := by
  refine .of ?_
  rw [← callsIn_wide (n := 12)]
  refine callsIn_of_wp_marks Try.func15 rfl trivial ?_ rfl
  simp only [Try.ntmps15, List.size_toArray, List.length_cons, List.length_nil, Nat.reduceAdd, Nat.reduceSub, Array.replicate_succ, Array.replicate_zero, List.push_toArray, List.append_toArray, List.nil_append, List.cons_append]
  gi_wp2
  refine ⟨.tuple #[strV [], .int .i64 1], by simp [results, Try.results15, go_sem], rfl, ?_⟩
  repeat (first | exact Below.refl _ _ | refine Below.setCell ?_ (by first | (simp; done) | (simp; omega) | (simp [size_plus]; done) | (simp [size_plus]; omega)) _ | refine Below.alloc ?_ (by first | (simp; done) | (simp; omega) | (simp [size_plus]; done) | (simp [size_plus]; omega)) _ | refine Below.drew ?_ | refine Below.plus ?_ (by first | (simp; done) | (simp; omega) | (simp [size_plus]; done) | (simp [size_plus]; omega)) _)
theorem turn_bad {W : World} {p f : Nat} {lv : Value} {S : DS} (h : DiskAt W p f lv S) (i k b : Int) (hb : ¬ (0 ≤ i ∧ i < S.firm.length) ∨ k < 0 ∨ 64 ≤ k ∨ b < 1 ∨ 255 < b) :
    Ret Try.prog 21 #[ptr p, .int .i64 i, .int .i64 k, .int .i64 b] W (.int .i64 1) := by
  refine .of ?_
  obtain ⟨c0, c1, c2, c3, hf⟩ := h.cells
  have k25 := has_any h i
  obtain ⟨A, z, rfl⟩ := h.form
  by_cases hi : 0 ≤ i ∧ i < S.firm.length
  · rw [decide_eq_true hi] at k25
    have hg : k < 0 ∨ 64 ≤ k ∨ b < 1 ∨ 255 < b := hb.resolve_left (fun h => h hi)
    go_enter Try.func21, Try.ntmps21
    go_wp2_with fail
    refine k25.mono ?_
    rintro _ W2 ⟨rfl, hW2⟩
    rw [hW2]
    clear hW2
    go_wp2_with fail
    all_goals exact bodyPost_ret (v := .int .i64 1) (by simp [results, Try.results21, go_sem]) rfl ⟨rfl, Below.refl _ _⟩
  · rw [decide_eq_false hi] at k25
    go_enter Try.func21, Try.ntmps21
    go_wp2_with fail
    refine k25.mono ?_
    rintro _ W2 ⟨rfl, hW2⟩
    rw [hW2]
    clear hW2
    go_wp2_with fail
    all_goals exact bodyPost_ret (v := .int .i64 1) (by simp [results, Try.results21, go_sem]) rfl ⟨rfl, Below.refl _ _⟩
/-- A call on a disk that leaves it: as a contract over new blocks alone. -/
theorem len_ret {W : World} {p f : Nat} {lv : Value} {S : DS} (h : DiskAt W p f lv S) : Ret Try.prog 22 #[ptr p] W (.int .i64 (S.firm.length : Int)) := .same (len_any h)
theorem loose_ret {W : World} {p f : Nat} {lv : Value} {S : DS} (h : DiskAt W p f lv S) : Ret Try.prog 18 #[ptr p] W (.int .i64 (S.loose.length : Int)) := .same (loose_any h)
theorem read_ret {W : World} {p f : Nat} {lv : Value} {S : DS} (h : DiskAt W p f lv S) (i : Int) : Ret Try.prog 15 #[ptr p, .int .i64 i] W (.tuple #[strV (S.read i).1, .int .i64 (S.read i).2]) := .of (read_any h i)
end Go.Proofs.Ytojgfaichkcmpaa
