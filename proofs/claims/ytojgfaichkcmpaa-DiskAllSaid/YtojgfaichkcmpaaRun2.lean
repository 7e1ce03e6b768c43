/- The walks of run at sizes that may not be, of DiskAll. -/
import Derived.Test.YtojgfaichkcmpaaRun1
namespace Go.Proofs.Ytojgfaichkcmpaa
open Go.RowKit

set_option maxRecDepth 100000 in
theorem run_bad (n : Int) (v : Value) (w : World) (h : n < 32 ∨ 4096 < n) : Ret Try.prog 19 #[.int .i64 n, v] w (.bool true) := by
  refine .of ?_
  by_cases h1 : n < 32
  · have d1 : decide (n < 32) = true := by simp [h1]
    go_enter Try.func19, Try.ntmps19
    go_wp2_with fail
    refine (new_bad n w h).below.mono ?_
    rintro _ V1 ⟨rfl, hx⟩
    go_wp2_with fail
    refine (err_ret 1 _).below.mono ?_
    rintro _ V2 ⟨rfl, hy⟩
    go_wp2_with fail
    exact bodyPost_ret (v := .bool true) (by simp [results, Try.results19, go_sem]) rfl ⟨rfl, hx.trans (hy.mono hx.size)⟩
  · have d1 : decide (n < 32) = false := by simp; omega
    have d2 : decide (4096 < n) = true := by simp; omega
    go_enter Try.func19, Try.ntmps19
    go_wp2_with fail
    refine (new_bad n w h).below.mono ?_
    rintro _ V1 ⟨rfl, hx⟩
    go_wp2_with fail
    refine (err_ret 1 _).below.mono ?_
    rintro _ V2 ⟨rfl, hy⟩
    go_wp2_with fail
    exact bodyPost_ret (v := .bool true) (by simp [results, Try.results19, go_sem]) rfl ⟨rfl, hx.trans (hy.mono hx.size)⟩
set_option maxRecDepth 100000 in
/-- DiskAll's own function. -/
theorem diskAll_any (n : Int) (v : Value) (l : List AskN) (w : World) (hl : AsksW w v l) : Ret Try.prog 6 #[.int .i64 n, v] w (.bool true) := by
  refine .of ?_
  obtain ⟨A, c, rfl⟩ := hl.form
  have HL := Lib.hid hl
  clear hl
  by_cases h60 : 60 < l.length
  · have d0 : decide ((60 : Int) < (l.length : Int)) = true := by simp; omega
    go_enter Try.func6, Try.ntmps6
    go_wp2_with fail
    refine (awake_any _).below.mono ?_
    rintro _ V1 ⟨rfl, hx⟩
    go_wp2_with fail
    exact bodyPost_ret (v := .bool true) (by simp [results, Try.results6, go_sem]) rfl ⟨rfl, hx⟩
  · have d0 : decide ((60 : Int) < (l.length : Int)) = false := by simp; omega
    by_cases hmid : 200 < n ∧ n ≤ 4096
    · have d1 : decide (200 < n) = true := by simp [hmid.1]
      have d2 : decide (n ≤ 4096) = true := by simp [hmid.2]
      go_enter Try.func6, Try.ntmps6
      go_wp2_with fail
      refine (awake_any _).below.mono ?_
      rintro _ V1 ⟨rfl, hx⟩
      go_wp2_with fail
      exact bodyPost_ret (v := .bool true) (by simp [results, Try.results6, go_sem]) rfl ⟨rfl, hx⟩
    · have hrun : Ret Try.prog 19 #[.int .i64 n, .slice A l.length c] w (.bool true) := by
        by_cases hb : n < 32 ∨ 4096 < n
        · exact run_bad n _ w hb
        · obtain ⟨m, rfl⟩ : ∃ m : Nat, n = (m : Int) := ⟨n.toNat, by omega⟩
          exact run_any m _ l w HL.out (by omega) (by omega) (by omega)
      have HRUN := Lib.hid hrun
      clear hrun
      by_cases h200 : 200 < n
      · have d1 : decide (200 < n) = true := by simp [h200]
        have d2 : decide (n ≤ 4096) = false := by simp; omega
        go_enter Try.func6, Try.ntmps6
        go_wp2_with fail
        refine HRUN.out.below.mono ?_
        rintro _ V1 ⟨rfl, hx⟩
        go_wp2_with fail
        refine (awake_any _).below.mono ?_
        rintro _ V2 ⟨rfl, hy⟩
        go_wp2_with fail
        exact bodyPost_ret (v := .bool true) (by simp [results, Try.results6, go_sem]) rfl ⟨rfl, hx.trans (hy.mono hx.size)⟩
      · have d1 : decide (200 < n) = false := by simp; omega
        go_enter Try.func6, Try.ntmps6
        go_wp2_with fail
        refine HRUN.out.below.mono ?_
        rintro _ V1 ⟨rfl, hx⟩
        go_wp2_with fail
        refine (awake_any _).below.mono ?_
        rintro _ V2 ⟨rfl, hy⟩
        go_wp2_with fail
        exact bodyPost_ret (v := .bool true) (by simp [results, Try.results6, go_sem]) rfl ⟨rfl, hx.trans (hy.mono hx.size)⟩
end Go.Proofs.Ytojgfaichkcmpaa
