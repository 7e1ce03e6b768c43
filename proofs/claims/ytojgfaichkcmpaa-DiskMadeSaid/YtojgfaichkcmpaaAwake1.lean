/- Walks: the law's own awake. -/
import Derived.Test.YtojgfaichkcmpaaNil
namespace Go.Proofs.Ytojgfaichkcmpaa
open Go.RowKit

set_option maxRecDepth 100000 in
theorem awake_any (w : World) : Ret Try.prog 17 #[] w (.bool true) := by
  refine .of ?_
  go_enter Try.func17, Try.ntmps17
  go_wp2_with fail
  refine (new_bad 31 _ (by omega)).out.mono ?_
  rintro _ _ ⟨rfl, x1, rfl⟩
  go_wp2_with fail
  refine (new_any 32 _ (by omega) (by omega)).mono ?_
  rintro _ W2 ⟨p, f, rfl, hp, hf, hD, hb⟩
  go_wp2_with fail
  refine (read_ret hD 31).out.mono ?_
  rintro _ _ ⟨rfl, x2, rfl⟩
  rw [show (DS.new 32).read 31 = (zeroS, 0) by rfl]
  go_wp2_with fail
  refine (err_ret 1 _).out.mono ?_
  rintro _ _ ⟨rfl, x3, rfl⟩
  go_wp2_with fail
  refine (err_ret 0 _).out.mono ?_
  rintro _ _ ⟨rfl, x4, rfl⟩
  go_wp2_with fail
  refine (err_ret 0 _).out.mono ?_
  rintro _ _ ⟨rfl, x5, rfl⟩
  obtain ⟨W3, hW3⟩ : ∃ W3, plus (plus (plus (plus W2 x2) x3) x4) x5 = W3 := ⟨_, rfl⟩
  have hB : Below W2.heap.size W2 W3 := by rw [← hW3]; repeat (first | exact Below.refl _ _ | refine Below.setCell ?_ (by first | (simp; done) | (simp; omega) | (simp [size_plus]; done) | (simp [size_plus]; omega)) _ | refine Below.alloc ?_ (by first | (simp; done) | (simp; omega) | (simp [size_plus]; done) | (simp [size_plus]; omega)) _ | refine Below.drew ?_ | refine Below.plus ?_ (by first | (simp; done) | (simp; omega) | (simp [size_plus]; done) | (simp [size_plus]; omega)) _)
  rw [hW3]
  clear hW3
  have hmk := make_bytes 64 (by omega) W3
  rw [show ((64 : Nat) : Int) = 64 from rfl, show List.replicate 64 (0 : UInt8) = zeroS from rfl] at hmk
  have hconv := block_str (W3.alloc (.cells (u8s zeroS).toArray 5)) W3.heap.size 64 64 zeroS rfl (fr := (0, 0)) (new_at W3 _)
  go_wp2_with fail
  refine (len_ret (hD.below (hB.alloc hB.size _))).out.mono ?_
  rintro _ _ ⟨rfl, x6, rfl⟩
  rw [show ((DS.new 32).firm.length : Int) = 32 from rfl]
  go_wp2_with fail
  trace_state
  refine bodyPost_ret (v := .bool true) (by simp [results, Try.results17, go_sem]) rfl ⟨rfl, ?_⟩
  have h1 : Below w.heap.size w W2 := (below_plus w x1).trans (hb.mono (by rw [size_plus]; omega))
  have h2 : Below w.heap.size w W3 := h1.trans (hB.mono h1.size)
  have h3 := h1.size
  have h4 := h2.size
  repeat (first | exact Below.refl _ _ | refine Below.setCell ?_ (by first | (simp; done) | (simp; omega) | (simp [size_plus]; done) | (simp [size_plus]; omega)) _ | refine Below.alloc ?_ (by first | (simp; done) | (simp; omega) | (simp [size_plus]; done) | (simp [size_plus]; omega)) _ | refine Below.drew ?_ | refine Below.plus ?_ (by first | (simp; done) | (simp; omega) | (simp [size_plus]; done) | (simp [size_plus]; omega)) _)
  exact h2.alloc h4 _
end Go.Proofs.Ytojgfaichkcmpaa
