/- DiskMade: the walk of the law's own function. -/
import Derived.Test.YtojgfaichkcmpaaAsks1
import Derived.Test.YtojgfaichkcmpaaRun1
namespace Go.Proofs.Ytojgfaichkcmpaa
open Go.RowKit

set_option maxRecDepth 100000 in
theorem diskMade_any (v : Value) (l : List UInt8) (w : World) (hl : U8s w v l) (hcap : ∀ a n c, v = .slice a n c → l.length ≤ c) : Ret Try.prog 7 #[v] w (.bool true) := by
  refine .of ?_
  have HC := Lib.hid (asks_any v l w hl hcap)
  obtain ⟨⟨A, c, rfl⟩, -⟩ := hl.form
  clear hl hcap
  go_enter Try.func7, Try.ntmps7
  go_wp2_with fail
  refine HC.out.mono ?_
  rintro _ V1 ⟨u, L, rfl, hR, hL⟩
  have hb := hR.below
  have HRUN := Lib.hid (run_any 32 u L V1 hR.out (by omega) (by omega) (by omega))
  obtain ⟨uA, uc, rfl⟩ := ownsRow_form hR.row
  clear hR hL HC
  go_wp2_with fail
  refine HRUN.out.below.mono ?_
  rintro _ V2 ⟨rfl, hx⟩
  have hb2 := hb.trans (hx.mono hb.size)
  clear hb hx HRUN
  go_wp2_with fail
  refine (awake_any _).below.mono ?_
  rintro _ V3 ⟨rfl, hy⟩
  have hb3 := hb2.trans (hy.mono hb2.size)
  clear hb2 hy
  go_wp2_with fail
  exact bodyPost_ret (v := .bool true) (by simp [results, Try.results7, go_sem]) rfl ⟨rfl, hb3⟩
end Go.Proofs.Ytojgfaichkcmpaa
