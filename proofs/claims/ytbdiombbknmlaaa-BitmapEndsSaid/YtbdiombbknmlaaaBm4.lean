/- Walks: the runs that have places. -/
import Derived.Test.YtbdiombbknmlaaaBm3
namespace Go.Proofs.Ytbdiombbknmlaaa
open Go.RowKit

def realN (l : List Run) : List Run := l.filter fun x => decide (1 ≤ x.2)
theorem real_any (W : World) (v : Value) (l : List Run) (h : RIn W v l) (hl : l.length ≤ 1000000) : Calls Try.prog 13 #[v] W fun e w' => ∃ v', e = .returned v' ∧ RR W w' v' (realN l) := by
  have HC := Lib.hid (clone_any W v l h hl)
  clear h
  go_enter Try.func13, Try.ntmps13
  go_wp2_with fail
  refine HC.out.mono ?_
  rintro _ V ⟨v1, rfl, hR⟩
  have HD := Lib.hid (delete_any hR hl)
  clear hR HC
  go_wp2_with fail
  refine HD.out.mono ?_
  rintro _ V2 ⟨v2, rfl, hR⟩
  have HR := Lib.hid hR
  clear hR HD
  go_wp2_with fail
  exact bodyPost_ret (v := v2) (by simp [results, Try.results13, go_sem]) rfl ⟨_, rfl, HR.out⟩
end Go.Proofs.Ytbdiombbknmlaaa
