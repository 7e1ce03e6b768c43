/- Printed by a program (pg.py, over the kit's print): functions, contracts of the Go functions that they stand for, or a row out of them. -/
import Derived.Test.YtalanaongfnndaaProg
import Derived.Below
import Derived.Deep.Draws
import Derived.Deep.AppendLies
import Derived.Maps.AppendAt
import Derived.OwnWalk
import Derived.Laws.BytesArg
import Derived.Laws.MakeOwn
import Derived.Laws.OwnMore
import Derived.Deep.OwnRows
import Derived.Tactics
import Derived.Lib.ConvBytes
import Derived.Laws.Slices
import Derived.WalkKit
import Derived.KernelRfl
import Derived.RowKit3
import Derived.Deep.LoopGhost
import Derived.Deep.QuietTactic
import Derived.BigQuiet
import Derived.WideLaws
import Derived.Deep.DeepCutAuto
import Derived.Deep.CutBlock
import Derived.Deep.RegionHeld3
import Derived.Laws.Rows
import Derived.Lib.AppendStr
import Derived.ArgAppend
import Derived.Laws.IdiomCopy
import Derived.OrdersHeld
import Derived.Laws.BitsLemmas
import Derived.RowKit
import Derived.Test.YtalanaongfnndaaGivB
import Derived.Test.YtalanaongfnndaaWWords
import Derived.Test.YtalanaongfnndaaWLast
import Derived.Test.YtalanaongfnndaaWTab
import Derived.Test.YtalanaongfnndaaWFour
import Derived.Test.YtalanaongfnndaaWQPut
import Derived.Test.YtalanaongfnndaaWApart
import Derived.Test.YtalanaongfnndaaWArr
import Derived.Test.YtalanaongfnndaaWZeros
import Derived.Test.YtalanaongfnndaaWFoot
import Derived.Test.YtalanaongfnndaaWKept
import Derived.Test.YtalanaongfnndaaWShare
import Derived.Test.YtalanaongfnndaaWN
import Derived.Test.YtalanaongfnndaaWFootNe
import Derived.Test.YtalanaongfnndaaWAt
import Derived.Test.YtalanaongfnndaaWEqStruct
import Derived.Test.YtalanaongfnndaaWRepsOne
import Derived.Test.YtalanaongfnndaaWInv
import Derived.Test.YtalanaongfnndaaWInvWords
import Derived.Test.YtalanaongfnndaaWGuard
import Derived.Test.YtalanaongfnndaaWNEv
import Derived.Test.YtalanaongfnndaaWMore
namespace Go.Proofs.Ytalanaongfnndaa.G
open Go.RowKit Go.Proofs.YtalanaongfnndaaW.PrintWords Go.Proofs.YtalanaongfnndaaW.PrintLast Go.Proofs.YtalanaongfnndaaW.PrintMore
attribute [local go_sem] max2_int min2_int max_two min_two max_three min_three max_four min_four   -- for this text's walks alone
set_option linter.unusedVariables false
set_option linter.unusedSimpArgs false



def errW : Option Int → Value
  | none => .nilIface
  | some c => .iface 0 (.int .i64 c)
theorem errW_none : errW none = .nilIface := rfl
theorem errW_some (c : Int) : errW (some c) = .iface 0 (.int .i64 c) := rfl

theorem info5 : (Try.prog.info? 5).map (fun i => (i.zero, i.size, i.bytes)) = some (some (.int .u8 0), 1, 1) := by kernel_rfl
-- the values' own types

end Go.Proofs.Ytalanaongfnndaa.G
