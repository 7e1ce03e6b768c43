/- Printed by a program (pg.py, over the kit's print): functions, contracts of the Go functions that they stand for, or a row out of them. -/
import Derived.Test.YtalanaongfnndaaDoorProg
import Derived.Below
import Derived.Deep.Draws
import Derived.Deep.AppendLies
import Derived.Maps.AppendAt
import Derived.OwnWalk
import Derived.Laws.BytesArg
import Derived.Laws.MakeOwn
import Derived.Laws.OwnMore
import Derived.Deep.OwnRows
import Derived.Tactics
import Derived.Lib.ConvBytes
import Derived.Laws.Slices
import Derived.WalkKit
import Derived.KernelRfl
import Derived.RowKit3
import Derived.Deep.LoopGhost
import Derived.Deep.QuietTactic
import Derived.BigQuiet
import Derived.WideLaws
import Derived.Deep.DeepCutAuto
import Derived.Deep.CutBlock
import Derived.Deep.RegionHeld3
import Derived.Laws.Rows
import Derived.Lib.AppendStr
import Derived.ArgAppend
import Derived.Laws.IdiomCopy
import Derived.OrdersHeld
import Derived.Laws.BitsLemmas
import Derived.RowKit
import Derived.Test.YtalanaongfnndaaDoorGivC
import Derived.Test.YtalanaongfnndaaDoorWWords
import Derived.Test.YtalanaongfnndaaDoorWLast
import Derived.Test.YtalanaongfnndaaDoorWTab
import Derived.Test.YtalanaongfnndaaDoorWFour
import Derived.Test.YtalanaongfnndaaDoorWQPut
import Derived.Test.YtalanaongfnndaaDoorWApart
import Derived.Test.YtalanaongfnndaaDoorWArr
import Derived.Test.YtalanaongfnndaaDoorWZeros
import Derived.Test.YtalanaongfnndaaDoorWFoot
import Derived.Test.YtalanaongfnndaaDoorWKept
import Derived.Test.YtalanaongfnndaaDoorWShare
import Derived.Test.YtalanaongfnndaaDoorWN
import Derived.Test.YtalanaongfnndaaDoorWFootNe
import Derived.Test.YtalanaongfnndaaDoorWAt
import Derived.Test.YtalanaongfnndaaDoorWEqStruct
import Derived.Test.YtalanaongfnndaaDoorWRepsOne
import Derived.Test.YtalanaongfnndaaDoorWInv
import Derived.Test.YtalanaongfnndaaDoorWInvWords
import Derived.Test.YtalanaongfnndaaDoorWGuard
import Derived.Test.YtalanaongfnndaaDoorWNEv
import Derived.Test.YtalanaongfnndaaDoorWMore
namespace Go.Proofs.YtalanaongfnndaaDoor.G
open Go.RowKit Go.Proofs.YtalanaongfnndaaDoorW.PrintWords Go.Proofs.YtalanaongfnndaaDoorW.PrintLast Go.Proofs.YtalanaongfnndaaDoorW.PrintMore
attribute [local go_sem] max2_int min2_int max_two min_two max_three min_three max_four min_four   -- for this text's walks alone
set_option linter.unusedVariables false
set_option linter.unusedSimpArgs false



def errW : Option Int → Value
  | none => .nilIface
  | some c => .iface 0 (.int .i64 c)
theorem errW_none : errW none = .nilIface := rfl
theorem errW_some (c : Int) : errW (some c) = .iface 0 (.int .i64 c) := rfl

theorem info5 : (Tryd.prog.info? 5).map (fun i => (i.zero, i.size, i.bytes)) = some (some (.int .u8 0), 1, 1) := by kernel_rfl
theorem info9 : (Tryd.prog.info? 9).map (fun i => (i.zero, i.size, i.bytes)) = some (some (.string ⟨#[]⟩), 1, 16) := by kernel_rfl
-- the values' own types

end Go.Proofs.YtalanaongfnndaaDoor.G
