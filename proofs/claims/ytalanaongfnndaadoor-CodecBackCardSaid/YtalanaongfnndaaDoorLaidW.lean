/- A world for the witnesses: the settled one, Go's two tables for utf8 laid in their blocks. -/
import Derived.Test.YtalanaongfnndaaDoorCards
import Derived.Test.YtalanaongfnndaaDoorTie
import Derived.WalkKit
import Derived.ProofKit
import Derived.OpenShut
import Derived.Deep.DeepHandedRow
import Derived.Lib.LaidTab
namespace Go.Proofs.YtalanaongfnndaaDoor
open Go.ChangeShapes Go.WideShapes Go.ChangeAt Go.RowKit

def litV : DataW Unit → Value
  | .lit (.int k n) => .int k n
  | _ => undef
def cells1 : DataW Unit → List Value
  | .agg xs => xs.map litV
  | _ => []
def cells2 : DataW Unit → List Value
  | .agg xs => xs.flatMap cells1
  | _ => []
def layAt (cs : List Value) : Obj → Obj
  | .cells _ t frozen => .cells cs.toArray t frozen
  | o => o
noncomputable def laidWorld (os : Os) (args : Array Value) : World :=
  { World.holding Tryd.prog os ⟨#[], args, []⟩ with heap := ((World.holding Tryd.prog os ⟨#[], args, []⟩).heap.modify 1 (layAt (cells1 Rows.laid_unicode_utf8_first))).modify 2 (layAt (cells2 Rows.laid_unicode_utf8_acceptRanges)) }
end Go.Proofs.YtalanaongfnndaaDoor
