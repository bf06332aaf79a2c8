-- Laid by this session's own printer (pp.py in the repo's wip/pp).
import Derived.Test.YtfoobmiknmpeeaaDoorProg
import Derived.Below
import Derived.Deep.Draws
import Derived.Deep.AppendLies
import Derived.Maps.AppendAt
import Derived.OwnWalk
import Derived.Laws.BytesArg
import Derived.Laws.MakeOwn
import Derived.Laws.OwnMore
import Derived.Deep.OwnRows
import Derived.Tactics
import Derived.Lib.ConvBytes
import Derived.Laws.Slices
import Derived.WalkKit
import Derived.KernelRfl
import Derived.RowKit3
import Derived.Deep.LoopGhost
import Derived.Deep.QuietTactic
import Derived.BigQuiet
import Derived.WideLaws
import Derived.Deep.DeepCutAuto
import Derived.Deep.CutBlock
import Derived.Deep.RegionHeld3
import Derived.Laws.Rows
import Derived.Laws.Tables
import Derived.Deep.WholeRow
import Derived.Lib.AppendStr
import Derived.ArgAppend
import Derived.Laws.IdiomCopy
import Derived.OrdersHeld
import Derived.Laws.BitsLemmas
import Derived.RowKit
import Derived.LaidEql
import Derived.Stop.Asserts
import Derived.RowKitTokens
import Derived.Test.YtfoobmiknmpeeaaDoorWWords
import Derived.Test.YtfoobmiknmpeeaaDoorWLast
import Derived.Test.YtfoobmiknmpeeaaDoorWTab
import Derived.Test.YtfoobmiknmpeeaaDoorWFour
import Derived.Test.YtfoobmiknmpeeaaDoorWQPut
import Derived.Test.YtfoobmiknmpeeaaDoorWApart
import Derived.Test.YtfoobmiknmpeeaaDoorWArr
import Derived.Test.YtfoobmiknmpeeaaDoorWZeros
import Derived.Test.YtfoobmiknmpeeaaDoorWFoot
import Derived.Test.YtfoobmiknmpeeaaDoorWKept
import Derived.Test.YtfoobmiknmpeeaaDoorWShare
import Derived.Test.YtfoobmiknmpeeaaDoorWN
import Derived.Test.YtfoobmiknmpeeaaDoorWFootNe
import Derived.Test.YtfoobmiknmpeeaaDoorWAt
import Derived.Test.YtfoobmiknmpeeaaDoorWEqStruct
import Derived.Test.YtfoobmiknmpeeaaDoorWRepsOne
import Derived.Test.YtfoobmiknmpeeaaDoorWInv
import Derived.Test.YtfoobmiknmpeeaaDoorWInvWords
import Derived.Test.YtfoobmiknmpeeaaDoorWGuard
import Derived.Test.YtfoobmiknmpeeaaDoorWNEv
import Derived.Test.YtfoobmiknmpeeaaDoorWMore
import Derived.Test.YtfoobmiknmpeeaaDoorX
namespace Go.Proofs.YtfoobmiknmpeeaaDoor.PCallsNames
open Go.RowKit Go.Proofs.YtfoobmiknmpeeaaDoorW.PrintWords Go.Proofs.YtfoobmiknmpeeaaDoorW.PrintLast Go.Proofs.YtfoobmiknmpeeaaDoorW.PrintMore Go.Proofs.YtfoobmiknmpeeaaDoorX
attribute [local go_sem] max2_int min2_int max_two min_two max_three min_three max_four min_four   -- for this text's walks alone
set_option linter.unusedVariables false
set_option linter.unusedSimpArgs false
set_option linter.unnecessarySimpa false



def errW : Option Int → Value
  | none => .nilIface
  | some c => .iface 40 (.int .i64 c)
theorem errW_none : errW none = .nilIface := rfl
theorem errW_some (c : Int) : errW (some c) = .iface 40 (.int .i64 c) := rfl

theorem info3 : (Tryd.prog.info? 3).map (fun i => (i.zero, i.size, i.bytes)) = some (some (.int .i64 0), 1, 8) := by kernel_rfl
theorem info9 : (Tryd.prog.info? 9).map (fun i => (i.zero, i.size, i.bytes)) = some (some (.string ⟨#[]⟩), 1, 16) := by kernel_rfl
-- the values' own types

end Go.Proofs.YtfoobmiknmpeeaaDoor.PCallsNames
