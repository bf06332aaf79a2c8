-- Laid by this session's own printer (pp.py in the repo's wip/pp).
import Derived.Test.YtblecfaecngikaaDoorProg
import Derived.Below
import Derived.Deep.Draws
import Derived.Deep.AppendLies
import Derived.Maps.AppendAt
import Derived.OwnWalk
import Derived.Laws.BytesArg
import Derived.Laws.MakeOwn
import Derived.Laws.OwnMore
import Derived.Deep.OwnRows
import Derived.Tactics
import Derived.Lib.ConvBytes
import Derived.Laws.Slices
import Derived.WalkKit
import Derived.KernelRfl
import Derived.RowKit3
import Derived.Deep.LoopGhost
import Derived.Deep.QuietTactic
import Derived.BigQuiet
import Derived.WideLaws
import Derived.Deep.DeepCutAuto
import Derived.Deep.CutBlock
import Derived.Deep.RegionHeld3
import Derived.Laws.Rows
import Derived.Lib.AppendStr
import Derived.ArgAppend
import Derived.Laws.IdiomCopy
import Derived.OrdersHeld
import Derived.Laws.BitsLemmas
import Derived.RowKit
import Derived.LaidEql
import Derived.Stop.Asserts
import Derived.RowKitTokens
import Derived.Test.YtblecfaecngikaaDoorWWords
import Derived.Test.YtblecfaecngikaaDoorWLast
import Derived.Test.YtblecfaecngikaaDoorWTab
import Derived.Test.YtblecfaecngikaaDoorWFour
import Derived.Test.YtblecfaecngikaaDoorWQPut
import Derived.Test.YtblecfaecngikaaDoorWApart
import Derived.Test.YtblecfaecngikaaDoorWArr
import Derived.Test.YtblecfaecngikaaDoorWZeros
import Derived.Test.YtblecfaecngikaaDoorWFoot
import Derived.Test.YtblecfaecngikaaDoorWKept
import Derived.Test.YtblecfaecngikaaDoorWShare
import Derived.Test.YtblecfaecngikaaDoorWN
import Derived.Test.YtblecfaecngikaaDoorWFootNe
import Derived.Test.YtblecfaecngikaaDoorWAt
import Derived.Test.YtblecfaecngikaaDoorWEqStruct
import Derived.Test.YtblecfaecngikaaDoorWRepsOne
import Derived.Test.YtblecfaecngikaaDoorWInv
import Derived.Test.YtblecfaecngikaaDoorWInvWords
import Derived.Test.YtblecfaecngikaaDoorWGuard
import Derived.Test.YtblecfaecngikaaDoorWNEv
import Derived.Test.YtblecfaecngikaaDoorWMore
import Derived.Test.YtblecfaecngikaaDoorX
namespace Go.Proofs.YtblecfaecngikaaDoor.PCredLaws
open Go.RowKit Go.Proofs.YtblecfaecngikaaDoorW.PrintWords Go.Proofs.YtblecfaecngikaaDoorW.PrintLast Go.Proofs.YtblecfaecngikaaDoorW.PrintMore Go.Proofs.YtblecfaecngikaaDoorX
attribute [local go_sem] max2_int min2_int max_two min_two max_three min_three max_four min_four   -- for this text's walks alone
set_option linter.unusedVariables false
set_option linter.unusedSimpArgs false



def errW : Option Int → Value
  | none => .nilIface
  | some c => .iface 33 (.int .i64 c)
theorem errW_none : errW none = .nilIface := rfl
theorem errW_some (c : Int) : errW (some c) = .iface 33 (.int .i64 c) := rfl

-- the values' own types

end Go.Proofs.YtblecfaecngikaaDoor.PCredLaws
