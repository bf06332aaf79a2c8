-- Laid by this session's own printer (pp.py in the repo's wip/pp).
import Derived.Test.YtgomfkjdffcbhaaDoorProg
import Derived.Below
import Derived.Deep.Draws
import Derived.Deep.AppendLies
import Derived.Maps.AppendAt
import Derived.OwnWalk
import Derived.Laws.BytesArg
import Derived.Laws.MakeOwn
import Derived.Laws.OwnMore
import Derived.Deep.OwnRows
import Derived.Tactics
import Derived.Lib.ConvBytes
import Derived.Laws.Slices
import Derived.WalkKit
import Derived.KernelRfl
import Derived.RowKit3
import Derived.Deep.LoopGhost
import Derived.Deep.QuietTactic
import Derived.BigQuiet
import Derived.WideLaws
import Derived.Deep.DeepCutAuto
import Derived.Deep.CutBlock
import Derived.Deep.RegionHeld3
import Derived.Laws.Rows
import Derived.Lib.AppendStr
import Derived.ArgAppend
import Derived.Laws.IdiomCopy
import Derived.OrdersHeld
import Derived.Laws.BitsLemmas
import Derived.RowKit
import Derived.LaidEql
import Derived.Stop.Asserts
import Derived.RowKitTokens
import Derived.Test.YtgomfkjdffcbhaaDoorWWords
import Derived.Test.YtgomfkjdffcbhaaDoorWLast
import Derived.Test.YtgomfkjdffcbhaaDoorWTab
import Derived.Test.YtgomfkjdffcbhaaDoorWFour
import Derived.Test.YtgomfkjdffcbhaaDoorWQPut
import Derived.Test.YtgomfkjdffcbhaaDoorWApart
import Derived.Test.YtgomfkjdffcbhaaDoorWArr
import Derived.Test.YtgomfkjdffcbhaaDoorWZeros
import Derived.Test.YtgomfkjdffcbhaaDoorWFoot
import Derived.Test.YtgomfkjdffcbhaaDoorWKept
import Derived.Test.YtgomfkjdffcbhaaDoorWShare
import Derived.Test.YtgomfkjdffcbhaaDoorWN
import Derived.Test.YtgomfkjdffcbhaaDoorWFootNe
import Derived.Test.YtgomfkjdffcbhaaDoorWAt
import Derived.Test.YtgomfkjdffcbhaaDoorWEqStruct
import Derived.Test.YtgomfkjdffcbhaaDoorWRepsOne
import Derived.Test.YtgomfkjdffcbhaaDoorWInv
import Derived.Test.YtgomfkjdffcbhaaDoorWInvWords
import Derived.Test.YtgomfkjdffcbhaaDoorWGuard
import Derived.Test.YtgomfkjdffcbhaaDoorWNEv
import Derived.Test.YtgomfkjdffcbhaaDoorWMore
import Derived.Test.YtgomfkjdffcbhaaDoorX
namespace Go.Proofs.YtgomfkjdffcbhaaDoor.PWordBytes
open Go.RowKit Go.Proofs.YtgomfkjdffcbhaaDoorW.PrintWords Go.Proofs.YtgomfkjdffcbhaaDoorW.PrintLast Go.Proofs.YtgomfkjdffcbhaaDoorW.PrintMore Go.Proofs.YtgomfkjdffcbhaaDoorX
attribute [local go_sem] max2_int min2_int max_two min_two max_three min_three max_four min_four   -- for this text's walks alone
set_option linter.unusedVariables false
set_option linter.unusedSimpArgs false
set_option linter.unnecessarySimpa false



def errW : Option Int → Value
  | none => .nilIface
  | some c => .iface 43 (.int .i64 c)
theorem errW_none : errW none = .nilIface := rfl
theorem errW_some (c : Int) : errW (some c) = .iface 43 (.int .i64 c) := rfl

theorem info5 : (Tryd.prog.info? 5).map (fun i => (i.zero, i.size, i.bytes)) = some (some (.int .u8 0), 1, 1) := by kernel_rfl
-- the values' own types

end Go.Proofs.YtgomfkjdffcbhaaDoor.PWordBytes
