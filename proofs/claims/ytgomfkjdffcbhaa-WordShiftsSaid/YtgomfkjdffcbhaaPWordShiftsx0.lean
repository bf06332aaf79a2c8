-- Laid by this session's own printer (pp.py in the repo's wip/pp).
import Derived.Test.YtgomfkjdffcbhaaProg
import Derived.Below
import Derived.Deep.Draws
import Derived.Deep.AppendLies
import Derived.Maps.AppendAt
import Derived.OwnWalk
import Derived.Laws.BytesArg
import Derived.Laws.MakeOwn
import Derived.Laws.OwnMore
import Derived.Deep.OwnRows
import Derived.Tactics
import Derived.Lib.ConvBytes
import Derived.Laws.Slices
import Derived.WalkKit
import Derived.KernelRfl
import Derived.RowKit3
import Derived.Deep.LoopGhost
import Derived.Deep.QuietTactic
import Derived.BigQuiet
import Derived.WideLaws
import Derived.Deep.DeepCutAuto
import Derived.Deep.CutBlock
import Derived.Deep.RegionHeld3
import Derived.Laws.Rows
import Derived.Lib.AppendStr
import Derived.ArgAppend
import Derived.Laws.IdiomCopy
import Derived.OrdersHeld
import Derived.Laws.BitsLemmas
import Derived.RowKit
import Derived.LaidEql
import Derived.Stop.Asserts
import Derived.RowKitTokens
import Derived.Test.YtgomfkjdffcbhaaWWords
import Derived.Test.YtgomfkjdffcbhaaWLast
import Derived.Test.YtgomfkjdffcbhaaWTab
import Derived.Test.YtgomfkjdffcbhaaWFour
import Derived.Test.YtgomfkjdffcbhaaWQPut
import Derived.Test.YtgomfkjdffcbhaaWApart
import Derived.Test.YtgomfkjdffcbhaaWArr
import Derived.Test.YtgomfkjdffcbhaaWZeros
import Derived.Test.YtgomfkjdffcbhaaWFoot
import Derived.Test.YtgomfkjdffcbhaaWKept
import Derived.Test.YtgomfkjdffcbhaaWShare
import Derived.Test.YtgomfkjdffcbhaaWN
import Derived.Test.YtgomfkjdffcbhaaWFootNe
import Derived.Test.YtgomfkjdffcbhaaWAt
import Derived.Test.YtgomfkjdffcbhaaWEqStruct
import Derived.Test.YtgomfkjdffcbhaaWRepsOne
import Derived.Test.YtgomfkjdffcbhaaWInv
import Derived.Test.YtgomfkjdffcbhaaWInvWords
import Derived.Test.YtgomfkjdffcbhaaWGuard
import Derived.Test.YtgomfkjdffcbhaaWNEv
import Derived.Test.YtgomfkjdffcbhaaWMore
import Derived.Test.YtgomfkjdffcbhaaX
namespace Go.Proofs.Ytgomfkjdffcbhaa.PWordShifts
open Go.RowKit Go.Proofs.YtgomfkjdffcbhaaW.PrintWords Go.Proofs.YtgomfkjdffcbhaaW.PrintLast Go.Proofs.YtgomfkjdffcbhaaW.PrintMore Go.Proofs.YtgomfkjdffcbhaaX
attribute [local go_sem] max2_int min2_int max_two min_two max_three min_three max_four min_four   -- for this text's walks alone
set_option linter.unusedVariables false
set_option linter.unusedSimpArgs false
set_option linter.unnecessarySimpa false



def errW : Option Int → Value
  | none => .nilIface
  | some c => .iface 48 (.int .i64 c)
theorem errW_none : errW none = .nilIface := rfl
theorem errW_some (c : Int) : errW (some c) = .iface 48 (.int .i64 c) := rfl

theorem info5 : (Try.prog.info? 5).map (fun i => (i.zero, i.size, i.bytes)) = some (some (.int .u8 0), 1, 1) := by kernel_rfl
-- the values' own types

end Go.Proofs.Ytgomfkjdffcbhaa.PWordShifts
