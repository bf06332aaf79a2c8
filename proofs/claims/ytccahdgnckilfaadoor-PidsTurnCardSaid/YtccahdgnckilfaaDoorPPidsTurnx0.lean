-- Laid by this session's own printer (pp.py in the repo's wip/pp).
import Derived.Test.YtccahdgnckilfaaDoorProg
import Derived.Below
import Derived.Deep.Draws
import Derived.Deep.AppendLies
import Derived.Maps.AppendAt
import Derived.OwnWalk
import Derived.Laws.BytesArg
import Derived.Laws.MakeOwn
import Derived.Laws.OwnMore
import Derived.Deep.OwnRows
import Derived.Tactics
import Derived.Lib.ConvBytes
import Derived.Laws.Slices
import Derived.WalkKit
import Derived.KernelRfl
import Derived.RowKit3
import Derived.Deep.LoopGhost
import Derived.Deep.QuietTactic
import Derived.BigQuiet
import Derived.WideLaws
import Derived.Deep.DeepCutAuto
import Derived.Deep.CutBlock
import Derived.Deep.RegionHeld3
import Derived.Laws.Rows
import Derived.Lib.AppendStr
import Derived.ArgAppend
import Derived.Laws.IdiomCopy
import Derived.OrdersHeld
import Derived.Laws.BitsLemmas
import Derived.RowKit
import Derived.LaidEql
import Derived.Stop.Asserts
import Derived.RowKitTokens
import Derived.Test.YtccahdgnckilfaaDoorWWords
import Derived.Test.YtccahdgnckilfaaDoorWLast
import Derived.Test.YtccahdgnckilfaaDoorWTab
import Derived.Test.YtccahdgnckilfaaDoorWFour
import Derived.Test.YtccahdgnckilfaaDoorWQPut
import Derived.Test.YtccahdgnckilfaaDoorWApart
import Derived.Test.YtccahdgnckilfaaDoorWArr
import Derived.Test.YtccahdgnckilfaaDoorWZeros
import Derived.Test.YtccahdgnckilfaaDoorWFoot
import Derived.Test.YtccahdgnckilfaaDoorWKept
import Derived.Test.YtccahdgnckilfaaDoorWShare
import Derived.Test.YtccahdgnckilfaaDoorWN
import Derived.Test.YtccahdgnckilfaaDoorWFootNe
import Derived.Test.YtccahdgnckilfaaDoorWAt
import Derived.Test.YtccahdgnckilfaaDoorWEqStruct
import Derived.Test.YtccahdgnckilfaaDoorWRepsOne
import Derived.Test.YtccahdgnckilfaaDoorWInv
import Derived.Test.YtccahdgnckilfaaDoorWInvWords
import Derived.Test.YtccahdgnckilfaaDoorWGuard
import Derived.Test.YtccahdgnckilfaaDoorWNEv
import Derived.Test.YtccahdgnckilfaaDoorWMore
import Derived.Test.YtccahdgnckilfaaDoorX
namespace Go.Proofs.YtccahdgnckilfaaDoor.PPidsTurn
open Go.RowKit Go.Proofs.YtccahdgnckilfaaDoorW.PrintWords Go.Proofs.YtccahdgnckilfaaDoorW.PrintLast Go.Proofs.YtccahdgnckilfaaDoorW.PrintMore Go.Proofs.YtccahdgnckilfaaDoorX
attribute [local go_sem] max2_int min2_int max_two min_two max_three min_three max_four min_four   -- for this text's walks alone
set_option linter.unusedVariables false
set_option linter.unusedSimpArgs false
set_option linter.unnecessarySimpa false



def errW : Option Int → Value
  | none => .nilIface
  | some c => .iface 35 (.int .i64 c)
theorem errW_none : errW none = .nilIface := rfl
theorem errW_some (c : Int) : errW (some c) = .iface 35 (.int .i64 c) := rfl

theorem info3 : (Tryd.prog.info? 3).map (fun i => (i.zero, i.size, i.bytes)) = some (some (.int .i64 0), 1, 8) := by kernel_rfl
theorem info4 : (Tryd.prog.info? 4).map (fun i => (i.zero, i.size, i.bytes)) = some (some (.bool false), 1, 1) := by kernel_rfl
-- the values' own types

end Go.Proofs.YtccahdgnckilfaaDoor.PPidsTurn
