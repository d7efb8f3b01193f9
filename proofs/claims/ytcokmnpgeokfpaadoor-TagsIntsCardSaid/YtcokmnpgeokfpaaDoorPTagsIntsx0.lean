-- by wip/pr/gprint.py (the kit's printer with given functions)
import Derived.Test.YtcokmnpgeokfpaaDoorProg
import Derived.Below
import Derived.Deep.Draws
import Derived.Deep.AppendLies
import Derived.Maps.AppendAt
import Derived.OwnWalk
import Derived.Laws.BytesArg
import Derived.Laws.MakeOwn
import Derived.Laws.OwnMore
import Derived.Deep.OwnRows
import Derived.Tactics
import Derived.Lib.ConvBytes
import Derived.Laws.Slices
import Derived.WalkKit
import Derived.KernelRfl
import Derived.RowKit3
import Derived.Deep.LoopGhost
import Derived.Deep.QuietTactic
import Derived.BigQuiet
import Derived.WideLaws
import Derived.Deep.DeepCutAuto
import Derived.Deep.CutBlock
import Derived.Deep.RegionHeld3
import Derived.Laws.Rows
import Derived.Lib.AppendStr
import Derived.ArgAppend
import Derived.Laws.IdiomCopy
import Derived.OrdersHeld
import Derived.Laws.BitsLemmas
import Derived.RowKit
import Derived.Test.YtcokmnpgeokfpaaDoorSup
import Derived.Test.YtcokmnpgeokfpaaDoorWWords
import Derived.Test.YtcokmnpgeokfpaaDoorWLast
import Derived.Test.YtcokmnpgeokfpaaDoorWTab
import Derived.Test.YtcokmnpgeokfpaaDoorWFour
import Derived.Test.YtcokmnpgeokfpaaDoorWQPut
import Derived.Test.YtcokmnpgeokfpaaDoorWApart
import Derived.Test.YtcokmnpgeokfpaaDoorWArr
import Derived.Test.YtcokmnpgeokfpaaDoorWZeros
import Derived.Test.YtcokmnpgeokfpaaDoorWFoot
import Derived.Test.YtcokmnpgeokfpaaDoorWKept
import Derived.Test.YtcokmnpgeokfpaaDoorWShare
import Derived.Test.YtcokmnpgeokfpaaDoorWN
import Derived.Test.YtcokmnpgeokfpaaDoorWFootNe
import Derived.Test.YtcokmnpgeokfpaaDoorWAt
import Derived.Test.YtcokmnpgeokfpaaDoorWEqStruct
import Derived.Test.YtcokmnpgeokfpaaDoorWRepsOne
import Derived.Test.YtcokmnpgeokfpaaDoorWInv
import Derived.Test.YtcokmnpgeokfpaaDoorWInvWords
import Derived.Test.YtcokmnpgeokfpaaDoorWGuard
import Derived.Test.YtcokmnpgeokfpaaDoorWNEv
import Derived.Test.YtcokmnpgeokfpaaDoorWMore
namespace Go.Proofs.YtcokmnpgeokfpaaDoor.PTagsInts
open Go.RowKit Go.Proofs.YtcokmnpgeokfpaaDoorW.PrintWords Go.Proofs.YtcokmnpgeokfpaaDoorW.PrintLast Go.Proofs.YtcokmnpgeokfpaaDoorW.PrintMore
attribute [local go_sem] max2_int min2_int max_two min_two max_three min_three max_four min_four   -- for this text's walks alone
set_option linter.unusedVariables false
set_option linter.unusedSimpArgs false



def errW : Option Int → Value
  | none => .nilIface
  | some c => .iface 0 (.int .i64 c)
theorem errW_none : errW none = .nilIface := rfl
theorem errW_some (c : Int) : errW (some c) = .iface 0 (.int .i64 c) := rfl

theorem info5 : (Tryd.prog.info? 5).map (fun i => (i.zero, i.size, i.bytes)) = some (some (.int .u8 0), 1, 1) := by kernel_rfl
-- the values' own types

end Go.Proofs.YtcokmnpgeokfpaaDoor.PTagsInts
