-- PRINTED BY print.sh 35421559b90ae4d0a3588c463048766b98c2df88dd9212a6774a882060cdf62d: not written by this session
import Derived.Test.YtcadfopmadjanaaProg
import Derived.Below
import Derived.Deep.Draws
import Derived.Deep.AppendLies
import Derived.Maps.AppendAt
import Derived.OwnWalk
import Derived.Laws.BytesArg
import Derived.Laws.MakeOwn
import Derived.Laws.OwnMore
import Derived.Deep.OwnRows
import Derived.Tactics
import Derived.Lib.ConvBytes
import Derived.Laws.Slices
import Derived.WalkKit
import Derived.KernelRfl
import Derived.RowKit3
import Derived.Deep.LoopGhost
import Derived.Deep.QuietTactic
import Derived.BigQuiet
import Derived.WideLaws
import Derived.Deep.DeepCutAuto
import Derived.Deep.CutBlock
import Derived.Deep.RegionHeld3
import Derived.Laws.Rows
import Derived.Lib.AppendStr
import Derived.ArgAppend
import Derived.Laws.IdiomCopy
import Derived.OrdersHeld
import Derived.Laws.BitsLemmas
import Derived.RowKit
import Derived.Test.YtcadfopmadjanaaWWords
import Derived.Test.YtcadfopmadjanaaWLast
import Derived.Test.YtcadfopmadjanaaWTab
import Derived.Test.YtcadfopmadjanaaWFour
import Derived.Test.YtcadfopmadjanaaWQPut
import Derived.Test.YtcadfopmadjanaaWApart
import Derived.Test.YtcadfopmadjanaaWArr
import Derived.Test.YtcadfopmadjanaaWZeros
import Derived.Test.YtcadfopmadjanaaWFoot
import Derived.Test.YtcadfopmadjanaaWKept
import Derived.Test.YtcadfopmadjanaaWShare
import Derived.Test.YtcadfopmadjanaaWN
import Derived.Test.YtcadfopmadjanaaWFootNe
import Derived.Test.YtcadfopmadjanaaWAt
import Derived.Test.YtcadfopmadjanaaWEqStruct
import Derived.Test.YtcadfopmadjanaaWRepsOne
import Derived.Test.YtcadfopmadjanaaWInv
import Derived.Test.YtcadfopmadjanaaWInvWords
import Derived.Test.YtcadfopmadjanaaWGuard
import Derived.Test.YtcadfopmadjanaaWNEv
import Derived.Test.YtcadfopmadjanaaWMore
namespace Go.Proofs.Ytcadfopmadjanaa.PTimesWords
open Go.RowKit Go.Proofs.YtcadfopmadjanaaW.PrintWords Go.Proofs.YtcadfopmadjanaaW.PrintLast Go.Proofs.YtcadfopmadjanaaW.PrintMore
attribute [local go_sem] max2_int min2_int max_two min_two max_three min_three max_four min_four   -- for this text's walks alone
set_option linter.unusedVariables false
set_option linter.unusedSimpArgs false



def errW : Option Int → Value
  | none => .nilIface
  | some c => .iface 0 (.int .i64 c)
theorem errW_none : errW none = .nilIface := rfl
theorem errW_some (c : Int) : errW (some c) = .iface 0 (.int .i64 c) := rfl

theorem info5 : (Try.prog.info? 5).map (fun i => (i.zero, i.size, i.bytes)) = some (some (.int .u8 0), 1, 1) := by kernel_rfl
-- the values' own types

end Go.Proofs.Ytcadfopmadjanaa.PTimesWords
