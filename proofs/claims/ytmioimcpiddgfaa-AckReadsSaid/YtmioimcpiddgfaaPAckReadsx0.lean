-- Told by xprint.py, a program of this session's, over the kit's print.py; Lean checks it.
import Derived.Test.YtmioimcpiddgfaaProg
import Derived.Below
import Derived.Deep.Draws
import Derived.Deep.AppendLies
import Derived.Maps.AppendAt
import Derived.OwnWalk
import Derived.Laws.BytesArg
import Derived.Laws.MakeOwn
import Derived.Laws.OwnMore
import Derived.Deep.OwnRows
import Derived.Tactics
import Derived.Lib.ConvBytes
import Derived.Laws.Slices
import Derived.WalkKit
import Derived.KernelRfl
import Derived.RowKit3
import Derived.Deep.LoopGhost
import Derived.Deep.QuietTactic
import Derived.BigQuiet
import Derived.WideLaws
import Derived.Deep.DeepCutAuto
import Derived.Deep.CutBlock
import Derived.Deep.RegionHeld3
import Derived.Laws.Rows
import Derived.Lib.AppendStr
import Derived.ArgAppend
import Derived.Laws.IdiomCopy
import Derived.OrdersHeld
import Derived.Laws.BitsLemmas
import Derived.RowKit
import Derived.WalkSpells
import Derived.Lib.SlBytesConst
import Derived.Outline
import Derived.Test.YtmioimcpiddgfaaWWords
import Derived.Test.YtmioimcpiddgfaaWLast
import Derived.Test.YtmioimcpiddgfaaWTab
import Derived.Test.YtmioimcpiddgfaaWFour
import Derived.Test.YtmioimcpiddgfaaWQPut
import Derived.Test.YtmioimcpiddgfaaWApart
import Derived.Test.YtmioimcpiddgfaaWArr
import Derived.Test.YtmioimcpiddgfaaWZeros
import Derived.Test.YtmioimcpiddgfaaWFoot
import Derived.Test.YtmioimcpiddgfaaWKept
import Derived.Test.YtmioimcpiddgfaaWShare
import Derived.Test.YtmioimcpiddgfaaWN
import Derived.Test.YtmioimcpiddgfaaWFootNe
import Derived.Test.YtmioimcpiddgfaaWAt
import Derived.Test.YtmioimcpiddgfaaWEqStruct
import Derived.Test.YtmioimcpiddgfaaWRepsOne
import Derived.Test.YtmioimcpiddgfaaWInv
import Derived.Test.YtmioimcpiddgfaaWInvWords
import Derived.Test.YtmioimcpiddgfaaWGuard
import Derived.Test.YtmioimcpiddgfaaWNEv
import Derived.Test.YtmioimcpiddgfaaWMore
namespace Go.Proofs.Ytmioimcpiddgfaa.PAckReads
open Go.RowKit Go.Proofs.YtmioimcpiddgfaaW.PrintWords Go.Proofs.YtmioimcpiddgfaaW.PrintLast Go.Proofs.YtmioimcpiddgfaaW.PrintMore
attribute [local go_sem] max2_int min2_int max_two min_two max_three min_three max_four min_four   -- for this text's walks alone
set_option linter.unusedVariables false
set_option linter.unusedSimpArgs false



def errW : Option Int → Value
  | none => .nilIface
  | some c => .iface 0 (.int .i64 c)
theorem errW_none : errW none = .nilIface := rfl
theorem errW_some (c : Int) : errW (some c) = .iface 0 (.int .i64 c) := rfl

theorem info3 : (Try.prog.info? 3).map (fun i => (i.zero, i.size, i.bytes)) = some (some (.int .i64 0), 1, 8) := by kernel_rfl
theorem info5 : (Try.prog.info? 5).map (fun i => (i.zero, i.size, i.bytes)) = some (some (.int .u8 0), 1, 1) := by kernel_rfl
-- the values' own types

end Go.Proofs.Ytmioimcpiddgfaa.PAckReads
