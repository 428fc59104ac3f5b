-- Told by xprint.py, a program of this session's, over the kit's print.py; Lean checks it.
import Derived.Test.YtiblpnglmicjcaaProg
import Derived.Below
import Derived.Deep.Draws
import Derived.Deep.AppendLies
import Derived.Maps.AppendAt
import Derived.OwnWalk
import Derived.Laws.BytesArg
import Derived.Laws.MakeOwn
import Derived.Laws.OwnMore
import Derived.Deep.OwnRows
import Derived.Tactics
import Derived.Lib.ConvBytes
import Derived.Laws.Slices
import Derived.WalkKit
import Derived.KernelRfl
import Derived.RowKit3
import Derived.Deep.LoopGhost
import Derived.Deep.QuietTactic
import Derived.BigQuiet
import Derived.WideLaws
import Derived.Deep.DeepCutAuto
import Derived.Deep.CutBlock
import Derived.Deep.RegionHeld3
import Derived.Laws.Rows
import Derived.Lib.AppendStr
import Derived.ArgAppend
import Derived.Laws.IdiomCopy
import Derived.OrdersHeld
import Derived.Laws.BitsLemmas
import Derived.RowKit
import Derived.WalkSpells
import Derived.Lib.SlBytesConst
import Derived.Outline
import Derived.Test.YtiblpnglmicjcaaWWords
import Derived.Test.YtiblpnglmicjcaaWLast
import Derived.Test.YtiblpnglmicjcaaWTab
import Derived.Test.YtiblpnglmicjcaaWFour
import Derived.Test.YtiblpnglmicjcaaWQPut
import Derived.Test.YtiblpnglmicjcaaWApart
import Derived.Test.YtiblpnglmicjcaaWArr
import Derived.Test.YtiblpnglmicjcaaWZeros
import Derived.Test.YtiblpnglmicjcaaWFoot
import Derived.Test.YtiblpnglmicjcaaWKept
import Derived.Test.YtiblpnglmicjcaaWShare
import Derived.Test.YtiblpnglmicjcaaWN
import Derived.Test.YtiblpnglmicjcaaWFootNe
import Derived.Test.YtiblpnglmicjcaaWAt
import Derived.Test.YtiblpnglmicjcaaWEqStruct
import Derived.Test.YtiblpnglmicjcaaWRepsOne
import Derived.Test.YtiblpnglmicjcaaWInv
import Derived.Test.YtiblpnglmicjcaaWInvWords
import Derived.Test.YtiblpnglmicjcaaWGuard
import Derived.Test.YtiblpnglmicjcaaWNEv
import Derived.Test.YtiblpnglmicjcaaWMore
namespace Go.Proofs.Ytiblpnglmicjcaa.PCrcSeals
open Go.RowKit Go.Proofs.YtiblpnglmicjcaaW.PrintWords Go.Proofs.YtiblpnglmicjcaaW.PrintLast Go.Proofs.YtiblpnglmicjcaaW.PrintMore
attribute [local go_sem] max2_int min2_int max_two min_two max_three min_three max_four min_four   -- for this text's walks alone
set_option linter.unusedVariables false
set_option linter.unusedSimpArgs false



def errW : Option Int → Value
  | none => .nilIface
  | some c => .iface 0 (.int .i64 c)
theorem errW_none : errW none = .nilIface := rfl
theorem errW_some (c : Int) : errW (some c) = .iface 0 (.int .i64 c) := rfl

theorem info3 : (Try.prog.info? 3).map (fun i => (i.zero, i.size, i.bytes)) = some (some (.int .i64 0), 1, 8) := by kernel_rfl
theorem info5 : (Try.prog.info? 5).map (fun i => (i.zero, i.size, i.bytes)) = some (some (.int .u8 0), 1, 1) := by kernel_rfl
-- the values' own types

end Go.Proofs.Ytiblpnglmicjcaa.PCrcSeals
