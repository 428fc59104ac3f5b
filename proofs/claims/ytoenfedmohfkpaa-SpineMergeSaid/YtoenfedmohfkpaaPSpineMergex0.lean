-- Told by xprint.py, a program of this session's, over the kit's print.py; Lean checks it.
import Derived.Test.YtoenfedmohfkpaaProg
import Derived.Below
import Derived.Deep.Draws
import Derived.Deep.AppendLies
import Derived.Maps.AppendAt
import Derived.OwnWalk
import Derived.Laws.BytesArg
import Derived.Laws.MakeOwn
import Derived.Laws.OwnMore
import Derived.Deep.OwnRows
import Derived.Tactics
import Derived.Lib.ConvBytes
import Derived.Laws.Slices
import Derived.WalkKit
import Derived.KernelRfl
import Derived.RowKit3
import Derived.Deep.LoopGhost
import Derived.Deep.QuietTactic
import Derived.BigQuiet
import Derived.WideLaws
import Derived.Deep.DeepCutAuto
import Derived.Deep.CutBlock
import Derived.Deep.RegionHeld3
import Derived.Laws.Rows
import Derived.Lib.AppendStr
import Derived.ArgAppend
import Derived.Laws.IdiomCopy
import Derived.OrdersHeld
import Derived.Laws.BitsLemmas
import Derived.RowKit
import Derived.WalkSpells
import Derived.Lib.SlBytesConst
import Derived.Outline
import Derived.Test.YtoenfedmohfkpaaWWords
import Derived.Test.YtoenfedmohfkpaaWLast
import Derived.Test.YtoenfedmohfkpaaWTab
import Derived.Test.YtoenfedmohfkpaaWFour
import Derived.Test.YtoenfedmohfkpaaWQPut
import Derived.Test.YtoenfedmohfkpaaWApart
import Derived.Test.YtoenfedmohfkpaaWArr
import Derived.Test.YtoenfedmohfkpaaWZeros
import Derived.Test.YtoenfedmohfkpaaWFoot
import Derived.Test.YtoenfedmohfkpaaWKept
import Derived.Test.YtoenfedmohfkpaaWShare
import Derived.Test.YtoenfedmohfkpaaWN
import Derived.Test.YtoenfedmohfkpaaWFootNe
import Derived.Test.YtoenfedmohfkpaaWAt
import Derived.Test.YtoenfedmohfkpaaWEqStruct
import Derived.Test.YtoenfedmohfkpaaWRepsOne
import Derived.Test.YtoenfedmohfkpaaWInv
import Derived.Test.YtoenfedmohfkpaaWInvWords
import Derived.Test.YtoenfedmohfkpaaWGuard
import Derived.Test.YtoenfedmohfkpaaWNEv
import Derived.Test.YtoenfedmohfkpaaWMore
namespace Go.Proofs.Ytoenfedmohfkpaa.PSpineMerge
open Go.RowKit Go.Proofs.YtoenfedmohfkpaaW.PrintWords Go.Proofs.YtoenfedmohfkpaaW.PrintLast Go.Proofs.YtoenfedmohfkpaaW.PrintMore
attribute [local go_sem] max2_int min2_int max_two min_two max_three min_three max_four min_four   -- for this text's walks alone
set_option linter.unusedVariables false
set_option linter.unusedSimpArgs false



def errW : Option Int → Value
  | none => .nilIface
  | some c => .iface 0 (.int .i64 c)
theorem errW_none : errW none = .nilIface := rfl
theorem errW_some (c : Int) : errW (some c) = .iface 0 (.int .i64 c) := rfl

theorem info23 : (Try.prog.info? 23).map (fun i => (i.zero, i.size, i.bytes)) = some (some (.int .u32 0), 1, 4) := by kernel_rfl
-- the values' own types

end Go.Proofs.Ytoenfedmohfkpaa.PSpineMerge
