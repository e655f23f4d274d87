-- Written by xprint.py, a program of this session, over the kit's print (functions walked by hand are taken as given); Lean checks it.
import Derived.Test.YtehnpmkfgdmmmaaProg
import Derived.Below
import Derived.Deep.Draws
import Derived.Deep.AppendLies
import Derived.Maps.AppendAt
import Derived.OwnWalk
import Derived.Laws.BytesArg
import Derived.Laws.MakeOwn
import Derived.Laws.OwnMore
import Derived.Deep.OwnRows
import Derived.Tactics
import Derived.Lib.ConvBytes
import Derived.Laws.Slices
import Derived.WalkKit
import Derived.KernelRfl
import Derived.RowKit3
import Derived.Deep.LoopGhost
import Derived.Deep.QuietTactic
import Derived.BigQuiet
import Derived.WideLaws
import Derived.Deep.DeepCutAuto
import Derived.Deep.CutBlock
import Derived.Deep.RegionHeld3
import Derived.Laws.Rows
import Derived.Lib.AppendStr
import Derived.ArgAppend
import Derived.Laws.IdiomCopy
import Derived.OrdersHeld
import Derived.Laws.BitsLemmas
import Derived.RowKit
import Derived.Test.YtehnpmkfgdmmmaaWWords
import Derived.Test.YtehnpmkfgdmmmaaWLast
import Derived.Test.YtehnpmkfgdmmmaaWTab
import Derived.Test.YtehnpmkfgdmmmaaWFour
import Derived.Test.YtehnpmkfgdmmmaaWQPut
import Derived.Test.YtehnpmkfgdmmmaaWApart
import Derived.Test.YtehnpmkfgdmmmaaWArr
import Derived.Test.YtehnpmkfgdmmmaaWZeros
import Derived.Test.YtehnpmkfgdmmmaaWFoot
import Derived.Test.YtehnpmkfgdmmmaaWKept
import Derived.Test.YtehnpmkfgdmmmaaWShare
import Derived.Test.YtehnpmkfgdmmmaaWN
import Derived.Test.YtehnpmkfgdmmmaaWFootNe
import Derived.Test.YtehnpmkfgdmmmaaWAt
import Derived.Test.YtehnpmkfgdmmmaaWEqStruct
import Derived.Test.YtehnpmkfgdmmmaaWRepsOne
import Derived.Test.YtehnpmkfgdmmmaaWInv
import Derived.Test.YtehnpmkfgdmmmaaWInvWords
import Derived.Test.YtehnpmkfgdmmmaaWGuard
import Derived.Test.YtehnpmkfgdmmmaaWNEv
import Derived.Test.YtehnpmkfgdmmmaaWMore
namespace Go.Proofs.Ytehnpmkfgdmmmaa.PR
open Go.RowKit Go.Proofs.YtehnpmkfgdmmmaaW.PrintWords Go.Proofs.YtehnpmkfgdmmmaaW.PrintLast Go.Proofs.YtehnpmkfgdmmmaaW.PrintMore
attribute [local go_sem] max2_int min2_int max_two min_two max_three min_three max_four min_four   -- for this text's walks alone
set_option linter.unusedVariables false
set_option linter.unusedSimpArgs false



def errW : Option Int → Value
  | none => .nilIface
  | some c => .iface 0 (.int .i64 c)
theorem errW_none : errW none = .nilIface := rfl
theorem errW_some (c : Int) : errW (some c) = .iface 0 (.int .i64 c) := rfl

-- the values' own types

end Go.Proofs.Ytehnpmkfgdmmmaa.PR
