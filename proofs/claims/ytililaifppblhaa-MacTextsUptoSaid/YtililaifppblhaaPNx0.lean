-- Written by xprint.py, a program of this session, over the kit's print (functions walked by hand are taken as given); Lean checks it.
import Derived.Test.YtililaifppblhaaProg
import Derived.Below
import Derived.Deep.Draws
import Derived.Deep.AppendLies
import Derived.Maps.AppendAt
import Derived.OwnWalk
import Derived.Laws.BytesArg
import Derived.Laws.MakeOwn
import Derived.Laws.OwnMore
import Derived.Deep.OwnRows
import Derived.Tactics
import Derived.Lib.ConvBytes
import Derived.Laws.Slices
import Derived.WalkKit
import Derived.KernelRfl
import Derived.RowKit3
import Derived.Deep.LoopGhost
import Derived.Deep.QuietTactic
import Derived.BigQuiet
import Derived.WideLaws
import Derived.Deep.DeepCutAuto
import Derived.Deep.CutBlock
import Derived.Deep.RegionHeld3
import Derived.Laws.Rows
import Derived.Lib.AppendStr
import Derived.ArgAppend
import Derived.Laws.IdiomCopy
import Derived.OrdersHeld
import Derived.Laws.BitsLemmas
import Derived.RowKit
import Derived.Test.YtililaifppblhaaWWords
import Derived.Test.YtililaifppblhaaWLast
import Derived.Test.YtililaifppblhaaWTab
import Derived.Test.YtililaifppblhaaWFour
import Derived.Test.YtililaifppblhaaWQPut
import Derived.Test.YtililaifppblhaaWApart
import Derived.Test.YtililaifppblhaaWArr
import Derived.Test.YtililaifppblhaaWZeros
import Derived.Test.YtililaifppblhaaWFoot
import Derived.Test.YtililaifppblhaaWKept
import Derived.Test.YtililaifppblhaaWShare
import Derived.Test.YtililaifppblhaaWN
import Derived.Test.YtililaifppblhaaWFootNe
import Derived.Test.YtililaifppblhaaWAt
import Derived.Test.YtililaifppblhaaWEqStruct
import Derived.Test.YtililaifppblhaaWRepsOne
import Derived.Test.YtililaifppblhaaWInv
import Derived.Test.YtililaifppblhaaWInvWords
import Derived.Test.YtililaifppblhaaWGuard
import Derived.Test.YtililaifppblhaaWNEv
import Derived.Test.YtililaifppblhaaWMore
namespace Go.Proofs.Ytililaifppblhaa.PN
open Go.RowKit Go.Proofs.YtililaifppblhaaW.PrintWords Go.Proofs.YtililaifppblhaaW.PrintLast Go.Proofs.YtililaifppblhaaW.PrintMore
attribute [local go_sem] max2_int min2_int max_two min_two max_three min_three max_four min_four   -- for this text's walks alone
set_option linter.unusedVariables false
set_option linter.unusedSimpArgs false



def errW : Option Int → Value
  | none => .nilIface
  | some c => .iface 0 (.int .i64 c)
theorem errW_none : errW none = .nilIface := rfl
theorem errW_some (c : Int) : errW (some c) = .iface 0 (.int .i64 c) := rfl

theorem info5 : (Try.prog.info? 5).map (fun i => (i.zero, i.size, i.bytes)) = some (some (.int .u8 0), 1, 1) := by kernel_rfl
-- the values' own types

end Go.Proofs.Ytililaifppblhaa.PN
