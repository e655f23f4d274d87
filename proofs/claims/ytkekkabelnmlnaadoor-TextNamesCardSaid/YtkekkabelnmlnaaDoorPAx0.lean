-- Written by xprint.py, a program of this session, over the kit's print (functions walked by hand are taken as given); Lean checks it.
import Derived.Test.YtkekkabelnmlnaaDoorProg
import Derived.Below
import Derived.Deep.Draws
import Derived.Deep.AppendLies
import Derived.Maps.AppendAt
import Derived.OwnWalk
import Derived.Laws.BytesArg
import Derived.Laws.MakeOwn
import Derived.Laws.OwnMore
import Derived.Deep.OwnRows
import Derived.Tactics
import Derived.Lib.ConvBytes
import Derived.Laws.Slices
import Derived.WalkKit
import Derived.KernelRfl
import Derived.RowKit3
import Derived.Deep.LoopGhost
import Derived.Deep.QuietTactic
import Derived.BigQuiet
import Derived.WideLaws
import Derived.Deep.DeepCutAuto
import Derived.Deep.CutBlock
import Derived.Deep.RegionHeld3
import Derived.Laws.Rows
import Derived.Lib.AppendStr
import Derived.ArgAppend
import Derived.Laws.IdiomCopy
import Derived.OrdersHeld
import Derived.Laws.BitsLemmas
import Derived.RowKit
import Derived.Test.YtkekkabelnmlnaaDoorWWords
import Derived.Test.YtkekkabelnmlnaaDoorWLast
import Derived.Test.YtkekkabelnmlnaaDoorWTab
import Derived.Test.YtkekkabelnmlnaaDoorWFour
import Derived.Test.YtkekkabelnmlnaaDoorWQPut
import Derived.Test.YtkekkabelnmlnaaDoorWApart
import Derived.Test.YtkekkabelnmlnaaDoorWArr
import Derived.Test.YtkekkabelnmlnaaDoorWZeros
import Derived.Test.YtkekkabelnmlnaaDoorWFoot
import Derived.Test.YtkekkabelnmlnaaDoorWKept
import Derived.Test.YtkekkabelnmlnaaDoorWShare
import Derived.Test.YtkekkabelnmlnaaDoorWN
import Derived.Test.YtkekkabelnmlnaaDoorWFootNe
import Derived.Test.YtkekkabelnmlnaaDoorWAt
import Derived.Test.YtkekkabelnmlnaaDoorWEqStruct
import Derived.Test.YtkekkabelnmlnaaDoorWRepsOne
import Derived.Test.YtkekkabelnmlnaaDoorWInv
import Derived.Test.YtkekkabelnmlnaaDoorWInvWords
import Derived.Test.YtkekkabelnmlnaaDoorWGuard
import Derived.Test.YtkekkabelnmlnaaDoorWNEv
import Derived.Test.YtkekkabelnmlnaaDoorWMore
namespace Go.Proofs.YtkekkabelnmlnaaDoor.PA
open Go.RowKit Go.Proofs.YtkekkabelnmlnaaDoorW.PrintWords Go.Proofs.YtkekkabelnmlnaaDoorW.PrintLast Go.Proofs.YtkekkabelnmlnaaDoorW.PrintMore
attribute [local go_sem] max2_int min2_int max_two min_two max_three min_three max_four min_four   -- for this text's walks alone
set_option linter.unusedVariables false
set_option linter.unusedSimpArgs false



def errW : Option Int → Value
  | none => .nilIface
  | some c => .iface 0 (.int .i64 c)
theorem errW_none : errW none = .nilIface := rfl
theorem errW_some (c : Int) : errW (some c) = .iface 0 (.int .i64 c) := rfl

-- the values' own types

end Go.Proofs.YtkekkabelnmlnaaDoor.PA
