-- Written by xprint.py, a program of this session, over the kit's print (functions walked by hand are taken as given); Lean checks it.
import Derived.Test.YtkekkabelnmlnaaProg
import Derived.Below
import Derived.Deep.Draws
import Derived.Deep.AppendLies
import Derived.Maps.AppendAt
import Derived.OwnWalk
import Derived.Laws.BytesArg
import Derived.Laws.MakeOwn
import Derived.Laws.OwnMore
import Derived.Deep.OwnRows
import Derived.Tactics
import Derived.Lib.ConvBytes
import Derived.Laws.Slices
import Derived.WalkKit
import Derived.KernelRfl
import Derived.RowKit3
import Derived.Deep.LoopGhost
import Derived.Deep.QuietTactic
import Derived.BigQuiet
import Derived.WideLaws
import Derived.Deep.DeepCutAuto
import Derived.Deep.CutBlock
import Derived.Deep.RegionHeld3
import Derived.Laws.Rows
import Derived.Lib.AppendStr
import Derived.ArgAppend
import Derived.Laws.IdiomCopy
import Derived.OrdersHeld
import Derived.Laws.BitsLemmas
import Derived.RowKit
import Derived.Test.YtkekkabelnmlnaaExt
import Derived.Test.YtkekkabelnmlnaaExt2
import Derived.Test.YtkekkabelnmlnaaWWords
import Derived.Test.YtkekkabelnmlnaaWLast
import Derived.Test.YtkekkabelnmlnaaWTab
import Derived.Test.YtkekkabelnmlnaaWFour
import Derived.Test.YtkekkabelnmlnaaWQPut
import Derived.Test.YtkekkabelnmlnaaWApart
import Derived.Test.YtkekkabelnmlnaaWArr
import Derived.Test.YtkekkabelnmlnaaWZeros
import Derived.Test.YtkekkabelnmlnaaWFoot
import Derived.Test.YtkekkabelnmlnaaWKept
import Derived.Test.YtkekkabelnmlnaaWShare
import Derived.Test.YtkekkabelnmlnaaWN
import Derived.Test.YtkekkabelnmlnaaWFootNe
import Derived.Test.YtkekkabelnmlnaaWAt
import Derived.Test.YtkekkabelnmlnaaWEqStruct
import Derived.Test.YtkekkabelnmlnaaWRepsOne
import Derived.Test.YtkekkabelnmlnaaWInv
import Derived.Test.YtkekkabelnmlnaaWInvWords
import Derived.Test.YtkekkabelnmlnaaWGuard
import Derived.Test.YtkekkabelnmlnaaWNEv
import Derived.Test.YtkekkabelnmlnaaWMore
namespace Go.Proofs.Ytkekkabelnmlnaa.PT
open Go.RowKit Go.Proofs.YtkekkabelnmlnaaW.PrintWords Go.Proofs.YtkekkabelnmlnaaW.PrintLast Go.Proofs.YtkekkabelnmlnaaW.PrintMore
attribute [local go_sem] max2_int min2_int max_two min_two max_three min_three max_four min_four   -- for this text's walks alone
set_option linter.unusedVariables false
set_option linter.unusedSimpArgs false



def errW : Option Int → Value
  | none => .nilIface
  | some c => .iface 0 (.int .i64 c)
theorem errW_none : errW none = .nilIface := rfl
theorem errW_some (c : Int) : errW (some c) = .iface 0 (.int .i64 c) := rfl

theorem info5 : (Try.prog.info? 5).map (fun i => (i.zero, i.size, i.bytes)) = some (some (.int .u8 0), 1, 1) := by kernel_rfl
theorem info21 : (Try.prog.info? 21).map (fun i => (i.zero, i.size, i.bytes)) = some (some (.int .i32 0), 1, 4) := by kernel_rfl
-- the values' own types

end Go.Proofs.Ytkekkabelnmlnaa.PT
