/- Functions of the translation, told as Lean functions, with their contracts: written by a program. -/
import Derived.Test.YtocecgdblhjojaaGreatDoorProg
import Derived.Below
import Derived.Deep.Draws
import Derived.Deep.AppendLies
import Derived.Maps.AppendAt
import Derived.OwnWalk
import Derived.Laws.BytesArg
import Derived.Laws.MakeOwn
import Derived.Laws.OwnMore
import Derived.Deep.OwnRows
import Derived.Tactics
import Derived.Lib.ConvBytes
import Derived.Laws.Slices
import Derived.WalkKit
import Derived.KernelRfl
import Derived.RowKit3
import Derived.Deep.LoopGhost
import Derived.Deep.QuietTactic
import Derived.BigQuiet
import Derived.WideLaws
import Derived.Deep.DeepCutAuto
import Derived.Deep.CutBlock
import Derived.Deep.RegionHeld3
import Derived.Laws.Rows
import Derived.Lib.AppendStr
import Derived.ArgAppend
import Derived.Laws.IdiomCopy
import Derived.OrdersHeld
import Derived.Laws.BitsLemmas
import Derived.RowKit
import Derived.Test.YtocecgdblhjojaaGreatDoorAlive
import Derived.Test.YtocecgdblhjojaaGreatDoorWWords
import Derived.Test.YtocecgdblhjojaaGreatDoorWLast
import Derived.Test.YtocecgdblhjojaaGreatDoorWTab
import Derived.Test.YtocecgdblhjojaaGreatDoorWFour
import Derived.Test.YtocecgdblhjojaaGreatDoorWQPut
import Derived.Test.YtocecgdblhjojaaGreatDoorWApart
import Derived.Test.YtocecgdblhjojaaGreatDoorWArr
import Derived.Test.YtocecgdblhjojaaGreatDoorWZeros
import Derived.Test.YtocecgdblhjojaaGreatDoorWFoot
import Derived.Test.YtocecgdblhjojaaGreatDoorWKept
import Derived.Test.YtocecgdblhjojaaGreatDoorWShare
import Derived.Test.YtocecgdblhjojaaGreatDoorWN
import Derived.Test.YtocecgdblhjojaaGreatDoorWFootNe
import Derived.Test.YtocecgdblhjojaaGreatDoorWAt
import Derived.Test.YtocecgdblhjojaaGreatDoorWEqStruct
import Derived.Test.YtocecgdblhjojaaGreatDoorWRepsOne
import Derived.Test.YtocecgdblhjojaaGreatDoorWInv
import Derived.Test.YtocecgdblhjojaaGreatDoorWInvWords
import Derived.Test.YtocecgdblhjojaaGreatDoorWGuard
import Derived.Test.YtocecgdblhjojaaGreatDoorWNEv
import Derived.Test.YtocecgdblhjojaaGreatDoorWMore
namespace Go.Proofs.YtocecgdblhjojaaGreatDoor.PQuotes
open Go.RowKit Go.Proofs.YtocecgdblhjojaaGreatDoorW.PrintWords Go.Proofs.YtocecgdblhjojaaGreatDoorW.PrintLast Go.Proofs.YtocecgdblhjojaaGreatDoorW.PrintMore
attribute [local go_sem] max2_int min2_int max_two min_two max_three min_three max_four min_four   -- for this text's walks alone
set_option linter.unusedVariables false
set_option linter.unusedSimpArgs false



def errW : Option Int → Value
  | none => .nilIface
  | some c => .iface 0 (.int .i64 c)
theorem errW_none : errW none = .nilIface := rfl
theorem errW_some (c : Int) : errW (some c) = .iface 0 (.int .i64 c) := rfl

theorem info5 : (Tryz.prog.info? 5).map (fun i => (i.zero, i.size, i.bytes)) = some (some (.int .u8 0), 1, 1) := by kernel_rfl
-- the values' own types

end Go.Proofs.YtocecgdblhjojaaGreatDoor.PQuotes
