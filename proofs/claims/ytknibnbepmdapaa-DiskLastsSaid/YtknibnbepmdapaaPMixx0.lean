/- Functions of the laws as Lean functions, with their contracts: printed by a variant of the print program of the kit; the functions that it does not take are given by hand in the modules imported. -/
import Derived.Test.YtknibnbepmdapaaProg
import Derived.Below
import Derived.Deep.Draws
import Derived.Deep.AppendLies
import Derived.Maps.AppendAt
import Derived.OwnWalk
import Derived.Laws.BytesArg
import Derived.Laws.MakeOwn
import Derived.Laws.OwnMore
import Derived.Deep.OwnRows
import Derived.Tactics
import Derived.Lib.ConvBytes
import Derived.Laws.Slices
import Derived.WalkKit
import Derived.KernelRfl
import Derived.RowKit3
import Derived.Deep.LoopGhost
import Derived.Deep.QuietTactic
import Derived.BigQuiet
import Derived.WideLaws
import Derived.Deep.DeepCutAuto
import Derived.Deep.CutBlock
import Derived.Deep.RegionHeld3
import Derived.Laws.Rows
import Derived.Lib.AppendStr
import Derived.ArgAppend
import Derived.Laws.IdiomCopy
import Derived.OrdersHeld
import Derived.Laws.BitsLemmas
import Derived.RowKit
import Derived.Test.YtknibnbepmdapaaWWords
import Derived.Test.YtknibnbepmdapaaWLast
import Derived.Test.YtknibnbepmdapaaWTab
import Derived.Test.YtknibnbepmdapaaWFour
import Derived.Test.YtknibnbepmdapaaWQPut
import Derived.Test.YtknibnbepmdapaaWApart
import Derived.Test.YtknibnbepmdapaaWArr
import Derived.Test.YtknibnbepmdapaaWZeros
import Derived.Test.YtknibnbepmdapaaWFoot
import Derived.Test.YtknibnbepmdapaaWKept
import Derived.Test.YtknibnbepmdapaaWShare
import Derived.Test.YtknibnbepmdapaaWN
import Derived.Test.YtknibnbepmdapaaWFootNe
import Derived.Test.YtknibnbepmdapaaWAt
import Derived.Test.YtknibnbepmdapaaWEqStruct
import Derived.Test.YtknibnbepmdapaaWRepsOne
import Derived.Test.YtknibnbepmdapaaWInv
import Derived.Test.YtknibnbepmdapaaWInvWords
import Derived.Test.YtknibnbepmdapaaWGuard
import Derived.Test.YtknibnbepmdapaaWNEv
import Derived.Test.YtknibnbepmdapaaWMore
namespace Go.Proofs.Ytknibnbepmdapaa.PMix
open Go.RowKit Go.Proofs.YtknibnbepmdapaaW.PrintWords Go.Proofs.YtknibnbepmdapaaW.PrintLast Go.Proofs.YtknibnbepmdapaaW.PrintMore
attribute [local go_sem] max2_int min2_int max_two min_two max_three min_three max_four min_four   -- for this text's walks alone
set_option linter.unusedVariables false
set_option linter.unusedSimpArgs false



def errW : Option Int → Value
  | none => .nilIface
  | some c => .iface 0 (.int .i64 c)
theorem errW_none : errW none = .nilIface := rfl
theorem errW_some (c : Int) : errW (some c) = .iface 0 (.int .i64 c) := rfl

-- the values' own types

end Go.Proofs.Ytknibnbepmdapaa.PMix
