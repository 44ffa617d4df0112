-- PRINTED BY print.sh 35421559b90ae4d0a3588c463048766b98c2df88dd9212a6774a882060cdf62d: not written by this session
import Derived.Test.YtfiaiadcldgclaaProg
import Derived.Below
import Derived.Deep.Draws
import Derived.Deep.AppendLies
import Derived.Maps.AppendAt
import Derived.OwnWalk
import Derived.Laws.BytesArg
import Derived.Laws.MakeOwn
import Derived.Laws.OwnMore
import Derived.Deep.OwnRows
import Derived.Tactics
import Derived.Lib.ConvBytes
import Derived.Laws.Slices
import Derived.WalkKit
import Derived.KernelRfl
import Derived.RowKit3
import Derived.Deep.LoopGhost
import Derived.Deep.QuietTactic
import Derived.BigQuiet
import Derived.WideLaws
import Derived.Deep.DeepCutAuto
import Derived.Deep.CutBlock
import Derived.Deep.RegionHeld3
import Derived.Laws.Rows
import Derived.Lib.AppendStr
import Derived.ArgAppend
import Derived.Laws.IdiomCopy
import Derived.OrdersHeld
import Derived.Laws.BitsLemmas
import Derived.RowKit
import Derived.Test.YtfiaiadcldgclaaWWords
import Derived.Test.YtfiaiadcldgclaaWLast
import Derived.Test.YtfiaiadcldgclaaWTab
import Derived.Test.YtfiaiadcldgclaaWFour
import Derived.Test.YtfiaiadcldgclaaWQPut
import Derived.Test.YtfiaiadcldgclaaWApart
import Derived.Test.YtfiaiadcldgclaaWArr
import Derived.Test.YtfiaiadcldgclaaWZeros
import Derived.Test.YtfiaiadcldgclaaWFoot
import Derived.Test.YtfiaiadcldgclaaWKept
import Derived.Test.YtfiaiadcldgclaaWShare
import Derived.Test.YtfiaiadcldgclaaWN
import Derived.Test.YtfiaiadcldgclaaWFootNe
import Derived.Test.YtfiaiadcldgclaaWAt
import Derived.Test.YtfiaiadcldgclaaWEqStruct
import Derived.Test.YtfiaiadcldgclaaWRepsOne
import Derived.Test.YtfiaiadcldgclaaWInv
import Derived.Test.YtfiaiadcldgclaaWInvWords
import Derived.Test.YtfiaiadcldgclaaWGuard
import Derived.Test.YtfiaiadcldgclaaWNEv
import Derived.Test.YtfiaiadcldgclaaWMore
namespace Go.Proofs.Ytfiaiadcldgclaa.PFnExactItemOk
open Go.RowKit Go.Proofs.YtfiaiadcldgclaaW.PrintWords Go.Proofs.YtfiaiadcldgclaaW.PrintLast Go.Proofs.YtfiaiadcldgclaaW.PrintMore
attribute [local go_sem] max2_int min2_int max_two min_two max_three min_three max_four min_four   -- for this text's walks alone
set_option linter.unusedVariables false
set_option linter.unusedSimpArgs false



def errW : Option Int → Value
  | none => .nilIface
  | some c => .iface 0 (.int .i64 c)
theorem errW_none : errW none = .nilIface := rfl
theorem errW_some (c : Int) : errW (some c) = .iface 0 (.int .i64 c) := rfl

-- the values' own types

end Go.Proofs.Ytfiaiadcldgclaa.PFnExactItemOk
