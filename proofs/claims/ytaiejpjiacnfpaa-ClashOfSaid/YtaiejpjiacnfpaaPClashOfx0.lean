-- PRINTED BY print.sh 35421559b90ae4d0a3588c463048766b98c2df88dd9212a6774a882060cdf62d: not written by this session
import Derived.Test.YtaiejpjiacnfpaaProg
import Derived.Below
import Derived.Deep.Draws
import Derived.Deep.AppendLies
import Derived.Maps.AppendAt
import Derived.OwnWalk
import Derived.Laws.BytesArg
import Derived.Laws.MakeOwn
import Derived.Laws.OwnMore
import Derived.Deep.OwnRows
import Derived.Tactics
import Derived.Lib.ConvBytes
import Derived.Laws.Slices
import Derived.WalkKit
import Derived.KernelRfl
import Derived.RowKit3
import Derived.Deep.LoopGhost
import Derived.Deep.QuietTactic
import Derived.BigQuiet
import Derived.WideLaws
import Derived.Deep.DeepCutAuto
import Derived.Deep.CutBlock
import Derived.Deep.RegionHeld3
import Derived.Laws.Rows
import Derived.Lib.AppendStr
import Derived.ArgAppend
import Derived.Laws.IdiomCopy
import Derived.OrdersHeld
import Derived.Laws.BitsLemmas
import Derived.RowKit
import Derived.Test.YtaiejpjiacnfpaaWWords
import Derived.Test.YtaiejpjiacnfpaaWLast
import Derived.Test.YtaiejpjiacnfpaaWTab
import Derived.Test.YtaiejpjiacnfpaaWFour
import Derived.Test.YtaiejpjiacnfpaaWQPut
import Derived.Test.YtaiejpjiacnfpaaWApart
import Derived.Test.YtaiejpjiacnfpaaWArr
import Derived.Test.YtaiejpjiacnfpaaWZeros
import Derived.Test.YtaiejpjiacnfpaaWFoot
import Derived.Test.YtaiejpjiacnfpaaWKept
import Derived.Test.YtaiejpjiacnfpaaWShare
import Derived.Test.YtaiejpjiacnfpaaWN
import Derived.Test.YtaiejpjiacnfpaaWFootNe
import Derived.Test.YtaiejpjiacnfpaaWAt
import Derived.Test.YtaiejpjiacnfpaaWEqStruct
import Derived.Test.YtaiejpjiacnfpaaWRepsOne
import Derived.Test.YtaiejpjiacnfpaaWInv
import Derived.Test.YtaiejpjiacnfpaaWInvWords
import Derived.Test.YtaiejpjiacnfpaaWGuard
import Derived.Test.YtaiejpjiacnfpaaWNEv
import Derived.Test.YtaiejpjiacnfpaaWMore
namespace Go.Proofs.Ytaiejpjiacnfpaa.PClashOf
open Go.RowKit Go.Proofs.YtaiejpjiacnfpaaW.PrintWords Go.Proofs.YtaiejpjiacnfpaaW.PrintLast Go.Proofs.YtaiejpjiacnfpaaW.PrintMore
attribute [local go_sem] max2_int min2_int max_two min_two max_three min_three max_four min_four   -- for this text's walks alone
set_option linter.unusedVariables false
set_option linter.unusedSimpArgs false



def errW : Option Int → Value
  | none => .nilIface
  | some c => .iface 0 (.int .i64 c)
theorem errW_none : errW none = .nilIface := rfl
theorem errW_some (c : Int) : errW (some c) = .iface 0 (.int .i64 c) := rfl

-- the values' own types

end Go.Proofs.Ytaiejpjiacnfpaa.PClashOf
