-- Written by a program of this repo (myprint: the kit's print with functions given by hand).
import Derived.Test.YtmneleafdhgalaaProg
import Derived.Below
import Derived.Deep.Draws
import Derived.Deep.AppendLies
import Derived.Maps.AppendAt
import Derived.OwnWalk
import Derived.Laws.BytesArg
import Derived.Laws.MakeOwn
import Derived.Laws.OwnMore
import Derived.Deep.OwnRows
import Derived.Tactics
import Derived.Lib.ConvBytes
import Derived.Laws.Slices
import Derived.WalkKit
import Derived.KernelRfl
import Derived.RowKit3
import Derived.Deep.LoopGhost
import Derived.Deep.QuietTactic
import Derived.BigQuiet
import Derived.WideLaws
import Derived.Deep.DeepCutAuto
import Derived.Deep.CutBlock
import Derived.Deep.RegionHeld3
import Derived.Laws.Rows
import Derived.Lib.AppendStr
import Derived.ArgAppend
import Derived.Laws.IdiomCopy
import Derived.OrdersHeld
import Derived.Laws.BitsLemmas
import Derived.RowKit
import Derived.Test.YtmneleafdhgalaaWWords
import Derived.Test.YtmneleafdhgalaaWLast
import Derived.Test.YtmneleafdhgalaaWTab
import Derived.Test.YtmneleafdhgalaaWFour
import Derived.Test.YtmneleafdhgalaaWQPut
import Derived.Test.YtmneleafdhgalaaWApart
import Derived.Test.YtmneleafdhgalaaWArr
import Derived.Test.YtmneleafdhgalaaWZeros
import Derived.Test.YtmneleafdhgalaaWFoot
import Derived.Test.YtmneleafdhgalaaWKept
import Derived.Test.YtmneleafdhgalaaWShare
import Derived.Test.YtmneleafdhgalaaWN
import Derived.Test.YtmneleafdhgalaaWFootNe
import Derived.Test.YtmneleafdhgalaaWAt
import Derived.Test.YtmneleafdhgalaaWEqStruct
import Derived.Test.YtmneleafdhgalaaWRepsOne
import Derived.Test.YtmneleafdhgalaaWInv
import Derived.Test.YtmneleafdhgalaaWInvWords
import Derived.Test.YtmneleafdhgalaaWGuard
import Derived.Test.YtmneleafdhgalaaWNEv
import Derived.Test.YtmneleafdhgalaaWMore
namespace Go.Proofs.Ytmneleafdhgalaa.PFnExactRootOf
open Go.RowKit Go.Proofs.YtmneleafdhgalaaW.PrintWords Go.Proofs.YtmneleafdhgalaaW.PrintLast Go.Proofs.YtmneleafdhgalaaW.PrintMore
attribute [local go_sem] max2_int min2_int max_two min_two max_three min_three max_four min_four   -- for this text's walks alone
set_option linter.unusedVariables false
set_option linter.unusedSimpArgs false



def errW : Option Int → Value
  | none => .nilIface
  | some c => .iface 0 (.int .i64 c)
theorem errW_none : errW none = .nilIface := rfl
theorem errW_some (c : Int) : errW (some c) = .iface 0 (.int .i64 c) := rfl

-- the values' own types

end Go.Proofs.Ytmneleafdhgalaa.PFnExactRootOf
