-- A program of this claim's session wrote this text.
import Derived.Test.YtamipehbndckcaaProg
import Derived.Below
import Derived.Deep.Draws
import Derived.Deep.AppendLies
import Derived.Maps.AppendAt
import Derived.OwnWalk
import Derived.Laws.BytesArg
import Derived.Laws.MakeOwn
import Derived.Laws.OwnMore
import Derived.Deep.OwnRows
import Derived.Tactics
import Derived.Lib.ConvBytes
import Derived.Laws.Slices
import Derived.WalkKit
import Derived.KernelRfl
import Derived.RowKit3
import Derived.Deep.LoopGhost
import Derived.Deep.QuietTactic
import Derived.BigQuiet
import Derived.WideLaws
import Derived.Deep.DeepCutAuto
import Derived.Deep.CutBlock
import Derived.Deep.RegionHeld3
import Derived.Laws.Rows
import Derived.Lib.AppendStr
import Derived.ArgAppend
import Derived.Laws.IdiomCopy
import Derived.OrdersHeld
import Derived.Laws.BitsLemmas
import Derived.RowKit
import Derived.Test.YtamipehbndckcaaLibCopy
import Derived.Test.YtamipehbndckcaaWWords
import Derived.Test.YtamipehbndckcaaWLast
import Derived.Test.YtamipehbndckcaaWTab
import Derived.Test.YtamipehbndckcaaWFour
import Derived.Test.YtamipehbndckcaaWQPut
import Derived.Test.YtamipehbndckcaaWApart
import Derived.Test.YtamipehbndckcaaWArr
import Derived.Test.YtamipehbndckcaaWZeros
import Derived.Test.YtamipehbndckcaaWFoot
import Derived.Test.YtamipehbndckcaaWKept
import Derived.Test.YtamipehbndckcaaWShare
import Derived.Test.YtamipehbndckcaaWN
import Derived.Test.YtamipehbndckcaaWFootNe
import Derived.Test.YtamipehbndckcaaWAt
import Derived.Test.YtamipehbndckcaaWEqStruct
import Derived.Test.YtamipehbndckcaaWRepsOne
import Derived.Test.YtamipehbndckcaaWInv
import Derived.Test.YtamipehbndckcaaWInvWords
import Derived.Test.YtamipehbndckcaaWGuard
import Derived.Test.YtamipehbndckcaaWNEv
import Derived.Test.YtamipehbndckcaaWMore
namespace Go.Proofs.Ytamipehbndckcaa.PFnExactFill
open Go.RowKit Go.Proofs.YtamipehbndckcaaW.PrintWords Go.Proofs.YtamipehbndckcaaW.PrintLast Go.Proofs.YtamipehbndckcaaW.PrintMore
attribute [local go_sem] max2_int min2_int max_two min_two max_three min_three max_four min_four   -- for this text's walks alone
set_option linter.unusedVariables false
set_option linter.unusedSimpArgs false



def errW : Option Int → Value
  | none => .nilIface
  | some c => .iface 0 (.int .i64 c)
theorem errW_none : errW none = .nilIface := rfl
theorem errW_some (c : Int) : errW (some c) = .iface 0 (.int .i64 c) := rfl

theorem info5 : (Try.prog.info? 5).map (fun i => (i.zero, i.size, i.bytes)) = some (some (.int .u8 0), 1, 1) := by kernel_rfl
-- the values' own types

end Go.Proofs.Ytamipehbndckcaa.PFnExactFill
