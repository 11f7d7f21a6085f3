-- A program of this claim's session wrote this text.
import Derived.Test.YtnleeeccpepekaaProg
import Derived.Below
import Derived.Deep.Draws
import Derived.Deep.AppendLies
import Derived.Maps.AppendAt
import Derived.OwnWalk
import Derived.Laws.BytesArg
import Derived.Laws.MakeOwn
import Derived.Laws.OwnMore
import Derived.Deep.OwnRows
import Derived.Tactics
import Derived.Lib.ConvBytes
import Derived.Laws.Slices
import Derived.WalkKit
import Derived.KernelRfl
import Derived.RowKit3
import Derived.Deep.LoopGhost
import Derived.Deep.QuietTactic
import Derived.BigQuiet
import Derived.WideLaws
import Derived.Deep.DeepCutAuto
import Derived.Deep.CutBlock
import Derived.Deep.RegionHeld3
import Derived.Laws.Rows
import Derived.Lib.AppendStr
import Derived.ArgAppend
import Derived.Laws.IdiomCopy
import Derived.OrdersHeld
import Derived.Laws.BitsLemmas
import Derived.RowKit
import Derived.Test.YtnleeeccpepekaaLibStr
import Derived.Test.YtnleeeccpepekaaWWords
import Derived.Test.YtnleeeccpepekaaWLast
import Derived.Test.YtnleeeccpepekaaWTab
import Derived.Test.YtnleeeccpepekaaWFour
import Derived.Test.YtnleeeccpepekaaWQPut
import Derived.Test.YtnleeeccpepekaaWApart
import Derived.Test.YtnleeeccpepekaaWArr
import Derived.Test.YtnleeeccpepekaaWZeros
import Derived.Test.YtnleeeccpepekaaWFoot
import Derived.Test.YtnleeeccpepekaaWKept
import Derived.Test.YtnleeeccpepekaaWShare
import Derived.Test.YtnleeeccpepekaaWN
import Derived.Test.YtnleeeccpepekaaWFootNe
import Derived.Test.YtnleeeccpepekaaWAt
import Derived.Test.YtnleeeccpepekaaWEqStruct
import Derived.Test.YtnleeeccpepekaaWRepsOne
import Derived.Test.YtnleeeccpepekaaWInv
import Derived.Test.YtnleeeccpepekaaWInvWords
import Derived.Test.YtnleeeccpepekaaWGuard
import Derived.Test.YtnleeeccpepekaaWNEv
import Derived.Test.YtnleeeccpepekaaWMore
namespace Go.Proofs.Ytnleeeccpepekaa.PFnExactPageBytes
open Go.RowKit Go.Proofs.YtnleeeccpepekaaW.PrintWords Go.Proofs.YtnleeeccpepekaaW.PrintLast Go.Proofs.YtnleeeccpepekaaW.PrintMore
attribute [local go_sem] max2_int min2_int max_two min_two max_three min_three max_four min_four   -- for this text's walks alone
set_option linter.unusedVariables false
set_option linter.unusedSimpArgs false



def errW : Option Int → Value
  | none => .nilIface
  | some c => .iface 0 (.int .i64 c)
theorem errW_none : errW none = .nilIface := rfl
theorem errW_some (c : Int) : errW (some c) = .iface 0 (.int .i64 c) := rfl

theorem info3 : (Try.prog.info? 3).map (fun i => (i.zero, i.size, i.bytes)) = some (some (.int .i64 0), 1, 8) := by kernel_rfl
theorem info5 : (Try.prog.info? 5).map (fun i => (i.zero, i.size, i.bytes)) = some (some (.int .u8 0), 1, 1) := by kernel_rfl
theorem info9 : (Try.prog.info? 9).map (fun i => (i.zero, i.size, i.bytes)) = some (some (.string ⟨#[]⟩), 1, 16) := by kernel_rfl
-- the values' own types

end Go.Proofs.Ytnleeeccpepekaa.PFnExactPageBytes
