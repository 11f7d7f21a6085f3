-- A program of this claim's session wrote this text.
import Derived.Test.YtnleeeccpepekaaWInv
import Derived.Test.YtnleeeccpepekaaWFootNe
namespace Go.Proofs.YtnleeeccpepekaaW.PrintWords
open Go.RowKit
end Go.Proofs.YtnleeeccpepekaaW.PrintWords
namespace Go.Proofs.YtnleeeccpepekaaW.PrintLast
section
variable {ops : Array Oper} {a : Act} {o og : Oper} {g : Nat} {t : Tmp} {u : Bool}
end
end Go.Proofs.YtnleeeccpepekaaW.PrintLast
