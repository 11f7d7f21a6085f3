-- A program of this claim's session wrote this text.
import Derived.Test.YtnklkjkbdipohaaWInv
import Derived.Test.YtnklkjkbdipohaaWFootNe
namespace Go.Proofs.YtnklkjkbdipohaaW.PrintWords
open Go.RowKit
end Go.Proofs.YtnklkjkbdipohaaW.PrintWords
namespace Go.Proofs.YtnklkjkbdipohaaW.PrintLast
section
variable {ops : Array Oper} {a : Act} {o og : Oper} {g : Nat} {t : Tmp} {u : Bool}
end
end Go.Proofs.YtnklkjkbdipohaaW.PrintLast
