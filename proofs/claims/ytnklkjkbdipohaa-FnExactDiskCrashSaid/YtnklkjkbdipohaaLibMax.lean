/- The greater and the less of two strings, as one word each, so that a walk does not part on them. -/
import Derived.Test.YtnklkjkbdipohaaLibOrd
namespace Go.Proofs.Ytnklkjkbdipohaa.Ord
open Go Go.RowKit
def smax (a b : ByteArray) : ByteArray := if Op.bytesLess a.toList b.toList = true then b else a
def smin (a b : ByteArray) : ByteArray := if Op.bytesLess b.toList a.toList = true then b else a
@[go_sem] theorem str_max (a b : ByteArray) : Builtin.max2 (.string a) (.string b) = pure (.string (smax a b)) := by
  unfold smax
  cases h : Op.bytesLess a.toList b.toList <;> simp [Builtin.max2, Op.stringOp, asBool, h]
end Go.Proofs.Ytnklkjkbdipohaa.Ord
