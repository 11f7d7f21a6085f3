-- A program of this claim's session wrote this text.
import Derived.Test.YtcdnfonholkflaaPFnExactRangeBothx0
import Derived.Test.YtcdnfonholkflaaPFnExactRangeBothx1
import Derived.Test.YtcdnfonholkflaaPFnExactRangeBothx2
namespace Go.Proofs.Ytcdnfonholkflaa.PFnExactRangeBoth
open Go.RowKit Go.Proofs.YtcdnfonholkflaaW.PrintWords Go.Proofs.YtcdnfonholkflaaW.PrintLast Go.Proofs.YtcdnfonholkflaaW.PrintMore
attribute [local go_sem] max2_int min2_int max_two min_two max_three min_three max_four min_four   -- for this text's walks alone
set_option linter.unusedVariables false
set_option linter.unusedSimpArgs false


/-! ### laws_FnExactRangeBoth: function 3 -/
def laws_FnExactRangeBoth.f (k : Nat) (a0_0 : ByteArray) (a0_1 : ByteArray) (a1_0 : ByteArray) (a1_1 : ByteArray) : Option (Bool) := (laws_szRange.f a0_0 a0_1 1048576).bind fun t126 => (if t126 < 0 then (some true) else ((laws_szRange.f a1_0 a1_1 t126).bind fun t127 => (if t127 < 0 then (some true) else ((laws_toRange.f a0_0 a0_1).bind fun bt128 => ((laws_toRange.f a1_0 a1_1).bind fun bt130 => ((spec_RangeBoth.f k bt128.1 bt128.2 bt130.1 bt130.2).bind fun bt132 => ((laws_toRange.f a0_0 a0_1).bind fun bt136 => ((laws_toRange.f a1_0 a1_1).bind fun bt138 => ((impl_RangeBoth.f k bt136.1 bt136.2 bt138.1 bt138.2).bind fun bt140 => ((laws_eqRange.f bt140.1 bt140.2.1 bt132.1 bt132.2.1).bind fun t144 => (if t144 = true then (if (bt140.2.2 != bt132.2.2) = true then (some false) else (some true)) else (some false))))))))))))
theorem laws_FnExactRangeBoth.mono : ∀ a0 a1 a2 a3 k, LeO (laws_FnExactRangeBoth.f k a0 a1 a2 a3) (laws_FnExactRangeBoth.f (k + 1) a0 a1 a2 a3) := by
  intro a0 a1 a2 a3 k
  unfold laws_FnExactRangeBoth.f
  repeat' first
      | (with_reducible exact impl_RangeBoth.mono _ _ _ _ _)
      | (with_reducible exact spec_RangeBoth.mono _ _ _ _ _)
      | (with_reducible exact LeO.refl _)
      | (with_reducible exact LeO.none _)
      | (with_reducible refine LeO.ite ?_ ?_)
      | (with_reducible refine LeO.bind ?_ (fun _ => ?_))
      | exact impl_RangeBoth.mono _ _ _ _ _
      | exact spec_RangeBoth.mono _ _ _ _ _
      | exact LeO.none _
      | refine LeO.ite ?_ ?_
      | refine LeO.bind ?_ (fun _ => ?_)
def laws_FnExactRangeBoth.T8 : Bool × List (List Nat × List Nat) := (true, [([], []), ([0], [0]), ([], []), ([2, 1], [2]), ([1, 3, 3], [1, 3]), ([4], [4]), ([5], [5]), ([5], [5]), ([], []), ([8, 6, 4, 0, 1, 2, 3, 4, 5, 6, 8], [6, 8]), ([7, 9, 0, 1, 2, 3, 4, 5, 6, 7, 8, 9], [7])])
def laws_FnExactRangeBoth.B8 : List Nat := [0, 1, 0, 7, 15, 31, 63, 63, 0, 383, 1023]
theorem laws_FnExactRangeBoth.tab8 : rtab .any (opsOf Try.f3 8) = laws_FnExactRangeBoth.T8 := by kernel_rfl
theorem laws_FnExactRangeBoth.bits8 : waitsOk laws_FnExactRangeBoth.T8.2 laws_FnExactRangeBoth.B8 = true := by kernel_rfl
def laws_FnExactRangeBoth.T9 : Bool × List (List Nat × List Nat) := (true, [([], []), ([0], [0]), ([], []), ([2, 1], [2]), ([1, 3, 3], [1, 3]), ([4], [4]), ([5], [5]), ([5], [5]), ([], []), ([8, 6, 4, 0, 1, 2, 3, 4, 5, 6, 8], [6, 8]), ([7, 9, 0, 1, 2, 3, 4, 5, 6, 7, 8, 9], [7])])
def laws_FnExactRangeBoth.B9 : List Nat := [0, 1, 0, 7, 15, 31, 63, 63, 0, 383, 1023]
theorem laws_FnExactRangeBoth.tab9 : rtab .any (opsOf Try.f3 9) = laws_FnExactRangeBoth.T9 := by kernel_rfl
theorem laws_FnExactRangeBoth.bits9 : waitsOk laws_FnExactRangeBoth.T9.2 laws_FnExactRangeBoth.B9 = true := by kernel_rfl

end Go.Proofs.Ytcdnfonholkflaa.PFnExactRangeBoth
