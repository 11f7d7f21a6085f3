/- Parameters of operations, as they are read. -/
import Derived.Test.YtnnmpdanfeejbaaAbsOq
namespace Go.Proofs.Ytnnmpdanfeejbaa.Abs
open Go Go.Proofs
set_option linter.unusedVariables false
theorem oBool : OpA Try.prog 4 (fun b : Bool => [CV.v (.bool b)]) (fun _ => True) := opA_bool Try.underlying4 (by kernel_rfl)
theorem oOp : OpA Try.prog 137 (opC false) (fun x => x.2.2.length ≤ 2^47) :=
  (opA_struct Try.underlying137 (by kernel_rfl) (fsA_cons (n := 1) oBool (fsA_one (n := 2) oWrite (by rfl) (by rfl) (by kernel_rfl)) (by rfl) (by rfl) (by kernel_rfl) (by rfl))).iso id (fun _ => rfl) (fun _ => by kernel_rfl) (fun _ h => h.2)
theorem oOpS : OpA Try.prog 65 (fun xs : List (Bool × Int × List UInt8) => [CV.row false (xs.map (opC false))]) (fun xs => xs.length ≤ 2^47 ∧ ∀ x ∈ xs, x.2.2.length ≤ 2^47) :=
  opA_slice Try.underlying65 (by kernel_rfl) (m0 := 3) (by kernel_rfl) (by decide) (B := 40) (by kernel_rfl) (by decide) oOp
end Go.Proofs.Ytnnmpdanfeejbaa.Abs
