/- The laws' parameters, as they are read. -/
import Derived.Test.YtnnmpdanfeejbaaAbsOp
import Derived.Test.YtnnmpdanfeejbaaAbsLb
namespace Go.Proofs.Ytnnmpdanfeejbaa.Abs
open Go Go.Proofs
set_option linter.unusedVariables false
theorem oInt : OpA Try.prog 3 (fun n : Int => [CV.v (.int .i64 n)]) (fun n => -9223372036854775808 ≤ n ∧ n ≤ 9223372036854775807) := opA_int Try.underlying3 (by kernel_rfl)
theorem oByte : OpA Try.prog 5 (fun n : UInt8 => [CV.v (.int .u8 n.toNat)]) (fun _ => True) := opA_byte Try.underlying5 (by kernel_rfl)
theorem oByteS : OpA Try.prog 26 (fun l : List UInt8 => [CV.row false (eB l)]) (fun l => l.length ≤ 2^47) :=
  (opA_slice Try.underlying26 (by kernel_rfl) (m0 := 1) (by kernel_rfl) (by decide) (B := 1) (by kernel_rfl) (by decide) oByte).iso id (fun _ => rfl) (fun _ => by kernel_rfl) (fun _ h => h.1)
theorem oSheet : OpA Try.prog 160 (shC false) (fun l => l.length ≤ 2^47) :=
  (opA_struct Try.underlying160 (by kernel_rfl) (fsA_one (n := 1) oByteS (by rfl) (by rfl) (by kernel_rfl))).iso id (fun _ => rfl) (fun _ => by kernel_rfl) (fun _ h => h)
theorem oSheetS : OpA Try.prog 22 (fun xs : List (List UInt8) => [CV.row false (xs.map (shC false))]) (fun xs => xs.length ≤ 2^47 ∧ ∀ x ∈ xs, x.length ≤ 2^47) :=
  opA_slice Try.underlying22 (by kernel_rfl) (m0 := 1) (by kernel_rfl) (by decide) (B := 24) (by kernel_rfl) (by decide) oSheet
theorem oWrite : OpA Try.prog 135 (wrC false) (fun x => x.2.length ≤ 2^47) :=
  (opA_struct Try.underlying135 (by kernel_rfl) (fsA_cons (n := 1) oInt (fsA_one (n := 1) oByteS (by rfl) (by rfl) (by kernel_rfl)) (by rfl) (by rfl) (by kernel_rfl) (by rfl))).iso id (fun _ => rfl) (fun _ => by kernel_rfl) (fun _ h => h.2)
theorem oWriteS : OpA Try.prog 23 (fun xs : List (Int × List UInt8) => [CV.row false (xs.map (wrC false))]) (fun xs => xs.length ≤ 2^47 ∧ ∀ x ∈ xs, x.2.length ≤ 2^47) :=
  opA_slice Try.underlying23 (by kernel_rfl) (m0 := 2) (by kernel_rfl) (by decide) (B := 32) (by kernel_rfl) (by decide) oWrite
theorem oDisk : OpA Try.prog 25 (fun d : Dk => [CV.row false (d.sh.map (shC false)), CV.row false (d.wr.map (wrC false))]) (Dk.fits (2^47)) :=
  (opA_struct Try.underlying25 (by kernel_rfl) (fsA_cons (n := 1) oSheetS (fsA_one (n := 1) oWriteS (by rfl) (by rfl) (by kernel_rfl)) (by rfl) (by rfl) (by kernel_rfl) (by rfl))).iso (fun x => ⟨x.1, x.2⟩) (fun _ => rfl) (fun _ => by kernel_rfl) (fun _ h => ⟨h.1.1, h.1.2, h.2.1, h.2.2⟩)
theorem rd_nil {W : World} {H : Hp} : ∀ (i : Nat) x u, ([] : List AV)[i]? = some x → (#[] : Array Value)[i]? = some u → RdV W E0 H x u := fun i x u h => by simp at h
theorem rd_cons {W : World} {H : Hp} {a : AV} {v : Value} {l : List AV} {vs : List Value} (h : RdV W E0 H a v) (hl : ∀ (i : Nat) x u, l[i]? = some x → (vs.toArray)[i]? = some u → RdV W E0 H x u) :
    ∀ (i : Nat) x u, (a :: l)[i]? = some x → ((v :: vs).toArray)[i]? = some u → RdV W E0 H x u := by
  intro i x u hx hu
  cases i with
  | zero => simp at hx hu; subst hx hu; exact h
  | succ i => exact hl i x u (by simpa using hx) (by simpa using hu)
end Go.Proofs.Ytnnmpdanfeejbaa.Abs
