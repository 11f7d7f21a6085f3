/- The pure statement of FnExactKeyOk: what the printed functions of this law compute answers true, for every argument within the bounds that the statement names. -/
import Derived.Test.YtamipehbndckcaaPFnExactKeyOkx1
import Derived.Test.YtamipehbndckcaaLib
namespace Go.Proofs.Ytamipehbndckcaa.Pure
open Go Go.RowKit Go.Proofs.Ytamipehbndckcaa.PFnExactKeyOk Go.Proofs.YtamipehbndckcaaW.PrintWords Go.Proofs.YtamipehbndckcaaW.PrintLast Go.Proofs.YtamipehbndckcaaW.PrintMore Go.Proofs.Ytamipehbndckcaa.Lib
set_option linter.unusedVariables false
set_option linter.unusedSimpArgs false

/-! ### within -/
theorem within_eq (x lo hi : Int) : impl_within.f x lo hi = some (decide (lo ≤ x ∧ x ≤ hi)) := by
  unfold impl_within.f
  by_cases h : x ≥ lo
  · rw [if_pos h]; simp [h]
  · rw [if_neg h]; simp; omega

/-! ### keyOk -/
theorem spec_KeyOk_eq (s : ByteArray) : spec_KeyOk.f s = some (decide (1 ≤ s.size ∧ s.size ≤ 16)) := by
  unfold spec_KeyOk.f
  by_cases h : (s.size : Int) ≥ 1
  · rw [if_pos h]; exact sd (by omega)
  · rw [if_neg h]; exact sdf (by omega)
theorem impl_KeyOk_eq (s : ByteArray) : impl_KeyOk.f s = some (decide (1 ≤ s.size ∧ s.size ≤ 16)) := by
  unfold impl_KeyOk.f; rw [within_eq]; simp only [Option.bind_some]; exact sd (by omega)

/-! ### law_FnExactKeyOk -/
theorem FnExactKeyOk : laws_FnExactKeyOk.Pure := by
  intro a0 _
  unfold laws_FnExactKeyOk.f
  split
  · rfl
  · rw [spec_KeyOk_eq, impl_KeyOk_eq]; simp only [Option.bind_some]; rw [if_neg (ne_self _)]

end Go.Proofs.Ytamipehbndckcaa.Pure
