/- The pure statement of FnExactPointOf: what the printed functions of this law compute answers true, for every argument within the bounds that the statement names. -/
import Derived.Test.YtamipehbndckcaaPFnExactPointOfx1
import Derived.Test.YtamipehbndckcaaLib
namespace Go.Proofs.Ytamipehbndckcaa.Pure
open Go Go.RowKit Go.Proofs.Ytamipehbndckcaa.PFnExactPointOf Go.Proofs.YtamipehbndckcaaW.PrintWords Go.Proofs.YtamipehbndckcaaW.PrintLast Go.Proofs.YtamipehbndckcaaW.PrintMore Go.Proofs.Ytamipehbndckcaa.Lib
set_option linter.unusedVariables false
set_option linter.unusedSimpArgs false

/-! ### within -/
theorem within_eq (x lo hi : Int) : impl_within.f x lo hi = some (decide (lo ≤ x ∧ x ≤ hi)) := by
  unfold impl_within.f
  by_cases h : x ≥ lo
  · rw [if_pos h]; simp [h]
  · rw [if_neg h]; simp; omega

/-! ### keyOk -/
theorem spec_KeyOk_eq (s : ByteArray) : spec_KeyOk.f s = some (decide (1 ≤ s.size ∧ s.size ≤ 16)) := by
  unfold spec_KeyOk.f
  by_cases h : (s.size : Int) ≥ 1
  · rw [if_pos h]; exact sd (by omega)
  · rw [if_neg h]; exact sdf (by omega)
theorem impl_KeyOk_eq (s : ByteArray) : impl_KeyOk.f s = some (decide (1 ≤ s.size ∧ s.size ≤ 16)) := by
  unfold impl_KeyOk.f; rw [within_eq]; simp only [Option.bind_some]; exact sd (by omega)

/-! ### pointOf -/
def pointOf (s : ByteArray) : ByteArray × ByteArray := if 1 ≤ s.size ∧ s.size ≤ 16 then (s, s ++ (⟨#[0]⟩ : ByteArray)) else ((⟨#[]⟩ : ByteArray), (⟨#[]⟩ : ByteArray))
theorem spec_PointOf_eq (s : ByteArray) : spec_PointOf.f s = some (pointOf s) := by
  unfold spec_PointOf.f pointOf
  rw [spec_KeyOk_eq]; simp only [Option.bind_some, decide_eq_true_eq]
  by_cases h : 1 ≤ s.size ∧ s.size ≤ 16
  · rw [if_pos h, if_pos h, if_pos (by omega)]
  · rw [if_neg h, if_neg h]
theorem impl_PointOf_eq (s : ByteArray) : impl_PointOf.f s = some (pointOf s) := by
  unfold impl_PointOf.f pointOf
  rw [impl_KeyOk_eq]; simp only [Option.bind_some, decide_eq_true_eq]
  by_cases h : 1 ≤ s.size ∧ s.size ≤ 16
  · rw [if_pos h, if_pos h, if_pos (by omega)]
  · rw [if_neg h, if_neg h]

/-! ### eqRange -/
theorem eqRange_self (a b : ByteArray) : laws_eqRange.f a b a b = some true := by
  unfold laws_eqRange.f; rw [if_pos rfl, if_pos rfl]

/-! ### law_FnExactPointOf -/
theorem FnExactPointOf : laws_FnExactPointOf.Pure := by
  intro a0 _
  unfold laws_FnExactPointOf.f
  split
  · rfl
  · rw [spec_PointOf_eq, impl_PointOf_eq]; simp only [Option.bind_some]; rw [eqRange_self]; rfl

end Go.Proofs.Ytamipehbndckcaa.Pure
