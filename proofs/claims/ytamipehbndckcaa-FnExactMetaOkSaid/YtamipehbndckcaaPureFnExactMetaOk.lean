/- The pure statement of FnExactMetaOk: what the printed functions of this law compute answers true, for every argument within the bounds that the statement names. -/
import Derived.Test.YtamipehbndckcaaPFnExactMetaOkx1
import Derived.Test.YtamipehbndckcaaLib
import Derived.Test.YtamipehbndckcaaLibOrd
import Derived.Test.YtamipehbndckcaaLibOpen
namespace Go.Proofs.Ytamipehbndckcaa.Pure
open Go Go.RowKit Go.Proofs.Ytamipehbndckcaa.PFnExactMetaOk Go.Proofs.YtamipehbndckcaaW.PrintWords Go.Proofs.YtamipehbndckcaaW.PrintLast Go.Proofs.YtamipehbndckcaaW.PrintMore Go.Proofs.Ytamipehbndckcaa.Lib
set_option linter.unusedVariables false
set_option linter.unusedSimpArgs false

def G3 (x : Int) : Prop := (Lit.int .i64 x).wf = true
def G25 (x : (Int) × (Int)) : Prop := G3 x.1 ∧ G3 x.2

/-! ### within -/
theorem within_eq (x lo hi : Int) : impl_within.f x lo hi = some (decide (lo ≤ x ∧ x ≤ hi)) := by
  unfold impl_within.f
  by_cases h : x ≥ lo
  · rw [if_pos h]; simp [h]
  · rw [if_neg h]; simp; omega

/-! ### l01Num -/
theorem l01Num_eq (n : Int) : spec_l01Num.f n = some (decide (0 ≤ n ∧ n ≤ 1099511627775)) := by
  unfold spec_l01Num.f
  by_cases h : n ≥ 0
  · rw [if_pos h]; simp [h]
  · rw [if_neg h]; simp; omega

/-! ### metaOk -/
def metaOk (g r : Int) : Prop := (1 ≤ g ∧ g ≤ 1099511627775) ∧ (r = 0 ∨ (2 ≤ r ∧ r ≤ 399))
instance (g r : Int) : Decidable (metaOk g r) := inferInstanceAs (Decidable (_ ∧ _))
theorem spec_MetaOk_eq (g r : Int) : spec_MetaOk.f g r = some (decide (metaOk g r)) := by
  unfold spec_MetaOk.f
  by_cases h : g ≥ 1
  · rw [if_pos h, l01Num_eq]
    simp only [Option.bind_some, decide_eq_true_eq]
    by_cases h2 : 0 ≤ g ∧ g ≤ 1099511627775
    · rw [if_pos h2]
      by_cases h3 : r = 0
      · rw [if_pos h3]; exact sdt ⟨by omega, .inl h3⟩
      · rw [if_neg h3]
        by_cases h4 : r ≥ 2
        · rw [if_pos h4]; exact sd (by unfold metaOk; omega)
        · rw [if_neg h4]; exact sdf (by unfold metaOk; omega)
    · rw [if_neg h2]; exact sdf (by unfold metaOk; omega)
  · rw [if_neg h]; exact sdf (by unfold metaOk; omega)
theorem impl_MetaOk_eq (g r : Int) : impl_MetaOk.f g r = some (decide (metaOk g r)) := by
  unfold impl_MetaOk.f
  rw [within_eq, within_eq]
  simp only [Option.bind_some, decide_eq_true_eq]
  by_cases h2 : 1 ≤ g ∧ g ≤ 1099511627775
  · rw [if_pos h2]
    by_cases h3 : r = 0
    · rw [if_pos h3]; exact sdt ⟨h2, .inl h3⟩
    · rw [if_neg h3]; exact sd (by unfold metaOk; omega)
  · rw [if_neg h2]; exact sdf (by unfold metaOk; omega)

/-! ### law_FnExactMetaOk -/
theorem FnExactMetaOk (x0_0 : Int) (x0_1 : Int) (g0 : G25 (x0_0, x0_1)) : laws_FnExactMetaOk.f x0_0 x0_1 = some true := by
  unfold laws_FnExactMetaOk.f laws_toMeta.f
  simp only [Option.bind_some]
  rw [spec_MetaOk_eq, impl_MetaOk_eq]
  simp only [Option.bind_some]
  rw [if_neg (ne_self _)]

end Go.Proofs.Ytamipehbndckcaa.Pure
