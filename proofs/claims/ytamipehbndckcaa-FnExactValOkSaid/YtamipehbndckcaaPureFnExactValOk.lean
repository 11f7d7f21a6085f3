/- The pure statement of FnExactValOk: what the printed functions of this law compute answers true, for every argument within the bounds that the statement names. -/
import Derived.Test.YtamipehbndckcaaPFnExactValOkx1
import Derived.Test.YtamipehbndckcaaLib
namespace Go.Proofs.Ytamipehbndckcaa.Pure
open Go Go.RowKit Go.Proofs.Ytamipehbndckcaa.PFnExactValOk Go.Proofs.YtamipehbndckcaaW.PrintWords Go.Proofs.YtamipehbndckcaaW.PrintLast Go.Proofs.YtamipehbndckcaaW.PrintMore Go.Proofs.Ytamipehbndckcaa.Lib
set_option linter.unusedVariables false
set_option linter.unusedSimpArgs false

/-! ### law_FnExactValOk -/
theorem FnExactValOk : laws_FnExactValOk.Pure := by
  intro a0 _
  unfold laws_FnExactValOk.f spec_ValOk.f impl_ValOk.f
  split
  · rfl
  · simp only [Option.bind_some]; rw [if_neg (ne_self _)]

end Go.Proofs.Ytamipehbndckcaa.Pure
