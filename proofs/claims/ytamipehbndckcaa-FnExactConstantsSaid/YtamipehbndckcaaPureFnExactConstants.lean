/- The pure statement of FnExactConstants: what the printed functions of this law compute answers true, for every argument within the bounds that the statement names. -/
import Derived.Test.YtamipehbndckcaaPFnExactConstantsx1
import Derived.Test.YtamipehbndckcaaLib
namespace Go.Proofs.Ytamipehbndckcaa.Pure
open Go Go.RowKit Go.Proofs.Ytamipehbndckcaa.PFnExactConstants Go.Proofs.YtamipehbndckcaaW.PrintWords Go.Proofs.YtamipehbndckcaaW.PrintLast Go.Proofs.YtamipehbndckcaaW.PrintMore Go.Proofs.Ytamipehbndckcaa.Lib
set_option linter.unusedVariables false
set_option linter.unusedSimpArgs false

/-! ### law_FnExactConstants -/
theorem FnExactConstants : laws_FnExactConstants.Pure := rfl

end Go.Proofs.Ytamipehbndckcaa.Pure
