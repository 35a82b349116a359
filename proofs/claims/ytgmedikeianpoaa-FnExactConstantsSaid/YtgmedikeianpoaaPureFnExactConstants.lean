/- The pure statement of the law FnExactConstants: for all arguments of the kinds, the printed law answers true. -/
import Derived.Test.YtgmedikeianpoaaPFnExactConstantsx1
namespace Go.Proofs.Ytgmedikeianpoaa.Pure
open Go.RowKit Go.Proofs.Ytgmedikeianpoaa.PFnExactConstants Go.Proofs.YtgmedikeianpoaaW.PrintWords Go.Proofs.YtgmedikeianpoaaW.PrintLast Go.Proofs.YtgmedikeianpoaaW.PrintMore
set_option linter.unusedVariables false
set_option linter.unusedSimpArgs false

theorem FnExactConstants : laws_FnExactConstants.Pure := rfl

end Go.Proofs.Ytgmedikeianpoaa.Pure
