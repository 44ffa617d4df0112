-- Printed by this session's own copy of the print, functions that were proved by hand among them.
import Derived.Test.YtkooomnoofnfpaaPFnExactFormatMemberx0
import Derived.Test.YtkooomnoofnfpaaPFnExactFormatMemberx1
import Derived.Test.YtkooomnoofnfpaaPFnExactFormatMemberx2
import Derived.Test.YtkooomnoofnfpaaPFnExactFormatMemberx3
import Derived.Test.YtkooomnoofnfpaaPFnExactFormatMemberx4
import Derived.Test.YtkooomnoofnfpaaPFnExactFormatMemberx5
import Derived.Test.YtkooomnoofnfpaaPFnExactFormatMemberx6
import Derived.Test.YtkooomnoofnfpaaPFnExactFormatMemberx7
namespace Go.Proofs.Ytkooomnoofnfpaa.PFnExactFormatMember
open Go.RowKit Go.Proofs.YtkooomnoofnfpaaW.PrintWords Go.Proofs.YtkooomnoofnfpaaW.PrintLast Go.Proofs.YtkooomnoofnfpaaW.PrintMore
attribute [local go_sem] max2_int min2_int max_two min_two max_three min_three max_four min_four   -- for this text's walks alone
set_option linter.unusedVariables false
set_option linter.unusedSimpArgs false

end Go.Proofs.Ytkooomnoofnfpaa.PFnExactFormatMember
