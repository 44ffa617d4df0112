-- Printed by this session's own copy of the print, functions that were proved by hand among them.
import Derived.Test.YtkooomnoofnfpaaPFnExactSpareOfx0
import Derived.Test.YtkooomnoofnfpaaPFnExactSpareOfx1
import Derived.Test.YtkooomnoofnfpaaPFnExactSpareOfx2
import Derived.Test.YtkooomnoofnfpaaPFnExactSpareOfx3
import Derived.Test.YtkooomnoofnfpaaPFnExactSpareOfx4
import Derived.Test.YtkooomnoofnfpaaPFnExactSpareOfx5
namespace Go.Proofs.Ytkooomnoofnfpaa.PFnExactSpareOf
open Go.RowKit Go.Proofs.YtkooomnoofnfpaaW.PrintWords Go.Proofs.YtkooomnoofnfpaaW.PrintLast Go.Proofs.YtkooomnoofnfpaaW.PrintMore
attribute [local go_sem] max2_int min2_int max_two min_two max_three min_three max_four min_four   -- for this text's walks alone
set_option linter.unusedVariables false
set_option linter.unusedSimpArgs false

end Go.Proofs.Ytkooomnoofnfpaa.PFnExactSpareOf
