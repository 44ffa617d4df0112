-- Printed by this session's own copy of the print, functions that were proved by hand among them.
import Derived.Test.YtkooomnoofnfpaaPFnEquippedx0
import Derived.Test.YtkooomnoofnfpaaPFnEquippedx1
import Derived.Test.YtkooomnoofnfpaaPFnEquippedx2
import Derived.Test.YtkooomnoofnfpaaPFnEquippedx3
import Derived.Test.YtkooomnoofnfpaaPFnEquippedx4
import Derived.Test.YtkooomnoofnfpaaPFnEquippedx5
import Derived.Test.YtkooomnoofnfpaaPFnEquippedx6
namespace Go.Proofs.Ytkooomnoofnfpaa.PFnEquipped
open Go.RowKit Go.Proofs.YtkooomnoofnfpaaW.PrintWords Go.Proofs.YtkooomnoofnfpaaW.PrintLast Go.Proofs.YtkooomnoofnfpaaW.PrintMore
attribute [local go_sem] max2_int min2_int max_two min_two max_three min_three max_four min_four   -- for this text's walks alone
set_option linter.unusedVariables false
set_option linter.unusedSimpArgs false

end Go.Proofs.Ytkooomnoofnfpaa.PFnEquipped
