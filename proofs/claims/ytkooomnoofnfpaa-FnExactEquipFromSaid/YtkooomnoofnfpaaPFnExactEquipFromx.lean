-- Printed by this session's own copy of the print, functions that were proved by hand among them.
import Derived.Test.YtkooomnoofnfpaaPFnExactEquipFromx0
import Derived.Test.YtkooomnoofnfpaaPFnExactEquipFromx1
import Derived.Test.YtkooomnoofnfpaaPFnExactEquipFromx2
import Derived.Test.YtkooomnoofnfpaaPFnExactEquipFromx3
import Derived.Test.YtkooomnoofnfpaaPFnExactEquipFromx4
import Derived.Test.YtkooomnoofnfpaaPFnExactEquipFromx5
import Derived.Test.YtkooomnoofnfpaaPFnExactEquipFromx6
import Derived.Test.YtkooomnoofnfpaaPFnExactEquipFromx7
import Derived.Test.YtkooomnoofnfpaaPFnExactEquipFromx8
import Derived.Test.YtkooomnoofnfpaaPFnExactEquipFromx9
namespace Go.Proofs.Ytkooomnoofnfpaa.PFnExactEquipFrom
open Go.RowKit Go.Proofs.YtkooomnoofnfpaaW.PrintWords Go.Proofs.YtkooomnoofnfpaaW.PrintLast Go.Proofs.YtkooomnoofnfpaaW.PrintMore
attribute [local go_sem] max2_int min2_int max_two min_two max_three min_three max_four min_four   -- for this text's walks alone
set_option linter.unusedVariables false
set_option linter.unusedSimpArgs false

end Go.Proofs.Ytkooomnoofnfpaa.PFnExactEquipFrom
