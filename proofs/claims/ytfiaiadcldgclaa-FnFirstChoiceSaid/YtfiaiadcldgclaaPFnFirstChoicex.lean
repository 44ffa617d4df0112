-- Printed by this session's own copy of the print, functions that were proved by hand among them.
import Derived.Test.YtfiaiadcldgclaaPFnFirstChoicex0
import Derived.Test.YtfiaiadcldgclaaPFnFirstChoicex1
import Derived.Test.YtfiaiadcldgclaaPFnFirstChoicex2
import Derived.Test.YtfiaiadcldgclaaPFnFirstChoicex3
import Derived.Test.YtfiaiadcldgclaaPFnFirstChoicex4
import Derived.Test.YtfiaiadcldgclaaPFnFirstChoicex5
namespace Go.Proofs.Ytfiaiadcldgclaa.PFnFirstChoice
open Go.RowKit Go.Proofs.YtfiaiadcldgclaaW.PrintWords Go.Proofs.YtfiaiadcldgclaaW.PrintLast Go.Proofs.YtfiaiadcldgclaaW.PrintMore
attribute [local go_sem] max2_int min2_int max_two min_two max_three min_three max_four min_four   -- for this text's walks alone
set_option linter.unusedVariables false
set_option linter.unusedSimpArgs false

end Go.Proofs.Ytfiaiadcldgclaa.PFnFirstChoice
