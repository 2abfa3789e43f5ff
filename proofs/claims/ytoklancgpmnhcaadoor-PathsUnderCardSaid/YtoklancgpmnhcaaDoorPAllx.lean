-- by a program of mine
import Derived.Test.YtoklancgpmnhcaaDoorPAllx0
import Derived.Test.YtoklancgpmnhcaaDoorPAllx1
import Derived.Test.YtoklancgpmnhcaaDoorPAllx2
import Derived.Test.YtoklancgpmnhcaaDoorPAllx3
import Derived.Test.YtoklancgpmnhcaaDoorPAllx4
import Derived.Test.YtoklancgpmnhcaaDoorPAllx5
import Derived.Test.YtoklancgpmnhcaaDoorPAllx6
import Derived.Test.YtoklancgpmnhcaaDoorPAllx7
namespace Go.Proofs.YtoklancgpmnhcaaDoor.PAll
open Go.RowKit Go.Proofs.YtoklancgpmnhcaaDoorW.PrintWords Go.Proofs.YtoklancgpmnhcaaDoorW.PrintLast Go.Proofs.YtoklancgpmnhcaaDoorW.PrintMore
attribute [local go_sem] max2_int min2_int max_two min_two max_three min_three max_four min_four   -- for this text's walks alone
set_option linter.unusedVariables false
set_option linter.unusedSimpArgs false

end Go.Proofs.YtoklancgpmnhcaaDoor.PAll
