/- PathsTell, the plain statement. By an AI agent. -/
import Derived.Test.YtoklancgpmnhcaaDoorPathsLaws
namespace Go.Proofs.YtoklancgpmnhcaaDoor.Pure
open Go.Proofs.YtoklancgpmnhcaaDoor.PAll
theorem PathsTell : lighterlaw14_PathsTell.Pure := Hand.PathsTell
end Go.Proofs.YtoklancgpmnhcaaDoor.Pure
