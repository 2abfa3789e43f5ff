/- PathsClean, the plain statement. By an AI agent. -/
import Derived.Test.YtoklancgpmnhcaaDoorPathsLaws2
namespace Go.Proofs.YtoklancgpmnhcaaDoor.Pure
open Go.Proofs.YtoklancgpmnhcaaDoor.PAll
theorem PathsClean : lighterlaw14_PathsClean.Pure := Hand.PathsClean
end Go.Proofs.YtoklancgpmnhcaaDoor.Pure
