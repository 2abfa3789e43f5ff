/- PathsUnder, the plain statement. By an AI agent. -/
import Derived.Test.YtoklancgpmnhcaaDoorPathsLaws2
namespace Go.Proofs.YtoklancgpmnhcaaDoor.Pure
open Go.Proofs.YtoklancgpmnhcaaDoor.PAll
theorem PathsUnder : lighterlaw14_PathsUnder.Pure := Hand.PathsUnder
end Go.Proofs.YtoklancgpmnhcaaDoor.Pure
