/- PathsWhite, the plain statement. By an AI agent. -/
import Derived.Test.YtoklancgpmnhcaaDoorPathsLaws2
namespace Go.Proofs.YtoklancgpmnhcaaDoor.Pure
open Go.Proofs.YtoklancgpmnhcaaDoor.PAll
theorem PathsWhite : lighterlaw14_PathsWhite.Pure := Hand.PathsWhite
end Go.Proofs.YtoklancgpmnhcaaDoor.Pure
