/- PathsParts, the plain statement. By an AI agent. -/
import Derived.Test.YtoklancgpmnhcaaDoorPathsLaws3
namespace Go.Proofs.YtoklancgpmnhcaaDoor.Pure
open Go.Proofs.YtoklancgpmnhcaaDoor.PAll
theorem PathsParts : lighterlaw14_PathsParts.Pure := Hand.PathsParts
end Go.Proofs.YtoklancgpmnhcaaDoor.Pure
