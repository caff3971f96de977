/-
  THE CLOSED FACTS of the row of ReplicaNobody, each by itself.
-/
import Derived.Test.YtckcgijepiejlaaGreatReplicaNobodyFactsA
namespace Go.Proofs.YtckcgijepiejlaaGreat.replicaNobody
open Go
set_option linter.unusedVariables false
theorem fact11 : ((factC.recurses == factP.recurses factF)) = true := by kernel_rfl
end Go.Proofs.YtckcgijepiejlaaGreat.replicaNobody
