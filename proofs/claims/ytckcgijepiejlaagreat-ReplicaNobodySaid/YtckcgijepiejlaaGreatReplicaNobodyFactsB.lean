/-
  THE CLOSED FACTS of the row of ReplicaNobody, each by itself.
-/
import Derived.Test.YtckcgijepiejlaaGreatReplicaNobodyFactsA
namespace Go.Proofs.YtckcgijepiejlaaGreat.replicaNobody
open Go
set_option linter.unusedVariables false
theorem fact9 : ((factC.inPlace == factP.inPlace factF)) = true := by kernel_rfl
theorem fact10 : ((factC.unfollowed == factP.unfollowed factF)) = true := by kernel_rfl
end Go.Proofs.YtckcgijepiejlaaGreat.replicaNobody
