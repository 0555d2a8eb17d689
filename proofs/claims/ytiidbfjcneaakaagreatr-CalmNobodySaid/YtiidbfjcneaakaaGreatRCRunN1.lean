/- CalmNobody, where the number's remainder by five is -1: the evaluator's run. -/
import Derived.Test.YtiidbfjcneaakaaGreatRCBase
namespace Go.Proofs.YtiidbfjcneaakaaGreatR
open Go.AE
set_option maxRecDepth 100000
theorem runN1 (m : Int) : isOk (law (envCalm m (-1)) 4000 4 [.sym 0]) = true := by kernel_rfl
end Go.Proofs.YtiidbfjcneaakaaGreatR
