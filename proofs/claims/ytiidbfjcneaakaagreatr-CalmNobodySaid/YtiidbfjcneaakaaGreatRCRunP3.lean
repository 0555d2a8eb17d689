/- CalmNobody, where the number's remainder by five is 3: the evaluator's run. -/
import Derived.Test.YtiidbfjcneaakaaGreatRCBase
namespace Go.Proofs.YtiidbfjcneaakaaGreatR
open Go.AE
set_option maxRecDepth 100000
theorem runP3 (m : Int) : isOk (law (envCalm m (3)) 4000 4 [.sym 0]) = true := by kernel_rfl
end Go.Proofs.YtiidbfjcneaakaaGreatR
