/- CycleTold, where the number's place below 20 is 19 and the bool is true: the run answers true, reckoned by the kernel. Condition: none. -/
import Derived.Test.YtbpckpeddloadaaGreatLay
namespace Go.Proofs.YtbpckpeddloadaaGreat
open Go.Kx
set_option maxRecDepth 100000
theorem run19_tt : okTT (caseRun 19 .tt) = true := by kernel_rfl
end Go.Proofs.YtbpckpeddloadaaGreat
