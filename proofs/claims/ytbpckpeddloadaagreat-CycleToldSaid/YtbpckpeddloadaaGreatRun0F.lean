/- CycleTold, where the number's place below 20 is 0 and the bool is false: the run answers true, reckoned by the kernel. Condition: none. -/
import Derived.Test.YtbpckpeddloadaaGreatLay
namespace Go.Proofs.YtbpckpeddloadaaGreat
open Go.Kx
set_option maxRecDepth 100000
theorem run0_ff : okTT (caseRun 0 .ff) = true := by kernel_rfl
end Go.Proofs.YtbpckpeddloadaaGreat
