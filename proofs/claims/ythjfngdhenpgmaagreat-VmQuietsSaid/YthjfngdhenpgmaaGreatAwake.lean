/- 'awake' of the law's package answers true: its run, reckoned by the kernel. Condition: none. -/
import Derived.Test.YthjfngdhenpgmaaGreatLay
namespace Go.Proofs.YthjfngdhenpgmaaGreat
open Go.Kx
set_option maxRecDepth 100000
theorem awake_tt : okTT awakeRun = true := by kernel_rfl
end Go.Proofs.YthjfngdhenpgmaaGreat
