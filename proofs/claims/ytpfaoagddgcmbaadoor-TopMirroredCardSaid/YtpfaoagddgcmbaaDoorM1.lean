/- Plain facts of TopMirrored: seven rollers, part 1. -/
import Derived.Test.YtpfaoagddgcmbaaDoorMi
namespace Mirror06
set_option maxRecDepth 100000
theorem mir7_1 : mirA 7 140 140 = true := by decide +kernel
end Mirror06
