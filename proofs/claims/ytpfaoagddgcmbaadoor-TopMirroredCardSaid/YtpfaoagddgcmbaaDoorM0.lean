/- Plain facts of TopMirrored: seven rollers, part 0. -/
import Derived.Test.YtpfaoagddgcmbaaDoorMi
namespace Mirror06
set_option maxRecDepth 100000
theorem mir7_0 : mirA 7 0 140 = true := by decide +kernel
end Mirror06
