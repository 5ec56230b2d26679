/- Plain facts of TopMirrored: seven rollers, part 2. -/
import Derived.Test.YtpfaoagddgcmbaaDoorMi
namespace Mirror06
set_option maxRecDepth 100000
theorem mir7_2 : mirA 7 280 140 = true := by decide +kernel
end Mirror06
