/- Plain facts of chapter 1: the codes of all orders of seven. -/
import Derived.Test.YtpfaoagddgcmbaaDoorDa
namespace Dock01
open Grade03
set_option maxRecDepth 100000
theorem cod7_4 : ((allO 7 6 [4]).all (codB 7)) = true := by decide +kernel
theorem cod7_5 : ((allO 7 6 [5]).all (codB 7)) = true := by decide +kernel
theorem cod7_6 : ((allO 7 6 [6]).all (codB 7)) = true := by decide +kernel
end Dock01
