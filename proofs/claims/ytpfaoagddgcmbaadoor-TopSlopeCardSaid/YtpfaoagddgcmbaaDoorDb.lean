/- Plain facts of chapter 1: the codes of all orders of seven. -/
import Derived.Test.YtpfaoagddgcmbaaDoorDa
namespace Dock01
open Grade03
set_option maxRecDepth 100000
theorem cod7_0 : ((allO 7 6 [0]).all (codB 7)) = true := by decide +kernel
theorem cod7_1 : ((allO 7 6 [1]).all (codB 7)) = true := by decide +kernel
theorem cod7_2 : ((allO 7 6 [2]).all (codB 7)) = true := by decide +kernel
theorem cod7_3 : ((allO 7 6 [3]).all (codB 7)) = true := by decide +kernel
end Dock01
