/- The searches at this pair, reckoned. -/
import Derived.Test.YtnibmainjgcmaaaRun
set_option maxRecDepth 1000000
namespace Go.VS
theorem impl_c_7_3 : impl_CountLangford.C 10000 (7, 3) = some (28, true) := by kernel_rfl
theorem spec_c_7_3 : spec_CountLangford.C 10000 (7, 3) = some (28, true) := by kernel_rfl
end Go.VS
