/- The searches at this pair, reckoned. -/
import Derived.Test.YtnibmainjgcmaaaRun
set_option maxRecDepth 1000000
namespace Go.VS
theorem impl_c_7_2 : impl_CountLangford.C 10000 (7, 2) = some (0, true) := by kernel_rfl
theorem spec_c_7_2 : spec_CountLangford.C 10000 (7, 2) = some (0, true) := by kernel_rfl
end Go.VS
