/- The searches at this pair, reckoned. -/
import Derived.Test.YtnibmainjgcmaaaRun
set_option maxRecDepth 1000000
namespace Go.VS
theorem impl_c_7_1 : impl_CountLangford.C 10000 (7, 1) = some (52, true) := by kernel_rfl
theorem spec_c_7_1 : spec_CountLangford.C 10000 (7, 1) = some (52, true) := by kernel_rfl
end Go.VS
