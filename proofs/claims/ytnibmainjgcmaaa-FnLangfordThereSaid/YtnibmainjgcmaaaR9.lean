/- The searches at this pair, reckoned. -/
import Derived.Test.YtnibmainjgcmaaaRun
set_option maxRecDepth 1000000
namespace Go.VS
noncomputable def all_7_2 : List (List Int) := []
theorem impl_a_7_2 : impl_AllLangford.C 10000 (7, 2) = some (true, all_7_2) := by kernel_rfl
theorem spec_a_7_2 : spec_AllLangford.C 10000 (7, 2) = some (all_7_2, true) := by kernel_rfl
end Go.VS
