/- The law runs to true at these pairs. -/
import Derived.Test.YtnibmainjgcmaaaRun
set_option maxRecDepth 1000000
namespace Go.VS
theorem lang_6_1 : langRun 6 1 = some true := by kernel_rfl
theorem lang_6_2 : langRun 6 2 = some true := by kernel_rfl
theorem lang_6_3 : langRun 6 3 = some true := by kernel_rfl
theorem lang_6_0 : langRun 6 0 = some true := by kernel_rfl
theorem lang_6_11 : langRun 6 11 = some true := by kernel_rfl
theorem lang_6_12 : langRun 6 12 = some true := by kernel_rfl
end Go.VS
