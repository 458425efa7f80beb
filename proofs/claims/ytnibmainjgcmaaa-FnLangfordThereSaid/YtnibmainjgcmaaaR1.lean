/- The law runs to true at these pairs. -/
import Derived.Test.YtnibmainjgcmaaaRun
set_option maxRecDepth 1000000
namespace Go.VS
theorem lang_5_1 : langRun 5 1 = some true := by kernel_rfl
theorem lang_5_2 : langRun 5 2 = some true := by kernel_rfl
theorem lang_5_3 : langRun 5 3 = some true := by kernel_rfl
theorem lang_5_0 : langRun 5 0 = some true := by kernel_rfl
theorem lang_5_11 : langRun 5 11 = some true := by kernel_rfl
theorem lang_5_12 : langRun 5 12 = some true := by kernel_rfl
end Go.VS
