/- The law runs to true at these pairs. -/
import Derived.Test.YtnibmainjgcmaaaRun
set_option maxRecDepth 1000000
namespace Go.VS
theorem lang_1_1 : langRun 1 1 = some true := by kernel_rfl
theorem lang_1_2 : langRun 1 2 = some true := by kernel_rfl
theorem lang_1_3 : langRun 1 3 = some true := by kernel_rfl
theorem lang_1_0 : langRun 1 0 = some true := by kernel_rfl
theorem lang_1_11 : langRun 1 11 = some true := by kernel_rfl
theorem lang_1_12 : langRun 1 12 = some true := by kernel_rfl
theorem lang_3_1 : langRun 3 1 = some true := by kernel_rfl
theorem lang_3_2 : langRun 3 2 = some true := by kernel_rfl
theorem lang_3_3 : langRun 3 3 = some true := by kernel_rfl
theorem lang_3_0 : langRun 3 0 = some true := by kernel_rfl
theorem lang_3_11 : langRun 3 11 = some true := by kernel_rfl
theorem lang_3_12 : langRun 3 12 = some true := by kernel_rfl
theorem lang_4_1 : langRun 4 1 = some true := by kernel_rfl
theorem lang_4_2 : langRun 4 2 = some true := by kernel_rfl
theorem lang_4_3 : langRun 4 3 = some true := by kernel_rfl
theorem lang_4_0 : langRun 4 0 = some true := by kernel_rfl
theorem lang_4_11 : langRun 4 11 = some true := by kernel_rfl
theorem lang_4_12 : langRun 4 12 = some true := by kernel_rfl
theorem lang_0_1 : langRun 0 1 = some true := by kernel_rfl
theorem lang_0_2 : langRun 0 2 = some true := by kernel_rfl
theorem lang_0_3 : langRun 0 3 = some true := by kernel_rfl
theorem lang_0_0 : langRun 0 0 = some true := by kernel_rfl
theorem lang_0_11 : langRun 0 11 = some true := by kernel_rfl
theorem lang_0_12 : langRun 0 12 = some true := by kernel_rfl
theorem lang_10_1 : langRun 10 1 = some true := by kernel_rfl
theorem lang_10_2 : langRun 10 2 = some true := by kernel_rfl
theorem lang_10_3 : langRun 10 3 = some true := by kernel_rfl
theorem lang_10_0 : langRun 10 0 = some true := by kernel_rfl
theorem lang_10_11 : langRun 10 11 = some true := by kernel_rfl
theorem lang_10_12 : langRun 10 12 = some true := by kernel_rfl
end Go.VS
/- The law runs to true at this pair. -/
set_option maxRecDepth 1000000
namespace Go.VS
theorem lang_7_0 : langRun 7 0 = some true := by kernel_rfl
end Go.VS
/- The law runs to true at this pair. -/
set_option maxRecDepth 1000000
namespace Go.VS
theorem lang_7_11 : langRun 7 11 = some true := by kernel_rfl
end Go.VS
/- The law runs to true at this pair. -/
set_option maxRecDepth 1000000
namespace Go.VS
theorem lang_7_12 : langRun 7 12 = some true := by kernel_rfl
end Go.VS
