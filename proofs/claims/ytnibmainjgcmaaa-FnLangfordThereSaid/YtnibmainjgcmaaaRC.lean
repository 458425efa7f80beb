/- The law runs to true at this pair. -/
import Derived.Test.YtnibmainjgcmaaaR3
import Derived.Test.YtnibmainjgcmaaaR4
set_option maxRecDepth 1000000
namespace Go.VS
theorem impl_f_7_1 : impl_FirstLangford.C 10000 (7, 1) = some (true, [1, 4, 1, 5, 6, 7, 4, 2, 3, 5, 2, 6, 3, 7]) := by kernel_rfl
theorem spec_f_7_1 : spec_FirstLangford.C 10000 (7, 1) = some ([1, 4, 1, 5, 6, 7, 4, 2, 3, 5, 2, 6, 3, 7], true) := by kernel_rfl
theorem short_7_1 : laws_FnLangfordThere.T Pr.quick some (laws_FnLangfordThere.CJ12 10000) (laws_FnLangfordThere.CJ13 10000) (fun _ => some false) (fun _ => some (7, 1)) (atP 7 1 (some (52, true))) (atP 7 1 (some (52, true))) (atP 7 1 (some (true, all_7_1))) (atP 7 1 (some (all_7_1, true))) (atP 7 1 (some (true, [1, 4, 1, 5, 6, 7, 4, 2, 3, 5, 2, 6, 3, 7]))) (atP 7 1 (some ([1, 4, 1, 5, 6, 7, 4, 2, 3, 5, 2, 6, 3, 7], true))) (impl_IsLangfordThere.C 10000) (laws_jRows.C 10000) (laws_jSame.C 10000) [] [] = some true := by kernel_rfl
theorem lang_7_1 : langRun 7 1 = some true := by
  have h := short_7_1
  rw [Pr.quick_eq] at h
  unfold langRun
  rw [Pr.quick_eq]
  exact laws_FnLangfordThere.T_mono Le.rfl' (fun _ _ _ _ _ _ => Le.rfl') (fun _ => Le.rfl') (fun _ => Le.rfl') (atP_le impl_c_7_1) (atP_le spec_c_7_1) (atP_le impl_a_7_1) (atP_le spec_a_7_1) (atP_le impl_f_7_1) (atP_le spec_f_7_1) (fun _ => Le.rfl') (fun _ => Le.rfl') (fun _ => Le.rfl') true h
end Go.VS
