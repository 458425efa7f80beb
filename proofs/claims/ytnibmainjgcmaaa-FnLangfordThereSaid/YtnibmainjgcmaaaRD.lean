/- The law runs to true at this pair. -/
import Derived.Test.YtnibmainjgcmaaaR5
import Derived.Test.YtnibmainjgcmaaaR9
set_option maxRecDepth 1000000
namespace Go.VS
theorem impl_f_7_2 : impl_FirstLangford.C 10000 (7, 2) = some (false, []) := by kernel_rfl
theorem spec_f_7_2 : spec_FirstLangford.C 10000 (7, 2) = some ([], false) := by kernel_rfl
theorem short_7_2 : laws_FnLangfordThere.T Pr.quick some (laws_FnLangfordThere.CJ12 10000) (laws_FnLangfordThere.CJ13 10000) (fun _ => some false) (fun _ => some (7, 2)) (atP 7 2 (some (0, true))) (atP 7 2 (some (0, true))) (atP 7 2 (some (true, all_7_2))) (atP 7 2 (some (all_7_2, true))) (atP 7 2 (some (false, []))) (atP 7 2 (some ([], false))) (impl_IsLangfordThere.C 10000) (laws_jRows.C 10000) (laws_jSame.C 10000) [] [] = some true := by kernel_rfl
theorem lang_7_2 : langRun 7 2 = some true := by
  have h := short_7_2
  rw [Pr.quick_eq] at h
  unfold langRun
  rw [Pr.quick_eq]
  exact laws_FnLangfordThere.T_mono Le.rfl' (fun _ _ _ _ _ _ => Le.rfl') (fun _ => Le.rfl') (fun _ => Le.rfl') (atP_le impl_c_7_2) (atP_le spec_c_7_2) (atP_le impl_a_7_2) (atP_le spec_a_7_2) (atP_le impl_f_7_2) (atP_le spec_f_7_2) (fun _ => Le.rfl') (fun _ => Le.rfl') (fun _ => Le.rfl') true h
end Go.VS
