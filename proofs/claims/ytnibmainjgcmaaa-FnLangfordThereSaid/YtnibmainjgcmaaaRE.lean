/- The law runs to true at this pair. -/
import Derived.Test.YtnibmainjgcmaaaRA
import Derived.Test.YtnibmainjgcmaaaRB
set_option maxRecDepth 1000000
namespace Go.VS
theorem impl_f_7_3 : impl_FirstLangford.C 10000 (7, 3) = some (true, [6, 7, 8, 9, 3, 4, 5, 6, 3, 7, 4, 8, 5, 9]) := by kernel_rfl
theorem spec_f_7_3 : spec_FirstLangford.C 10000 (7, 3) = some ([6, 7, 8, 9, 3, 4, 5, 6, 3, 7, 4, 8, 5, 9], true) := by kernel_rfl
theorem short_7_3 : laws_FnLangfordThere.T Pr.quick some (laws_FnLangfordThere.CJ12 10000) (laws_FnLangfordThere.CJ13 10000) (fun _ => some false) (fun _ => some (7, 3)) (atP 7 3 (some (28, true))) (atP 7 3 (some (28, true))) (atP 7 3 (some (true, all_7_3))) (atP 7 3 (some (all_7_3, true))) (atP 7 3 (some (true, [6, 7, 8, 9, 3, 4, 5, 6, 3, 7, 4, 8, 5, 9]))) (atP 7 3 (some ([6, 7, 8, 9, 3, 4, 5, 6, 3, 7, 4, 8, 5, 9], true))) (impl_IsLangfordThere.C 10000) (laws_jRows.C 10000) (laws_jSame.C 10000) [] [] = some true := by kernel_rfl
theorem lang_7_3 : langRun 7 3 = some true := by
  have h := short_7_3
  rw [Pr.quick_eq] at h
  unfold langRun
  rw [Pr.quick_eq]
  exact laws_FnLangfordThere.T_mono Le.rfl' (fun _ _ _ _ _ _ => Le.rfl') (fun _ => Le.rfl') (fun _ => Le.rfl') (atP_le impl_c_7_3) (atP_le spec_c_7_3) (atP_le impl_a_7_3) (atP_le spec_a_7_3) (atP_le impl_f_7_3) (atP_le spec_f_7_3) (fun _ => Le.rfl') (fun _ => Le.rfl') (fun _ => Le.rfl') true h
end Go.VS
