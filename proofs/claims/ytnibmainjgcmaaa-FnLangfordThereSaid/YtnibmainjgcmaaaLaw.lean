/- FnLangfordThere answers true. -/
import Derived.Test.YtnibmainjgcmaaaDraw
import Derived.Test.YtnibmainjgcmaaaR0
import Derived.Test.YtnibmainjgcmaaaR1
import Derived.Test.YtnibmainjgcmaaaR2
import Derived.Test.YtnibmainjgcmaaaRC
import Derived.Test.YtnibmainjgcmaaaRD
import Derived.Test.YtnibmainjgcmaaaRE
set_option linter.unusedVariables false
namespace Go.VS
theorem lang_all {n d : Int} (hn : n ∈ [(1 : Int), 3, 4, 5, 6, 7, 0, 10]) (hd : d ∈ [(1 : Int), 2, 3, 0, 11, 12]) : langRun n d = some true := by
  have h1 : n = 1 ∨ n = 3 ∨ n = 4 ∨ n = 5 ∨ n = 6 ∨ n = 7 ∨ n = 0 ∨ n = 10 := by simpa using hn
  have h2 : d = 1 ∨ d = 2 ∨ d = 3 ∨ d = 0 ∨ d = 11 ∨ d = 12 := by simpa using hd
  rcases h1 with rfl | rfl | rfl | rfl | rfl | rfl | rfl | rfl <;> rcases h2 with rfl | rfl | rfl | rfl | rfl | rfl
  · exact lang_1_1
  · exact lang_1_2
  · exact lang_1_3
  · exact lang_1_0
  · exact lang_1_11
  · exact lang_1_12
  · exact lang_3_1
  · exact lang_3_2
  · exact lang_3_3
  · exact lang_3_0
  · exact lang_3_11
  · exact lang_3_12
  · exact lang_4_1
  · exact lang_4_2
  · exact lang_4_3
  · exact lang_4_0
  · exact lang_4_11
  · exact lang_4_12
  · exact lang_5_1
  · exact lang_5_2
  · exact lang_5_3
  · exact lang_5_0
  · exact lang_5_11
  · exact lang_5_12
  · exact lang_6_1
  · exact lang_6_2
  · exact lang_6_3
  · exact lang_6_0
  · exact lang_6_11
  · exact lang_6_12
  · exact lang_7_1
  · exact lang_7_2
  · exact lang_7_3
  · exact lang_7_0
  · exact lang_7_11
  · exact lang_7_12
  · exact lang_0_1
  · exact lang_0_2
  · exact lang_0_3
  · exact lang_0_0
  · exact lang_0_11
  · exact lang_0_12
  · exact lang_10_1
  · exact lang_10_2
  · exact lang_10_3
  · exact lang_10_0
  · exact lang_10_11
  · exact lang_10_12
theorem lang_le (n d : Int) (xs ys : List Int) : Le (langRun n d) (laws_FnLangfordThere.T Pr.std some laws_FnLangfordThere.XJ12 laws_FnLangfordThere.XJ13 (fun _ => some false) (fun _ => some (n, d)) impl_CountLangford.X spec_CountLangford.X impl_AllLangford.X spec_AllLangford.X impl_FirstLangford.X spec_FirstLangford.X impl_IsLangfordThere.X laws_jRows.X laws_jSame.X xs ys) := by
  unfold langRun
  rw [Pr.quick_eq]
  exact laws_FnLangfordThere.T_mono (laws_FnLangfordThere.C_okc 10000 (by omega)).1 (laws_FnLangfordThere.C_okc 10000 (by omega)).2.1 (fun _ => Le.rfl') (fun _ => Le.rfl') (fun x => impl_CountLangford.C_ok 10000 (by omega) x) (fun x => spec_CountLangford.C_ok 10000 (by omega) x) (fun x => impl_AllLangford.C_ok 10000 (by omega) x) (fun x => spec_AllLangford.C_ok 10000 (by omega) x) (fun x => impl_FirstLangford.C_ok 10000 (by omega) x) (fun x => spec_FirstLangford.C_ok 10000 (by omega) x) (fun x => impl_IsLangfordThere.C_ok 10000 (by omega) x) (fun x => laws_jRows.C_ok 10000 (by omega) x) (fun x => laws_jSame.C_ok 10000 (by omega) x)
theorem laws_FnLangfordThere.true_ (xs ys : List Int) (hx : ∀ n ∈ xs, 0 ≤ n ∧ n < 256) (hy : ∀ n ∈ ys, 0 ≤ n ∧ n < 256) : laws_FnLangfordThere.X (xs, ys) = some true := by
  have hb : ∃ b, laws_big.X (xs, ys) = some b := by
    rw [laws_big.X_eq]
    unfold laws_big.T
    split
    · exact ⟨_, rfl⟩
    · exact ⟨_, rfl⟩
  obtain ⟨b, hb⟩ := hb
  rw [laws_FnLangfordThere.X_eq]
  cases b with
  | true =>
    unfold laws_FnLangfordThere.T
    rw [hb]
    rfl
  | false =>
    obtain ⟨n, d, e, hn, hd⟩ := langDraw hx
    have h := (lang_le n d xs ys) true (lang_all hn hd)
    unfold laws_FnLangfordThere.T at h ⊢
    rw [hb, e]
    exact h
end Go.VS
