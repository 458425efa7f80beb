/- One run of the law at a pair. -/
import Derived.Test.YtnibmainjgcmaaaG12
set_option maxRecDepth 1000000
namespace Go.VS
noncomputable def langRun (n d : Int) : Option Bool := laws_FnLangfordThere.T Pr.quick some (laws_FnLangfordThere.CJ12 10000) (laws_FnLangfordThere.CJ13 10000) (fun _ => some false) (fun _ => some (n, d)) (impl_CountLangford.C 10000) (spec_CountLangford.C 10000) (impl_AllLangford.C 10000) (spec_AllLangford.C 10000) (impl_FirstLangford.C 10000) (spec_FirstLangford.C 10000) (impl_IsLangfordThere.C 10000) (laws_jRows.C 10000) (laws_jSame.C 10000) [] []
end Go.VS
/- A call that is known at one pair. -/
set_option maxRecDepth 1000000
namespace Go.VS
def atP {A : Type} (a b : Int) (v : Option A) (x : Int × Int) : Option A := bif x.1 == a && x.2 == b then v else none
theorem atP_le {A : Type} {a b : Int} {v : Option A} {f : Int × Int → Option A} (h : f (a, b) = v) (x : Int × Int) : Le (atP a b v x) (f x) := by
  intro r hr
  unfold atP at hr
  cases hc : (x.1 == a && x.2 == b) with
  | true =>
    rw [hc] at hr
    simp at hc
    obtain ⟨x1, x2⟩ := x
    obtain ⟨rfl, rfl⟩ := hc
    rw [h]; exact hr
  | false => rw [hc] at hr; simp at hr
end Go.VS
