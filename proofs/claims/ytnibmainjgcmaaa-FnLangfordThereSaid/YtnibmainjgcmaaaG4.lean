/- printed by gen.py: a part of the walk through the program. No condition. -/
import Derived.Test.YtnibmainjgcmaaaG3
set_option linter.unusedVariables false
set_option linter.unusedSimpArgs false
set_option maxRecDepth 100000
namespace Go.VS
/-! ### loop.example/g01232/spec.l1Own -/
def spec_l1Own.s0 (a : LI) : St := { slots := [.sl (.int .i64) a], rows := [], boxes := [] }
def spec_l1Own.pat : St → Option LI
  | { slots := [.sl (.int .i64) l], rows := [], boxes := [], gd := [] } => some l
  | _ => none
theorem spec_l1Own.hp : ∀ st a, spec_l1Own.pat st = some a → st = spec_l1Own.s0 a := by
  intro st a h
  unfold spec_l1Own.pat at h
  split at h
  · cases h; rfl
  · cases h
def spec_l1Own.ret (r : LI) : R := ({ slots := [], rows := [(0, ⟨.int .i64, r⟩)], boxes := [] }, [.row 0])
def spec_l1Own.ap (b : LI) (K : St → List V → Option R) : Option R := K (spec_l1Own.ret b).1 (spec_l1Own.ret b).2
theorem spec_l1Own.hap : ∀ b K, spec_l1Own.ap b K = K (spec_l1Own.ret b).1 (spec_l1Own.ret b).2 := fun _ _ => rfl
theorem spec_l1Own.inj : ∀ x y, spec_l1Own.ret x = spec_l1Own.ret y → x = y := by
  intro x y h
  cases h; rfl
theorem spec_l1Own.dc (x : LI) : dec spec_l1Own.ret (some (spec_l1Own.ret x)) = some x := dec_ret spec_l1Own.inj x
noncomputable def spec_l1Own.cx : Cx := { ty := TY, fns := [], nk := [], sharp := true }
noncomputable def spec_l1Own.body : Code := Go.Proofs.Try.f105.body.getD .skip
def spec_l1Own.fl : Fn := { loops := [], joins := [], nr := 0, nb := 0, rs := [.tmp 2], pre := [], mv := [], fz := [] }
noncomputable def spec_l1Own.Q (a : LI) : Option R := eval spec_l1Own.cx spec_l1Own.fl [.code spec_l1Own.body] (start 6 (spec_l1Own.s0 a))
noncomputable def spec_l1Own.X (a : LI) : Option LI := dec spec_l1Own.ret (spec_l1Own.Q a)
theorem spec_l1Own.fns : FnsOk Go.Proofs.Try.prog spec_l1Own.cx := show FnsL _ _ from fns_nil
theorem spec_l1Own.lin : spec_l1Own.cx.Lin := Lin.of_fns spec_l1Own.fns
noncomputable def spec_l1Own.E : Entry := mkE [] spec_l1Own.pat spec_l1Own.X spec_l1Own.ap
theorem spec_l1Own.ok : EntOk Go.Proofs.Try.prog 105 spec_l1Own.E := mkE_ok (fun w args => Go.Proofs.Try.call105 args w) spec_l1Own.hp spec_l1Own.hap fun a b h => vc_of_X mixed (tyB_ok (cx := spec_l1Own.cx) tyOk) spec_l1Own.fns (fl := spec_l1Own.fl) Go.Proofs.Try.func105 (code := spec_l1Own.body) (by kernel_rfl) (n := 6) (by kernel_rfl) (by kernel_rfl) (by decide) (by decide) rfl rfl h
def spec_l1Own.T {α : Type} (pr : Pr) (rt : LI → Option α) (l : LI) : Option α :=
  if 0 + l.length < 8796093022208 then
    pr.fl ([] ++ l) fun y0 => rt y0
  else
    none
theorem spec_l1Own.Q_eq (l : LI) : spec_l1Own.Q l = spec_l1Own.T Pr.std (fun b => some (spec_l1Own.ret b)) l := (eval_seg spec_l1Own.lin 1000000 _ _).trans (by kernel_rfl)
theorem spec_l1Own.X_eq (l : LI) : spec_l1Own.X l = spec_l1Own.T Pr.std some l := by
  show dec spec_l1Own.ret (spec_l1Own.Q l) = _
  rw [spec_l1Own.Q_eq]
  simp only [spec_l1Own.T, std_fi, std_fb, std_fl, std_fll, std_flll, std_flb, std_fh, dec_ite, dec_cond, dec_bind, dec_elim, dec_none, spec_l1Own.dc]
  try rfl
theorem spec_l1Own.T_mono {α : Type} {rt : LI → Option α} {l : LI} : Le (spec_l1Own.T Pr.std rt l) (spec_l1Own.T Pr.std rt l) := by
  unfold spec_l1Own.T
  exact (Le.ite Le.rfl' Le.rfl')
noncomputable def spec_l1Own.C (fu : Nat) (a : LI) : Option LI := spec_l1Own.T Pr.quick some a
theorem spec_l1Own.C_ok (fu : Nat) (hfu : fu ≤ 100000) (a : LI) : Le (spec_l1Own.C fu a) (spec_l1Own.X a) := by
  show Le (spec_l1Own.T Pr.quick some a) _
  rw [Pr.quick_eq, spec_l1Own.X_eq]
  exact spec_l1Own.T_mono
/-! ### (*loop.example/g01232/spec.seLook).look -/
def spec_seLook_look.s0 (a : LI × LLI × Int × Int × Int × Int × Int × Int × Int) : St := { slots := [.ptr 0 0], rows := [(0, ⟨.int .i64, a.1⟩), (1, ⟨.sl (.int .i64), a.2.1⟩)], boxes := [(0, [.row 0, .int .i64 a.2.2.1, .int .i64 a.2.2.2.1, .int .i64 a.2.2.2.2.1, .int .i64 a.2.2.2.2.2.1, .int .i64 a.2.2.2.2.2.2.1, .int .i64 a.2.2.2.2.2.2.2.1, .int .i64 a.2.2.2.2.2.2.2.2, .row 1])] }
def spec_seLook_look.pat : St → Option (LI × LLI × Int × Int × Int × Int × Int × Int × Int)
  | { slots := [.ptr 0 0], rows := [(0, ⟨.int .i64, l_0⟩), (1, ⟨.sl (.int .i64), l_8⟩)], boxes := [(0, [.row 0, .int .i64 l_1, .int .i64 l_2, .int .i64 l_3, .int .i64 l_4, .int .i64 l_5, .int .i64 l_6, .int .i64 l_7, .row 1])], gd := [] } => some (l_0, l_8, l_1, l_2, l_3, l_4, l_5, l_6, l_7)
  | _ => none
theorem spec_seLook_look.hp : ∀ st a, spec_seLook_look.pat st = some a → st = spec_seLook_look.s0 a := by
  intro st a h
  unfold spec_seLook_look.pat at h
  split at h
  · cases h; rfl
  · cases h
def spec_seLook_look.ret (r : LI × LLI × Int × Int × Int × Int × Int × Int × Int) : R := ({ slots := [], rows := [(2, ⟨.int .i64, r.1⟩), (3, ⟨.sl (.int .i64), r.2.1⟩)], boxes := [(0, [.row 2, .int .i64 r.2.2.1, .int .i64 r.2.2.2.1, .int .i64 r.2.2.2.2.1, .int .i64 r.2.2.2.2.2.1, .int .i64 r.2.2.2.2.2.2.1, .int .i64 r.2.2.2.2.2.2.2.1, .int .i64 r.2.2.2.2.2.2.2.2, .row 3])] }, [])
def spec_seLook_look.ap (b : LI × LLI × Int × Int × Int × Int × Int × Int × Int) (K : St → List V → Option R) : Option R := K (spec_seLook_look.ret b).1 (spec_seLook_look.ret b).2
theorem spec_seLook_look.hap : ∀ b K, spec_seLook_look.ap b K = K (spec_seLook_look.ret b).1 (spec_seLook_look.ret b).2 := fun _ _ => rfl
theorem spec_seLook_look.inj : ∀ x y, spec_seLook_look.ret x = spec_seLook_look.ret y → x = y := by
  intro x y h
  obtain ⟨x1, x2, x3, x4, x5, x6, x7, x8, x9⟩ := x; obtain ⟨y1, y2, y3, y4, y5, y6, y7, y8, y9⟩ := y; cases h; rfl
theorem spec_seLook_look.dc (x : LI × LLI × Int × Int × Int × Int × Int × Int × Int) : dec spec_seLook_look.ret (some (spec_seLook_look.ret x)) = some x := dec_ret spec_seLook_look.inj x
def spec_seLook_look.Ed (X : (LI × LLI × Int × Int × Int × Int × Int × Int × Int) → Option (LI × LLI × Int × Int × Int × Int × Int × Int × Int)) : Entry := mkE [[true]] spec_seLook_look.pat X spec_seLook_look.ap
noncomputable def spec_seLook_look.cx (X : (LI × LLI × Int × Int × Int × Int × Int × Int × Int) → Option (LI × LLI × Int × Int × Int × Int × Int × Int × Int)) : Cx := { ty := TY, fns := [(105, spec_l1Own.E), (100, spec_seLook_look.Ed X)], nk := [], sharp := true }
noncomputable def spec_seLook_look.body : Code := Go.Proofs.Try.f100.body.getD .skip
def spec_seLook_look.fl : Fn := { loops := [(1, [(0, none), (2, none)]), (8, [(0, none), (2, none), (3, none)])], joins := [(9, [(0, none), (2, none), (3, none)])], nr := 2, nb := 1, rs := [], pre := [], mv := [0, 1], fz := [] }
noncomputable def spec_seLook_look.X : Nat → (LI × LLI × Int × Int × Int × Int × Int × Int × Int) → Option (LI × LLI × Int × Int × Int × Int × Int × Int × Int)
  | 0 => fun _ => none
  | dep + 1 => fun a => dec spec_seLook_look.ret (eval (spec_seLook_look.cx (spec_seLook_look.X dep)) spec_seLook_look.fl [.code spec_seLook_look.body] (start 171 (spec_seLook_look.s0 a)))
noncomputable def spec_seLook_look.XX : (LI × LLI × Int × Int × Int × Int × Int × Int × Int) → Option (LI × LLI × Int × Int × Int × Int × Int × Int × Int) := spec_seLook_look.X 100000
noncomputable def spec_seLook_look.Q (dep : Nat) (a : LI × LLI × Int × Int × Int × Int × Int × Int × Int) : Option R := eval (spec_seLook_look.cx (spec_seLook_look.X dep)) spec_seLook_look.fl [.code spec_seLook_look.body] (start 171 (spec_seLook_look.s0 a))
def spec_seLook_look.sL1 (at0 : Int) (l_0 : LI) (l_8 : LLI) (l_1 l_2 l_3 l_4 l_5 l_6 l_7 : Int) : St := { slots := [.ptr 0 0, D, .int .i64 at0, D, D, D, D, D, D, D, D, D, D, D, D, D, D, D, D, D, D, D, D, D, D, D, D, D, D, D, D, D, D, D, D, D, D, D, D, D, D, D, D, D, D, D, D, D, D, D, D, D, D, D, D, D, D, D, D, D, D, D, D, D, D, D, D, D, D, D, D, D, D, D, D, D, D, D, D, D, D, D, D, D, D, D, D, D, D, D, D, D, D, D, D, D, D, D, D, D, D, D, D, D, D, D, D, D, D, D, D, D, D, D, D, D, D, D, D, D, D, D, D, D, D, D, D, D, D, D, D, D, D, D, D, D, D, D, D, D, D, D, D, D, D, D, D, D, D, D, D, D, D, D, D, D, D, D, D, D, D, D, D, D, D, D, D, D, D, D, D], rows := [(0, ⟨.int .i64, l_0⟩), (1, ⟨.sl (.int .i64), l_8⟩)], boxes := [(0, [.row 0, .int .i64 l_1, .int .i64 l_2, .int .i64 l_3, .int .i64 l_4, .int .i64 l_5, .int .i64 l_6, .int .i64 l_7, .row 1])] }
noncomputable def spec_seLook_look.tL1 : List It := (findL 1 spec_seLook_look.body []).getD []
noncomputable def spec_seLook_look.QL1 (dep : Nat) (at0 : Int) (l_0 : LI) (l_8 : LLI) (l_1 l_2 l_3 l_4 l_5 l_6 l_7 : Int) : Option R := eval (spec_seLook_look.cx (spec_seLook_look.X dep)) spec_seLook_look.fl spec_seLook_look.tL1 (spec_seLook_look.sL1 at0 l_0 l_8 l_1 l_2 l_3 l_4 l_5 l_6 l_7)
noncomputable def spec_seLook_look.XL1 (dep : Nat) (at0 : Int) (l_0 : LI) (l_8 : LLI) (l_1 l_2 l_3 l_4 l_5 l_6 l_7 : Int) : Option (LI × LLI × Int × Int × Int × Int × Int × Int × Int) := dec spec_seLook_look.ret (spec_seLook_look.QL1 dep at0 l_0 l_8 l_1 l_2 l_3 l_4 l_5 l_6 l_7)
def spec_seLook_look.sL8 (at0 number : Int) (l_0 : LI) (l_8 : LLI) (l_1 l_2 l_3 l_4 l_5 l_6 l_7 : Int) : St := { slots := [.ptr 0 0, D, .int .i64 at0, .int .i64 number, D, D, D, D, D, D, D, D, D, D, D, D, D, D, D, D, D, D, D, D, D, D, D, D, D, D, D, D, D, D, D, D, D, D, D, D, D, D, D, D, D, D, D, D, D, D, D, D, D, D, D, D, D, D, D, D, D, D, D, D, D, D, D, D, D, D, D, D, D, D, D, D, D, D, D, D, D, D, D, D, D, D, D, D, D, D, D, D, D, D, D, D, D, D, D, D, D, D, D, D, D, D, D, D, D, D, D, D, D, D, D, D, D, D, D, D, D, D, D, D, D, D, D, D, D, D, D, D, D, D, D, D, D, D, D, D, D, D, D, D, D, D, D, D, D, D, D, D, D, D, D, D, D, D, D, D, D, D, D, D, D, D, D, D, D, D, D], rows := [(0, ⟨.int .i64, l_0⟩), (1, ⟨.sl (.int .i64), l_8⟩)], boxes := [(0, [.row 0, .int .i64 l_1, .int .i64 l_2, .int .i64 l_3, .int .i64 l_4, .int .i64 l_5, .int .i64 l_6, .int .i64 l_7, .row 1])] }
noncomputable def spec_seLook_look.tL8 : List It := (findL 8 spec_seLook_look.body []).getD []
noncomputable def spec_seLook_look.QL8 (dep : Nat) (at0 number : Int) (l_0 : LI) (l_8 : LLI) (l_1 l_2 l_3 l_4 l_5 l_6 l_7 : Int) : Option R := eval (spec_seLook_look.cx (spec_seLook_look.X dep)) spec_seLook_look.fl spec_seLook_look.tL8 (spec_seLook_look.sL8 at0 number l_0 l_8 l_1 l_2 l_3 l_4 l_5 l_6 l_7)
noncomputable def spec_seLook_look.XL8 (dep : Nat) (at0 number : Int) (l_0 : LI) (l_8 : LLI) (l_1 l_2 l_3 l_4 l_5 l_6 l_7 : Int) : Option (LI × LLI × Int × Int × Int × Int × Int × Int × Int) := dec spec_seLook_look.ret (spec_seLook_look.QL8 dep at0 number l_0 l_8 l_1 l_2 l_3 l_4 l_5 l_6 l_7)
def spec_seLook_look.sJ9 (at0 number : Int) (l_0 : LI) (l_8 : LLI) (l_1 l_2 l_3 l_4 l_5 l_6 l_7 : Int) : St := { slots := [.ptr 0 0, D, .int .i64 at0, .int .i64 number, D, D, D, D, D, D, D, D, D, D, D, D, D, D, D, D, D, D, D, D, D, D, D, D, D, D, D, D, D, D, D, D, D, D, D, D, D, D, D, D, D, D, D, D, D, D, D, D, D, D, D, D, D, D, D, D, D, D, D, D, D, D, D, D, D, D, D, D, D, D, D, D, D, D, D, D, D, D, D, D, D, D, D, D, D, D, D, D, D, D, D, D, D, D, D, D, D, D, D, D, D, D, D, D, D, D, D, D, D, D, D, D, D, D, D, D, D, D, D, D, D, D, D, D, D, D, D, D, D, D, D, D, D, D, D, D, D, D, D, D, D, D, D, D, D, D, D, D, D, D, D, D, D, D, D, D, D, D, D, D, D, D, D, D, D, D, D], rows := [(0, ⟨.int .i64, l_0⟩), (1, ⟨.sl (.int .i64), l_8⟩)], boxes := [(0, [.row 0, .int .i64 l_1, .int .i64 l_2, .int .i64 l_3, .int .i64 l_4, .int .i64 l_5, .int .i64 l_6, .int .i64 l_7, .row 1])] }
noncomputable def spec_seLook_look.tJ9 : List It := (findJ 9 spec_seLook_look.body []).getD []
noncomputable def spec_seLook_look.QJ9 (dep : Nat) (at0 number : Int) (l_0 : LI) (l_8 : LLI) (l_1 l_2 l_3 l_4 l_5 l_6 l_7 : Int) : Option R := eval (spec_seLook_look.cx (spec_seLook_look.X dep)) spec_seLook_look.fl spec_seLook_look.tJ9 (spec_seLook_look.sJ9 at0 number l_0 l_8 l_1 l_2 l_3 l_4 l_5 l_6 l_7)
noncomputable def spec_seLook_look.XJ9 (dep : Nat) (at0 number : Int) (l_0 : LI) (l_8 : LLI) (l_1 l_2 l_3 l_4 l_5 l_6 l_7 : Int) : Option (LI × LLI × Int × Int × Int × Int × Int × Int × Int) := dec spec_seLook_look.ret (spec_seLook_look.QJ9 dep at0 number l_0 l_8 l_1 l_2 l_3 l_4 l_5 l_6 l_7)
def spec_seLook_look.sJ9a (at0 number : Int) (l_0 : LI) (l_8 : LLI) (l_1 l_2 l_3 l_4 l_5 l_6 l_7 : Int) : St := { slots := [.ptr 0 0, D, .int .i64 at0, .int .i64 number, D, D, D, D, D, D, D, D, D, D, D, D, D, D, D, D, D, D, D, D, D, D, D, D, D, D, D, D, D, D, D, D, D, D, D, D, D, D, D, D, D, D, D, D, D, D, D, D, D, D, D, D, D, D, D, D, D, D, D, D, D, D, D, D, D, D, D, D, D, D, D, D, D, D, D, D, D, D, D, D, D, D, D, D, D, D, D, D, D, D, D, D, D, D, D, D, D, D, D, D, D, D, D, D, D, D, D, D, D, D, D, D, D, D, D, D, D, D, D, D, D, D, D, D, D, D, D, D, D, D, D, D, D, D, D, D, D, D, D, D, D, D, D, D, D, D, D, D, D, D, D, D, D, D, D, D, D, D, D, D, D, D, D, D, D, D, D], rows := [(5000000, ⟨.int .i64, l_0⟩), (5000001, ⟨.sl (.int .i64), l_8⟩)], boxes := [(0, [.row 5000000, .int .i64 l_1, .int .i64 l_2, .int .i64 l_3, .int .i64 l_4, .int .i64 l_5, .int .i64 l_6, .int .i64 l_7, .row 5000001])] }
noncomputable def spec_seLook_look.QJ9a (dep : Nat) (at0 number : Int) (l_0 : LI) (l_8 : LLI) (l_1 l_2 l_3 l_4 l_5 l_6 l_7 : Int) : Option R := eval (spec_seLook_look.cx (spec_seLook_look.X dep)) spec_seLook_look.fl spec_seLook_look.tJ9 (spec_seLook_look.sJ9a at0 number l_0 l_8 l_1 l_2 l_3 l_4 l_5 l_6 l_7)
noncomputable def spec_seLook_look.XJ9a (dep : Nat) (at0 number : Int) (l_0 : LI) (l_8 : LLI) (l_1 l_2 l_3 l_4 l_5 l_6 l_7 : Int) : Option (LI × LLI × Int × Int × Int × Int × Int × Int × Int) := dec spec_seLook_look.ret (spec_seLook_look.QJ9a dep at0 number l_0 l_8 l_1 l_2 l_3 l_4 l_5 l_6 l_7)
def spec_seLook_look.sL8a (at0 number : Int) (l_0 : LI) (l_8 : LLI) (l_1 l_2 l_3 l_4 l_5 l_6 l_7 : Int) : St := { slots := [.ptr 0 0, D, .int .i64 at0, .int .i64 number, D, D, D, D, D, D, D, D, D, D, D, D, D, D, D, D, D, D, D, D, D, D, D, D, D, D, D, D, D, D, D, D, D, D, D, D, D, D, D, D, D, D, D, D, D, D, D, D, D, D, D, D, D, D, D, D, D, D, D, D, D, D, D, D, D, D, D, D, D, D, D, D, D, D, D, D, D, D, D, D, D, D, D, D, D, D, D, D, D, D, D, D, D, D, D, D, D, D, D, D, D, D, D, D, D, D, D, D, D, D, D, D, D, D, D, D, D, D, D, D, D, D, D, D, D, D, D, D, D, D, D, D, D, D, D, D, D, D, D, D, D, D, D, D, D, D, D, D, D, D, D, D, D, D, D, D, D, D, D, D, D, D, D, D, D, D, D], rows := [(5000000, ⟨.int .i64, l_0⟩), (5000001, ⟨.sl (.int .i64), l_8⟩)], boxes := [(0, [.row 5000000, .int .i64 l_1, .int .i64 l_2, .int .i64 l_3, .int .i64 l_4, .int .i64 l_5, .int .i64 l_6, .int .i64 l_7, .row 5000001])] }
noncomputable def spec_seLook_look.QL8a (dep : Nat) (at0 number : Int) (l_0 : LI) (l_8 : LLI) (l_1 l_2 l_3 l_4 l_5 l_6 l_7 : Int) : Option R := eval (spec_seLook_look.cx (spec_seLook_look.X dep)) spec_seLook_look.fl spec_seLook_look.tL8 (spec_seLook_look.sL8a at0 number l_0 l_8 l_1 l_2 l_3 l_4 l_5 l_6 l_7)
noncomputable def spec_seLook_look.XL8a (dep : Nat) (at0 number : Int) (l_0 : LI) (l_8 : LLI) (l_1 l_2 l_3 l_4 l_5 l_6 l_7 : Int) : Option (LI × LLI × Int × Int × Int × Int × Int × Int × Int) := dec spec_seLook_look.ret (spec_seLook_look.QL8a dep at0 number l_0 l_8 l_1 l_2 l_3 l_4 l_5 l_6 l_7)
theorem spec_seLook_look.okd : ∀ dep, EntOk Go.Proofs.Try.prog 100 (spec_seLook_look.Ed (spec_seLook_look.X dep))
  | 0 => mkE_ok (fun w args => Go.Proofs.Try.call100 args w) spec_seLook_look.hp spec_seLook_look.hap fun a b h => by cases h
  | dep + 1 => mkE_ok (fun w args => Go.Proofs.Try.call100 args w) spec_seLook_look.hp spec_seLook_look.hap fun a b h => vc_of_X (cx := (spec_seLook_look.cx (spec_seLook_look.X dep))) (fl := spec_seLook_look.fl) mixed (tyB_ok (cx := (spec_seLook_look.cx (spec_seLook_look.X dep))) tyOk) (show FnsL _ _ from (fns_cons spec_l1Own.ok (fns_cons (spec_seLook_look.okd dep) fns_nil))) Go.Proofs.Try.func100 (code := spec_seLook_look.body) (by kernel_rfl) (n := 171) (by kernel_rfl) (by kernel_rfl) (by decide) (by decide) rfl rfl h
noncomputable def spec_seLook_look.E : Entry := spec_seLook_look.Ed spec_seLook_look.XX
theorem spec_seLook_look.ok : EntOk Go.Proofs.Try.prog 100 spec_seLook_look.E := spec_seLook_look.okd _
theorem spec_seLook_look.lin (dep : Nat) : (spec_seLook_look.cx (spec_seLook_look.X dep)).Lin := Lin.of_fns (P := Go.Proofs.Try.prog) (show FnsL _ _ from (fns_cons spec_l1Own.ok (fns_cons (spec_seLook_look.okd dep) fns_nil)))
def spec_seLook_look.T {α : Type} (pr : Pr) (rt : (LI × LLI × Int × Int × Int × Int × Int × Int × Int) → Option α) (kL1 : Int → LI → LLI → Int → Int → Int → Int → Int → Int → Int → Option α) (l_0 : LI) (l_8 : LLI) (l_1 l_2 l_3 l_4 l_5 l_6 l_7 : Int) : Option α :=
  kL1 0 l_0 l_8 l_1 l_2 l_3 l_4 l_5 l_6 l_7
theorem spec_seLook_look.Q_eq (dep : Nat) (l_0 : LI) (l_8 : LLI) (l_1 l_2 l_3 l_4 l_5 l_6 l_7 : Int) : spec_seLook_look.Q dep (l_0, l_8, l_1, l_2, l_3, l_4, l_5, l_6, l_7) = spec_seLook_look.T Pr.std (fun b => some (spec_seLook_look.ret b)) (spec_seLook_look.QL1 dep) l_0 l_8 l_1 l_2 l_3 l_4 l_5 l_6 l_7 := (eval_seg (spec_seLook_look.lin dep) 1000000 _ _).trans (by kernel_rfl)
theorem spec_seLook_look.X_eq (dep : Nat) (l_0 : LI) (l_8 : LLI) (l_1 l_2 l_3 l_4 l_5 l_6 l_7 : Int) : spec_seLook_look.X (dep + 1) (l_0, l_8, l_1, l_2, l_3, l_4, l_5, l_6, l_7) = spec_seLook_look.T Pr.std some (spec_seLook_look.XL1 dep) l_0 l_8 l_1 l_2 l_3 l_4 l_5 l_6 l_7 := by
  show dec spec_seLook_look.ret (spec_seLook_look.Q dep (l_0, l_8, l_1, l_2, l_3, l_4, l_5, l_6, l_7)) = _
  rw [spec_seLook_look.Q_eq]
  simp only [spec_seLook_look.T, std_fi, std_fb, std_fl, std_fll, std_flll, std_flb, std_fh, dec_ite, dec_cond, dec_bind, dec_elim, dec_none, spec_seLook_look.dc]
  try rfl
theorem spec_seLook_look.T_mono {α : Type} {rt : (LI × LLI × Int × Int × Int × Int × Int × Int × Int) → Option α} {kL1 kL1_ : Int → LI → LLI → Int → Int → Int → Int → Int → Int → Int → Option α} (hkL1 : ∀ x0 x1 x2 x3 x4 x5 x6 x7 x8 x9, Le (kL1 x0 x1 x2 x3 x4 x5 x6 x7 x8 x9) (kL1_ x0 x1 x2 x3 x4 x5 x6 x7 x8 x9)) {l_0 : LI} {l_8 : LLI} {l_1 l_2 l_3 l_4 l_5 l_6 l_7 : Int} : Le (spec_seLook_look.T Pr.std rt kL1 l_0 l_8 l_1 l_2 l_3 l_4 l_5 l_6 l_7) (spec_seLook_look.T Pr.std rt kL1_ l_0 l_8 l_1 l_2 l_3 l_4 l_5 l_6 l_7) := by
  unfold spec_seLook_look.T
  exact (hkL1 _ _ _ _ _ _ _ _ _ _)
def spec_seLook_look.TL1 {α : Type} (pr : Pr) (rt : (LI × LLI × Int × Int × Int × Int × Int × Int × Int) → Option α) (kL1 : Int → LI → LLI → Int → Int → Int → Int → Int → Int → Int → Option α) (kL8 : Int → Int → LI → LLI → Int → Int → Int → Int → Int → Int → Int → Option α) (call_0 : LI → Option LI) (at0 : Int) (l_0 : LI) (l_8 : LLI) (l_1 l_2 l_3 l_4 l_5 l_6 l_7 : Int) : Option α :=
  if (pr.lt at0 ((l_0.length : Nat) : Int)) then
    if (pr.inR at0 l_0.length) then
      if (pr.nlt ((at0).toNat) l_0.length) then
        if (!(pr.ne (pr.gd l_0 ((at0).toNat) 0) 0)) then
          bif (pr.eq at0 l_4) then
            pr.fi (pr.wr .i64 (at0 + 1)) fun y0 => kL1 y0 l_0 l_8 l_1 l_2 l_3 l_4 l_5 l_6 l_7
          else
            bif (pr.eq at0 ((l_0.length : Nat) : Int)) then
              bif (pr.lt ((l_8.length : Nat) : Int) l_6) then
                (call_0 l_0).bind fun rr1 =>
                  if l_8.length + 1 < 8796093022208 then
                    pr.fll (l_8 ++ [rr1]) fun y1 => pr.fi (pr.wr .i64 (l_7 + 1)) fun y8 => rt (l_0, y1, l_1, l_2, l_3, l_4, l_5, l_6, y8)
                  else
                    none
              else
                pr.fi (pr.wr .i64 (l_7 + 1)) fun y8 => rt (l_0, l_8, l_1, l_2, l_3, l_4, l_5, l_6, y8)
            else
              kL8 at0 l_1 l_0 l_8 l_1 l_2 l_3 l_4 l_5 l_6 l_7
        else
          pr.fi (pr.wr .i64 (at0 + 1)) fun y0 => kL1 y0 l_0 l_8 l_1 l_2 l_3 l_4 l_5 l_6 l_7
      else
        none
    else
      none
  else
    bif (pr.eq at0 ((l_0.length : Nat) : Int)) then
      bif (pr.lt ((l_8.length : Nat) : Int) l_6) then
        (call_0 l_0).bind fun rr2 =>
          if l_8.length + 1 < 8796093022208 then
            pr.fll (l_8 ++ [rr2]) fun y1 => pr.fi (pr.wr .i64 (l_7 + 1)) fun y8 => rt (l_0, y1, l_1, l_2, l_3, l_4, l_5, l_6, y8)
          else
            none
      else
        pr.fi (pr.wr .i64 (l_7 + 1)) fun y8 => rt (l_0, l_8, l_1, l_2, l_3, l_4, l_5, l_6, y8)
    else
      kL8 at0 l_1 l_0 l_8 l_1 l_2 l_3 l_4 l_5 l_6 l_7
theorem spec_seLook_look.QL1_eq (dep : Nat) (at0 : Int) (l_0 : LI) (l_8 : LLI) (l_1 l_2 l_3 l_4 l_5 l_6 l_7 : Int) : spec_seLook_look.QL1 dep at0 l_0 l_8 l_1 l_2 l_3 l_4 l_5 l_6 l_7 = spec_seLook_look.TL1 Pr.std (fun b => some (spec_seLook_look.ret b)) (spec_seLook_look.QL1 dep) (spec_seLook_look.QL8 dep) spec_l1Own.X at0 l_0 l_8 l_1 l_2 l_3 l_4 l_5 l_6 l_7 := (eval_seg (spec_seLook_look.lin dep) 1000000 _ _).trans (by kernel_rfl)
theorem spec_seLook_look.XL1_eq (dep : Nat) (at0 : Int) (l_0 : LI) (l_8 : LLI) (l_1 l_2 l_3 l_4 l_5 l_6 l_7 : Int) : spec_seLook_look.XL1 dep at0 l_0 l_8 l_1 l_2 l_3 l_4 l_5 l_6 l_7 = spec_seLook_look.TL1 Pr.std some (spec_seLook_look.XL1 dep) (spec_seLook_look.XL8 dep) spec_l1Own.X at0 l_0 l_8 l_1 l_2 l_3 l_4 l_5 l_6 l_7 := by
  show dec spec_seLook_look.ret (spec_seLook_look.QL1 dep at0 l_0 l_8 l_1 l_2 l_3 l_4 l_5 l_6 l_7) = _
  rw [spec_seLook_look.QL1_eq]
  simp only [spec_seLook_look.TL1, std_fi, std_fb, std_fl, std_fll, std_flll, std_flb, std_fh, dec_ite, dec_cond, dec_bind, dec_elim, dec_none, spec_seLook_look.dc]
  try rfl
theorem spec_seLook_look.TL1_mono {α : Type} {rt : (LI × LLI × Int × Int × Int × Int × Int × Int × Int) → Option α} {kL1 kL1_ : Int → LI → LLI → Int → Int → Int → Int → Int → Int → Int → Option α} (hkL1 : ∀ x0 x1 x2 x3 x4 x5 x6 x7 x8 x9, Le (kL1 x0 x1 x2 x3 x4 x5 x6 x7 x8 x9) (kL1_ x0 x1 x2 x3 x4 x5 x6 x7 x8 x9)) {kL8 kL8_ : Int → Int → LI → LLI → Int → Int → Int → Int → Int → Int → Int → Option α} (hkL8 : ∀ x0 x1 x2 x3 x4 x5 x6 x7 x8 x9 x10, Le (kL8 x0 x1 x2 x3 x4 x5 x6 x7 x8 x9 x10) (kL8_ x0 x1 x2 x3 x4 x5 x6 x7 x8 x9 x10)) {call_0 call_0_ : LI → Option LI} (hcall_0 : ∀ x, Le (call_0 x) (call_0_ x)) {at0 : Int} {l_0 : LI} {l_8 : LLI} {l_1 l_2 l_3 l_4 l_5 l_6 l_7 : Int} : Le (spec_seLook_look.TL1 Pr.std rt kL1 kL8 call_0 at0 l_0 l_8 l_1 l_2 l_3 l_4 l_5 l_6 l_7) (spec_seLook_look.TL1 Pr.std rt kL1_ kL8_ call_0_ at0 l_0 l_8 l_1 l_2 l_3 l_4 l_5 l_6 l_7) := by
  unfold spec_seLook_look.TL1
  exact (Le.ite (Le.ite (Le.ite (Le.ite (Le.cond (Le.fi fun _ => (hkL1 _ _ _ _ _ _ _ _ _ _)) (Le.cond (Le.cond (Le.bind (hcall_0 _) (fun rr1 => (Le.ite Le.rfl' Le.rfl'))) Le.rfl') (hkL8 _ _ _ _ _ _ _ _ _ _ _))) (Le.fi fun _ => (hkL1 _ _ _ _ _ _ _ _ _ _))) Le.rfl') Le.rfl') (Le.cond (Le.cond (Le.bind (hcall_0 _) (fun rr2 => (Le.ite Le.rfl' Le.rfl'))) Le.rfl') (hkL8 _ _ _ _ _ _ _ _ _ _ _)))
def spec_seLook_look.TL8 {α : Type} (pr : Pr) (rt : (LI × LLI × Int × Int × Int × Int × Int × Int × Int) → Option α) (kJ9 : Int → Int → LI → LLI → Int → Int → Int → Int → Int → Int → Int → Option α) (kJ9a : Int → Int → LI → LLI → Int → Int → Int → Int → Int → Int → Int → Option α) (self : (LI × LLI × Int × Int × Int × Int × Int × Int × Int) → Option (LI × LLI × Int × Int × Int × Int × Int × Int × Int)) (at0 number : Int) (l_0 : LI) (l_8 : LLI) (l_1 l_2 l_3 l_4 l_5 l_6 l_7 : Int) : Option α :=
  bif (pr.le number l_2) then
    if (pr.le 0 number) then
      if (!(pr.eq (Int.tmod (pr.shr .i64 l_5 number) (2 : Int)) 1)) then
        if (!(pr.ge (pr.wr .i64 ((pr.wr .i64 (at0 + number)) + l_3)) ((l_0.length : Nat) : Int))) then
          if (!(pr.eq (pr.wr .i64 ((pr.wr .i64 (at0 + number)) + l_3)) l_4)) then
            if (pr.inR (pr.wr .i64 ((pr.wr .i64 (at0 + number)) + l_3)) l_0.length) then
              if (pr.nlt (((pr.wr .i64 ((pr.wr .i64 (at0 + number)) + l_3))).toNat) l_0.length) then
                bif (pr.ne (pr.gd l_0 (((pr.wr .i64 ((pr.wr .i64 (at0 + number)) + l_3))).toNat) 0) 0) then
                  kJ9 at0 number l_0 l_8 l_1 l_2 l_3 l_4 l_5 l_6 l_7
                else
                  if (pr.le 0 number) then
                    if (pr.inR at0 l_0.length) then
                      if ((pr.nlt ((at0).toNat) l_0.length) && true) then
                        if (pr.inR (pr.wr .i64 ((pr.wr .i64 (at0 + number)) + l_3)) ((pr.st l_0 ((at0).toNat) number).length)) then
                          if ((pr.nlt (((pr.wr .i64 ((pr.wr .i64 (at0 + number)) + l_3))).toNat) (pr.st l_0 ((at0).toNat) number).length) && true) then
                            pr.fl (pr.st (pr.st l_0 ((at0).toNat) number) (((pr.wr .i64 ((pr.wr .i64 (at0 + number)) + l_3))).toNat) number) fun y0 => pr.fi (pr.bor .i64 l_5 (pr.shl .i64 1 number)) fun y6 => (self (y0, l_8, l_1, l_2, l_3, l_4, y6, l_6, l_7)).bind fun rr1 =>
                              if (pr.inR at0 rr1.1.length) then
                                if ((pr.nlt ((at0).toNat) rr1.1.length) && true) then
                                  if (pr.inR (pr.wr .i64 ((pr.wr .i64 (at0 + number)) + l_3)) ((pr.st rr1.1 ((at0).toNat) (0 : Int)).length)) then
                                    if ((pr.nlt (((pr.wr .i64 ((pr.wr .i64 (at0 + number)) + l_3))).toNat) (pr.st rr1.1 ((at0).toNat) (0 : Int)).length) && true) then
                                      if (pr.le 0 number) then
                                        pr.fl (pr.st (pr.st rr1.1 ((at0).toNat) (0 : Int)) (((pr.wr .i64 ((pr.wr .i64 (at0 + number)) + l_3))).toNat) (0 : Int)) fun y2 => pr.fh rr1.2.1 fun y3 => pr.fi rr1.2.2.1 fun y4 => pr.fi rr1.2.2.2.1 fun y5 => pr.fi rr1.2.2.2.2.1 fun y6 => pr.fi rr1.2.2.2.2.2.1 fun y7 => pr.fi (pr.bandn .i64 rr1.2.2.2.2.2.2.1 (pr.shl .i64 1 number)) fun y8 => pr.fi rr1.2.2.2.2.2.2.2.1 fun y9 => pr.fi rr1.2.2.2.2.2.2.2.2 fun y10 => kJ9a at0 number y2 y3 y4 y5 y6 y7 y8 y9 y10
                                      else
                                        none
                                    else
                                      none
                                  else
                                    none
                                else
                                  none
                              else
                                none
                          else
                            none
                        else
                          none
                      else
                        none
                    else
                      none
                  else
                    none
              else
                none
            else
              none
          else
            kJ9 at0 number l_0 l_8 l_1 l_2 l_3 l_4 l_5 l_6 l_7
        else
          kJ9 at0 number l_0 l_8 l_1 l_2 l_3 l_4 l_5 l_6 l_7
      else
        kJ9 at0 number l_0 l_8 l_1 l_2 l_3 l_4 l_5 l_6 l_7
    else
      none
  else
    rt (l_0, l_8, l_1, l_2, l_3, l_4, l_5, l_6, l_7)
theorem spec_seLook_look.QL8_eq (dep : Nat) (at0 number : Int) (l_0 : LI) (l_8 : LLI) (l_1 l_2 l_3 l_4 l_5 l_6 l_7 : Int) : spec_seLook_look.QL8 dep at0 number l_0 l_8 l_1 l_2 l_3 l_4 l_5 l_6 l_7 = spec_seLook_look.TL8 Pr.std (fun b => some (spec_seLook_look.ret b)) (spec_seLook_look.QJ9 dep) (spec_seLook_look.QJ9a dep) (spec_seLook_look.X dep) at0 number l_0 l_8 l_1 l_2 l_3 l_4 l_5 l_6 l_7 := (eval_seg (spec_seLook_look.lin dep) 1000000 _ _).trans (by kernel_rfl)
theorem spec_seLook_look.XL8_eq (dep : Nat) (at0 number : Int) (l_0 : LI) (l_8 : LLI) (l_1 l_2 l_3 l_4 l_5 l_6 l_7 : Int) : spec_seLook_look.XL8 dep at0 number l_0 l_8 l_1 l_2 l_3 l_4 l_5 l_6 l_7 = spec_seLook_look.TL8 Pr.std some (spec_seLook_look.XJ9 dep) (spec_seLook_look.XJ9a dep) (spec_seLook_look.X dep) at0 number l_0 l_8 l_1 l_2 l_3 l_4 l_5 l_6 l_7 := by
  show dec spec_seLook_look.ret (spec_seLook_look.QL8 dep at0 number l_0 l_8 l_1 l_2 l_3 l_4 l_5 l_6 l_7) = _
  rw [spec_seLook_look.QL8_eq]
  simp only [spec_seLook_look.TL8, std_fi, std_fb, std_fl, std_fll, std_flll, std_flb, std_fh, dec_ite, dec_cond, dec_bind, dec_elim, dec_none, spec_seLook_look.dc]
  try rfl
theorem spec_seLook_look.TL8_mono {α : Type} {rt : (LI × LLI × Int × Int × Int × Int × Int × Int × Int) → Option α} {kJ9 kJ9_ : Int → Int → LI → LLI → Int → Int → Int → Int → Int → Int → Int → Option α} (hkJ9 : ∀ x0 x1 x2 x3 x4 x5 x6 x7 x8 x9 x10, Le (kJ9 x0 x1 x2 x3 x4 x5 x6 x7 x8 x9 x10) (kJ9_ x0 x1 x2 x3 x4 x5 x6 x7 x8 x9 x10)) {kJ9a kJ9a_ : Int → Int → LI → LLI → Int → Int → Int → Int → Int → Int → Int → Option α} (hkJ9a : ∀ x0 x1 x2 x3 x4 x5 x6 x7 x8 x9 x10, Le (kJ9a x0 x1 x2 x3 x4 x5 x6 x7 x8 x9 x10) (kJ9a_ x0 x1 x2 x3 x4 x5 x6 x7 x8 x9 x10)) {self self_ : (LI × LLI × Int × Int × Int × Int × Int × Int × Int) → Option (LI × LLI × Int × Int × Int × Int × Int × Int × Int)} (hself : ∀ x, Le (self x) (self_ x)) {at0 number : Int} {l_0 : LI} {l_8 : LLI} {l_1 l_2 l_3 l_4 l_5 l_6 l_7 : Int} : Le (spec_seLook_look.TL8 Pr.std rt kJ9 kJ9a self at0 number l_0 l_8 l_1 l_2 l_3 l_4 l_5 l_6 l_7) (spec_seLook_look.TL8 Pr.std rt kJ9_ kJ9a_ self_ at0 number l_0 l_8 l_1 l_2 l_3 l_4 l_5 l_6 l_7) := by
  unfold spec_seLook_look.TL8
  exact (Le.cond (Le.ite (Le.ite (Le.ite (Le.ite (Le.ite (Le.ite (Le.cond (hkJ9 _ _ _ _ _ _ _ _ _ _ _) (Le.ite (Le.ite (Le.ite (Le.ite (Le.ite (Le.fl fun _ => (Le.fi fun _ => (Le.bind (hself _) (fun rr1 => (Le.ite (Le.ite (Le.ite (Le.ite (Le.ite (Le.fl fun _ => (Le.fh fun _ => (Le.fi fun _ => (Le.fi fun _ => (Le.fi fun _ => (Le.fi fun _ => (Le.fi fun _ => (Le.fi fun _ => (Le.fi fun _ => (hkJ9a _ _ _ _ _ _ _ _ _ _ _)))))))))) Le.rfl') Le.rfl') Le.rfl') Le.rfl') Le.rfl'))))) Le.rfl') Le.rfl') Le.rfl') Le.rfl') Le.rfl')) Le.rfl') Le.rfl') (hkJ9 _ _ _ _ _ _ _ _ _ _ _)) (hkJ9 _ _ _ _ _ _ _ _ _ _ _)) (hkJ9 _ _ _ _ _ _ _ _ _ _ _)) Le.rfl') Le.rfl')
def spec_seLook_look.TJ9 {α : Type} (pr : Pr) (rt : (LI × LLI × Int × Int × Int × Int × Int × Int × Int) → Option α) (kL8 : Int → Int → LI → LLI → Int → Int → Int → Int → Int → Int → Int → Option α) (at0 number : Int) (l_0 : LI) (l_8 : LLI) (l_1 l_2 l_3 l_4 l_5 l_6 l_7 : Int) : Option α :=
  pr.fi (pr.wr .i64 (number + 1)) fun y1 => kL8 at0 y1 l_0 l_8 l_1 l_2 l_3 l_4 l_5 l_6 l_7
theorem spec_seLook_look.QJ9_eq (dep : Nat) (at0 number : Int) (l_0 : LI) (l_8 : LLI) (l_1 l_2 l_3 l_4 l_5 l_6 l_7 : Int) : spec_seLook_look.QJ9 dep at0 number l_0 l_8 l_1 l_2 l_3 l_4 l_5 l_6 l_7 = spec_seLook_look.TJ9 Pr.std (fun b => some (spec_seLook_look.ret b)) (spec_seLook_look.QL8 dep) at0 number l_0 l_8 l_1 l_2 l_3 l_4 l_5 l_6 l_7 := (eval_seg (spec_seLook_look.lin dep) 1000000 _ _).trans (by kernel_rfl)
theorem spec_seLook_look.XJ9_eq (dep : Nat) (at0 number : Int) (l_0 : LI) (l_8 : LLI) (l_1 l_2 l_3 l_4 l_5 l_6 l_7 : Int) : spec_seLook_look.XJ9 dep at0 number l_0 l_8 l_1 l_2 l_3 l_4 l_5 l_6 l_7 = spec_seLook_look.TJ9 Pr.std some (spec_seLook_look.XL8 dep) at0 number l_0 l_8 l_1 l_2 l_3 l_4 l_5 l_6 l_7 := by
  show dec spec_seLook_look.ret (spec_seLook_look.QJ9 dep at0 number l_0 l_8 l_1 l_2 l_3 l_4 l_5 l_6 l_7) = _
  rw [spec_seLook_look.QJ9_eq]
  simp only [spec_seLook_look.TJ9, std_fi, std_fb, std_fl, std_fll, std_flll, std_flb, std_fh, dec_ite, dec_cond, dec_bind, dec_elim, dec_none, spec_seLook_look.dc]
  try rfl
theorem spec_seLook_look.TJ9_mono {α : Type} {rt : (LI × LLI × Int × Int × Int × Int × Int × Int × Int) → Option α} {kL8 kL8_ : Int → Int → LI → LLI → Int → Int → Int → Int → Int → Int → Int → Option α} (hkL8 : ∀ x0 x1 x2 x3 x4 x5 x6 x7 x8 x9 x10, Le (kL8 x0 x1 x2 x3 x4 x5 x6 x7 x8 x9 x10) (kL8_ x0 x1 x2 x3 x4 x5 x6 x7 x8 x9 x10)) {at0 number : Int} {l_0 : LI} {l_8 : LLI} {l_1 l_2 l_3 l_4 l_5 l_6 l_7 : Int} : Le (spec_seLook_look.TJ9 Pr.std rt kL8 at0 number l_0 l_8 l_1 l_2 l_3 l_4 l_5 l_6 l_7) (spec_seLook_look.TJ9 Pr.std rt kL8_ at0 number l_0 l_8 l_1 l_2 l_3 l_4 l_5 l_6 l_7) := by
  unfold spec_seLook_look.TJ9
  exact (Le.fi fun _ => (hkL8 _ _ _ _ _ _ _ _ _ _ _))
def spec_seLook_look.TJ9a {α : Type} (pr : Pr) (rt : (LI × LLI × Int × Int × Int × Int × Int × Int × Int) → Option α) (kL8a : Int → Int → LI → LLI → Int → Int → Int → Int → Int → Int → Int → Option α) (at0 number : Int) (l_0 : LI) (l_8 : LLI) (l_1 l_2 l_3 l_4 l_5 l_6 l_7 : Int) : Option α :=
  pr.fi (pr.wr .i64 (number + 1)) fun y1 => kL8a at0 y1 l_0 l_8 l_1 l_2 l_3 l_4 l_5 l_6 l_7
theorem spec_seLook_look.QJ9a_eq (dep : Nat) (at0 number : Int) (l_0 : LI) (l_8 : LLI) (l_1 l_2 l_3 l_4 l_5 l_6 l_7 : Int) : spec_seLook_look.QJ9a dep at0 number l_0 l_8 l_1 l_2 l_3 l_4 l_5 l_6 l_7 = spec_seLook_look.TJ9a Pr.std (fun b => some (spec_seLook_look.ret b)) (spec_seLook_look.QL8a dep) at0 number l_0 l_8 l_1 l_2 l_3 l_4 l_5 l_6 l_7 := (eval_seg (spec_seLook_look.lin dep) 1000000 _ _).trans (by kernel_rfl)
theorem spec_seLook_look.XJ9a_eq (dep : Nat) (at0 number : Int) (l_0 : LI) (l_8 : LLI) (l_1 l_2 l_3 l_4 l_5 l_6 l_7 : Int) : spec_seLook_look.XJ9a dep at0 number l_0 l_8 l_1 l_2 l_3 l_4 l_5 l_6 l_7 = spec_seLook_look.TJ9a Pr.std some (spec_seLook_look.XL8a dep) at0 number l_0 l_8 l_1 l_2 l_3 l_4 l_5 l_6 l_7 := by
  show dec spec_seLook_look.ret (spec_seLook_look.QJ9a dep at0 number l_0 l_8 l_1 l_2 l_3 l_4 l_5 l_6 l_7) = _
  rw [spec_seLook_look.QJ9a_eq]
  simp only [spec_seLook_look.TJ9a, std_fi, std_fb, std_fl, std_fll, std_flll, std_flb, std_fh, dec_ite, dec_cond, dec_bind, dec_elim, dec_none, spec_seLook_look.dc]
  try rfl
theorem spec_seLook_look.TJ9a_mono {α : Type} {rt : (LI × LLI × Int × Int × Int × Int × Int × Int × Int) → Option α} {kL8a kL8a_ : Int → Int → LI → LLI → Int → Int → Int → Int → Int → Int → Int → Option α} (hkL8a : ∀ x0 x1 x2 x3 x4 x5 x6 x7 x8 x9 x10, Le (kL8a x0 x1 x2 x3 x4 x5 x6 x7 x8 x9 x10) (kL8a_ x0 x1 x2 x3 x4 x5 x6 x7 x8 x9 x10)) {at0 number : Int} {l_0 : LI} {l_8 : LLI} {l_1 l_2 l_3 l_4 l_5 l_6 l_7 : Int} : Le (spec_seLook_look.TJ9a Pr.std rt kL8a at0 number l_0 l_8 l_1 l_2 l_3 l_4 l_5 l_6 l_7) (spec_seLook_look.TJ9a Pr.std rt kL8a_ at0 number l_0 l_8 l_1 l_2 l_3 l_4 l_5 l_6 l_7) := by
  unfold spec_seLook_look.TJ9a
  exact (Le.fi fun _ => (hkL8a _ _ _ _ _ _ _ _ _ _ _))
def spec_seLook_look.TL8a {α : Type} (pr : Pr) (rt : (LI × LLI × Int × Int × Int × Int × Int × Int × Int) → Option α) (kJ9a : Int → Int → LI → LLI → Int → Int → Int → Int → Int → Int → Int → Option α) (self : (LI × LLI × Int × Int × Int × Int × Int × Int × Int) → Option (LI × LLI × Int × Int × Int × Int × Int × Int × Int)) (at0 number : Int) (l_0 : LI) (l_8 : LLI) (l_1 l_2 l_3 l_4 l_5 l_6 l_7 : Int) : Option α :=
  bif (pr.le number l_2) then
    if (pr.le 0 number) then
      if (!(pr.eq (Int.tmod (pr.shr .i64 l_5 number) (2 : Int)) 1)) then
        if (!(pr.ge (pr.wr .i64 ((pr.wr .i64 (at0 + number)) + l_3)) ((l_0.length : Nat) : Int))) then
          if (!(pr.eq (pr.wr .i64 ((pr.wr .i64 (at0 + number)) + l_3)) l_4)) then
            if (pr.inR (pr.wr .i64 ((pr.wr .i64 (at0 + number)) + l_3)) l_0.length) then
              if (pr.nlt (((pr.wr .i64 ((pr.wr .i64 (at0 + number)) + l_3))).toNat) l_0.length) then
                bif (pr.ne (pr.gd l_0 (((pr.wr .i64 ((pr.wr .i64 (at0 + number)) + l_3))).toNat) 0) 0) then
                  kJ9a at0 number l_0 l_8 l_1 l_2 l_3 l_4 l_5 l_6 l_7
                else
                  if (pr.le 0 number) then
                    if (pr.inR at0 l_0.length) then
                      if ((pr.nlt ((at0).toNat) l_0.length) && true) then
                        if (pr.inR (pr.wr .i64 ((pr.wr .i64 (at0 + number)) + l_3)) ((pr.st l_0 ((at0).toNat) number).length)) then
                          if ((pr.nlt (((pr.wr .i64 ((pr.wr .i64 (at0 + number)) + l_3))).toNat) (pr.st l_0 ((at0).toNat) number).length) && true) then
                            pr.fl (pr.st (pr.st l_0 ((at0).toNat) number) (((pr.wr .i64 ((pr.wr .i64 (at0 + number)) + l_3))).toNat) number) fun y0 => pr.fi (pr.bor .i64 l_5 (pr.shl .i64 1 number)) fun y6 => (self (y0, l_8, l_1, l_2, l_3, l_4, y6, l_6, l_7)).bind fun rr1 =>
                              if (pr.inR at0 rr1.1.length) then
                                if ((pr.nlt ((at0).toNat) rr1.1.length) && true) then
                                  if (pr.inR (pr.wr .i64 ((pr.wr .i64 (at0 + number)) + l_3)) ((pr.st rr1.1 ((at0).toNat) (0 : Int)).length)) then
                                    if ((pr.nlt (((pr.wr .i64 ((pr.wr .i64 (at0 + number)) + l_3))).toNat) (pr.st rr1.1 ((at0).toNat) (0 : Int)).length) && true) then
                                      if (pr.le 0 number) then
                                        pr.fl (pr.st (pr.st rr1.1 ((at0).toNat) (0 : Int)) (((pr.wr .i64 ((pr.wr .i64 (at0 + number)) + l_3))).toNat) (0 : Int)) fun y2 => pr.fh rr1.2.1 fun y3 => pr.fi rr1.2.2.1 fun y4 => pr.fi rr1.2.2.2.1 fun y5 => pr.fi rr1.2.2.2.2.1 fun y6 => pr.fi rr1.2.2.2.2.2.1 fun y7 => pr.fi (pr.bandn .i64 rr1.2.2.2.2.2.2.1 (pr.shl .i64 1 number)) fun y8 => pr.fi rr1.2.2.2.2.2.2.2.1 fun y9 => pr.fi rr1.2.2.2.2.2.2.2.2 fun y10 => kJ9a at0 number y2 y3 y4 y5 y6 y7 y8 y9 y10
                                      else
                                        none
                                    else
                                      none
                                  else
                                    none
                                else
                                  none
                              else
                                none
                          else
                            none
                        else
                          none
                      else
                        none
                    else
                      none
                  else
                    none
              else
                none
            else
              none
          else
            kJ9a at0 number l_0 l_8 l_1 l_2 l_3 l_4 l_5 l_6 l_7
        else
          kJ9a at0 number l_0 l_8 l_1 l_2 l_3 l_4 l_5 l_6 l_7
      else
        kJ9a at0 number l_0 l_8 l_1 l_2 l_3 l_4 l_5 l_6 l_7
    else
      none
  else
    rt (l_0, l_8, l_1, l_2, l_3, l_4, l_5, l_6, l_7)
theorem spec_seLook_look.QL8a_eq (dep : Nat) (at0 number : Int) (l_0 : LI) (l_8 : LLI) (l_1 l_2 l_3 l_4 l_5 l_6 l_7 : Int) : spec_seLook_look.QL8a dep at0 number l_0 l_8 l_1 l_2 l_3 l_4 l_5 l_6 l_7 = spec_seLook_look.TL8a Pr.std (fun b => some (spec_seLook_look.ret b)) (spec_seLook_look.QJ9a dep) (spec_seLook_look.X dep) at0 number l_0 l_8 l_1 l_2 l_3 l_4 l_5 l_6 l_7 := (eval_seg (spec_seLook_look.lin dep) 1000000 _ _).trans (by kernel_rfl)
theorem spec_seLook_look.XL8a_eq (dep : Nat) (at0 number : Int) (l_0 : LI) (l_8 : LLI) (l_1 l_2 l_3 l_4 l_5 l_6 l_7 : Int) : spec_seLook_look.XL8a dep at0 number l_0 l_8 l_1 l_2 l_3 l_4 l_5 l_6 l_7 = spec_seLook_look.TL8a Pr.std some (spec_seLook_look.XJ9a dep) (spec_seLook_look.X dep) at0 number l_0 l_8 l_1 l_2 l_3 l_4 l_5 l_6 l_7 := by
  show dec spec_seLook_look.ret (spec_seLook_look.QL8a dep at0 number l_0 l_8 l_1 l_2 l_3 l_4 l_5 l_6 l_7) = _
  rw [spec_seLook_look.QL8a_eq]
  simp only [spec_seLook_look.TL8a, std_fi, std_fb, std_fl, std_fll, std_flll, std_flb, std_fh, dec_ite, dec_cond, dec_bind, dec_elim, dec_none, spec_seLook_look.dc]
  try rfl
theorem spec_seLook_look.TL8a_mono {α : Type} {rt : (LI × LLI × Int × Int × Int × Int × Int × Int × Int) → Option α} {kJ9a kJ9a_ : Int → Int → LI → LLI → Int → Int → Int → Int → Int → Int → Int → Option α} (hkJ9a : ∀ x0 x1 x2 x3 x4 x5 x6 x7 x8 x9 x10, Le (kJ9a x0 x1 x2 x3 x4 x5 x6 x7 x8 x9 x10) (kJ9a_ x0 x1 x2 x3 x4 x5 x6 x7 x8 x9 x10)) {self self_ : (LI × LLI × Int × Int × Int × Int × Int × Int × Int) → Option (LI × LLI × Int × Int × Int × Int × Int × Int × Int)} (hself : ∀ x, Le (self x) (self_ x)) {at0 number : Int} {l_0 : LI} {l_8 : LLI} {l_1 l_2 l_3 l_4 l_5 l_6 l_7 : Int} : Le (spec_seLook_look.TL8a Pr.std rt kJ9a self at0 number l_0 l_8 l_1 l_2 l_3 l_4 l_5 l_6 l_7) (spec_seLook_look.TL8a Pr.std rt kJ9a_ self_ at0 number l_0 l_8 l_1 l_2 l_3 l_4 l_5 l_6 l_7) := by
  unfold spec_seLook_look.TL8a
  exact (Le.cond (Le.ite (Le.ite (Le.ite (Le.ite (Le.ite (Le.ite (Le.cond (hkJ9a _ _ _ _ _ _ _ _ _ _ _) (Le.ite (Le.ite (Le.ite (Le.ite (Le.ite (Le.fl fun _ => (Le.fi fun _ => (Le.bind (hself _) (fun rr1 => (Le.ite (Le.ite (Le.ite (Le.ite (Le.ite (Le.fl fun _ => (Le.fh fun _ => (Le.fi fun _ => (Le.fi fun _ => (Le.fi fun _ => (Le.fi fun _ => (Le.fi fun _ => (Le.fi fun _ => (Le.fi fun _ => (hkJ9a _ _ _ _ _ _ _ _ _ _ _)))))))))) Le.rfl') Le.rfl') Le.rfl') Le.rfl') Le.rfl'))))) Le.rfl') Le.rfl') Le.rfl') Le.rfl') Le.rfl')) Le.rfl') Le.rfl') (hkJ9a _ _ _ _ _ _ _ _ _ _ _)) (hkJ9a _ _ _ _ _ _ _ _ _ _ _)) (hkJ9a _ _ _ _ _ _ _ _ _ _ _)) Le.rfl') Le.rfl')
noncomputable def spec_seLook_look.Cs (fu : Nat) : (Int → LI → LLI → Int → Int → Int → Int → Int → Int → Int → Option (LI × LLI × Int × Int × Int × Int × Int × Int × Int)) × (Int → Int → LI → LLI → Int → Int → Int → Int → Int → Int → Int → Option (LI × LLI × Int × Int × Int × Int × Int × Int × Int)) × (Int → Int → LI → LLI → Int → Int → Int → Int → Int → Int → Int → Option (LI × LLI × Int × Int × Int × Int × Int × Int × Int)) × (Int → Int → LI → LLI → Int → Int → Int → Int → Int → Int → Int → Option (LI × LLI × Int × Int × Int × Int × Int × Int × Int)) × (Int → Int → LI → LLI → Int → Int → Int → Int → Int → Int → Int → Option (LI × LLI × Int × Int × Int × Int × Int × Int × Int)) × ((LI × LLI × Int × Int × Int × Int × Int × Int × Int) → Option (LI × LLI × Int × Int × Int × Int × Int × Int × Int)) := @Nat.rec (fun _ => (Int → LI → LLI → Int → Int → Int → Int → Int → Int → Int → Option (LI × LLI × Int × Int × Int × Int × Int × Int × Int)) × (Int → Int → LI → LLI → Int → Int → Int → Int → Int → Int → Int → Option (LI × LLI × Int × Int × Int × Int × Int × Int × Int)) × (Int → Int → LI → LLI → Int → Int → Int → Int → Int → Int → Int → Option (LI × LLI × Int × Int × Int × Int × Int × Int × Int)) × (Int → Int → LI → LLI → Int → Int → Int → Int → Int → Int → Int → Option (LI × LLI × Int × Int × Int × Int × Int × Int × Int)) × (Int → Int → LI → LLI → Int → Int → Int → Int → Int → Int → Int → Option (LI × LLI × Int × Int × Int × Int × Int × Int × Int)) × ((LI × LLI × Int × Int × Int × Int × Int × Int × Int) → Option (LI × LLI × Int × Int × Int × Int × Int × Int × Int))) ⟨fun _ _ _ _ _ _ _ _ _ _ => none, fun _ _ _ _ _ _ _ _ _ _ _ => none, fun _ _ _ _ _ _ _ _ _ _ _ => none, fun _ _ _ _ _ _ _ _ _ _ _ => none, fun _ _ _ _ _ _ _ _ _ _ _ => none, fun _ => none⟩ (fun fu pv => ⟨fun at0 l_0 l_8 l_1 l_2 l_3 l_4 l_5 l_6 l_7 => spec_seLook_look.TL1 Pr.quick some (pv.1) (pv.2.1) (spec_l1Own.C fu) at0 l_0 l_8 l_1 l_2 l_3 l_4 l_5 l_6 l_7, fun at0 number l_0 l_8 l_1 l_2 l_3 l_4 l_5 l_6 l_7 => spec_seLook_look.TL8 Pr.quick some (pv.2.2.1) (pv.2.2.2.1) (pv.2.2.2.2.2) at0 number l_0 l_8 l_1 l_2 l_3 l_4 l_5 l_6 l_7, fun at0 number l_0 l_8 l_1 l_2 l_3 l_4 l_5 l_6 l_7 => spec_seLook_look.TJ9 Pr.quick some (pv.2.1) at0 number l_0 l_8 l_1 l_2 l_3 l_4 l_5 l_6 l_7, fun at0 number l_0 l_8 l_1 l_2 l_3 l_4 l_5 l_6 l_7 => spec_seLook_look.TJ9a Pr.quick some (pv.2.2.2.2.1) at0 number l_0 l_8 l_1 l_2 l_3 l_4 l_5 l_6 l_7, fun at0 number l_0 l_8 l_1 l_2 l_3 l_4 l_5 l_6 l_7 => spec_seLook_look.TL8a Pr.quick some (pv.2.2.2.1) (pv.2.2.2.2.2) at0 number l_0 l_8 l_1 l_2 l_3 l_4 l_5 l_6 l_7, fun a => spec_seLook_look.T Pr.quick some (pv.1) a.1 a.2.1 a.2.2.1 a.2.2.2.1 a.2.2.2.2.1 a.2.2.2.2.2.1 a.2.2.2.2.2.2.1 a.2.2.2.2.2.2.2.1 a.2.2.2.2.2.2.2.2⟩) fu
noncomputable def spec_seLook_look.CL1 (fu : Nat) : Int → LI → LLI → Int → Int → Int → Int → Int → Int → Int → Option (LI × LLI × Int × Int × Int × Int × Int × Int × Int) := (spec_seLook_look.Cs fu).1
noncomputable def spec_seLook_look.CL8 (fu : Nat) : Int → Int → LI → LLI → Int → Int → Int → Int → Int → Int → Int → Option (LI × LLI × Int × Int × Int × Int × Int × Int × Int) := (spec_seLook_look.Cs fu).2.1
noncomputable def spec_seLook_look.CJ9 (fu : Nat) : Int → Int → LI → LLI → Int → Int → Int → Int → Int → Int → Int → Option (LI × LLI × Int × Int × Int × Int × Int × Int × Int) := (spec_seLook_look.Cs fu).2.2.1
noncomputable def spec_seLook_look.CJ9a (fu : Nat) : Int → Int → LI → LLI → Int → Int → Int → Int → Int → Int → Int → Option (LI × LLI × Int × Int × Int × Int × Int × Int × Int) := (spec_seLook_look.Cs fu).2.2.2.1
noncomputable def spec_seLook_look.CL8a (fu : Nat) : Int → Int → LI → LLI → Int → Int → Int → Int → Int → Int → Int → Option (LI × LLI × Int × Int × Int × Int × Int × Int × Int) := (spec_seLook_look.Cs fu).2.2.2.2.1
noncomputable def spec_seLook_look.C (fu : Nat) : (LI × LLI × Int × Int × Int × Int × Int × Int × Int) → Option (LI × LLI × Int × Int × Int × Int × Int × Int × Int) := (spec_seLook_look.Cs fu).2.2.2.2.2
theorem spec_seLook_look.C_okd : ∀ fu dep, fu ≤ dep → dep ≤ 100000 → (∀ a, Le (spec_seLook_look.C fu a) (spec_seLook_look.X dep a)) ∧ (∀ at0 l_0 l_8 l_1 l_2 l_3 l_4 l_5 l_6 l_7, Le (spec_seLook_look.CL1 fu at0 l_0 l_8 l_1 l_2 l_3 l_4 l_5 l_6 l_7) (spec_seLook_look.XL1 dep at0 l_0 l_8 l_1 l_2 l_3 l_4 l_5 l_6 l_7)) ∧ (∀ at0 number l_0 l_8 l_1 l_2 l_3 l_4 l_5 l_6 l_7, Le (spec_seLook_look.CL8 fu at0 number l_0 l_8 l_1 l_2 l_3 l_4 l_5 l_6 l_7) (spec_seLook_look.XL8 dep at0 number l_0 l_8 l_1 l_2 l_3 l_4 l_5 l_6 l_7)) ∧ (∀ at0 number l_0 l_8 l_1 l_2 l_3 l_4 l_5 l_6 l_7, Le (spec_seLook_look.CJ9 fu at0 number l_0 l_8 l_1 l_2 l_3 l_4 l_5 l_6 l_7) (spec_seLook_look.XJ9 dep at0 number l_0 l_8 l_1 l_2 l_3 l_4 l_5 l_6 l_7)) ∧ (∀ at0 number l_0 l_8 l_1 l_2 l_3 l_4 l_5 l_6 l_7, Le (spec_seLook_look.CJ9a fu at0 number l_0 l_8 l_1 l_2 l_3 l_4 l_5 l_6 l_7) (spec_seLook_look.XJ9a dep at0 number l_0 l_8 l_1 l_2 l_3 l_4 l_5 l_6 l_7)) ∧ (∀ at0 number l_0 l_8 l_1 l_2 l_3 l_4 l_5 l_6 l_7, Le (spec_seLook_look.CL8a fu at0 number l_0 l_8 l_1 l_2 l_3 l_4 l_5 l_6 l_7) (spec_seLook_look.XL8a dep at0 number l_0 l_8 l_1 l_2 l_3 l_4 l_5 l_6 l_7))
  | 0, dep, _, _ => by
    refine ⟨?_, ?_, ?_, ?_, ?_, ?_⟩
    all_goals (intros; exact Le.none)
  | fu + 1, dep, hd, hd2 => by
    obtain ⟨dep, rfl⟩ : ∃ e, dep = e + 1 := ⟨dep - 1, by omega⟩
    have ih := fun e (he : fu ≤ e) (he2 : e ≤ 100000) => spec_seLook_look.C_okd fu e he he2
    refine ⟨?_, ?_, ?_, ?_, ?_, ?_⟩
    · intro a
      obtain ⟨l_0, l_8, l_1, l_2, l_3, l_4, l_5, l_6, l_7⟩ := a
      show Le (spec_seLook_look.T Pr.quick some (spec_seLook_look.CL1 fu) l_0 l_8 l_1 l_2 l_3 l_4 l_5 l_6 l_7) _
      rw [Pr.quick_eq, spec_seLook_look.X_eq]
      exact spec_seLook_look.T_mono ((ih dep (by omega) (by omega)).2.1)
    · intro at0 l_0 l_8 l_1 l_2 l_3 l_4 l_5 l_6 l_7
      show Le (spec_seLook_look.TL1 Pr.quick some (spec_seLook_look.CL1 fu) (spec_seLook_look.CL8 fu) (spec_l1Own.C fu) at0 l_0 l_8 l_1 l_2 l_3 l_4 l_5 l_6 l_7) _
      rw [Pr.quick_eq, spec_seLook_look.XL1_eq]
      exact spec_seLook_look.TL1_mono ((ih (dep + 1) (by omega) (by omega)).2.1) ((ih (dep + 1) (by omega) (by omega)).2.2.1) (fun x => spec_l1Own.C_ok fu (by omega) x)
    · intro at0 number l_0 l_8 l_1 l_2 l_3 l_4 l_5 l_6 l_7
      show Le (spec_seLook_look.TL8 Pr.quick some (spec_seLook_look.CJ9 fu) (spec_seLook_look.CJ9a fu) (spec_seLook_look.C fu) at0 number l_0 l_8 l_1 l_2 l_3 l_4 l_5 l_6 l_7) _
      rw [Pr.quick_eq, spec_seLook_look.XL8_eq]
      exact spec_seLook_look.TL8_mono ((ih (dep + 1) (by omega) (by omega)).2.2.2.1) ((ih (dep + 1) (by omega) (by omega)).2.2.2.2.1) ((ih (dep + 1) (by omega) (by omega)).1)
    · intro at0 number l_0 l_8 l_1 l_2 l_3 l_4 l_5 l_6 l_7
      show Le (spec_seLook_look.TJ9 Pr.quick some (spec_seLook_look.CL8 fu) at0 number l_0 l_8 l_1 l_2 l_3 l_4 l_5 l_6 l_7) _
      rw [Pr.quick_eq, spec_seLook_look.XJ9_eq]
      exact spec_seLook_look.TJ9_mono ((ih (dep + 1) (by omega) (by omega)).2.2.1)
    · intro at0 number l_0 l_8 l_1 l_2 l_3 l_4 l_5 l_6 l_7
      show Le (spec_seLook_look.TJ9a Pr.quick some (spec_seLook_look.CL8a fu) at0 number l_0 l_8 l_1 l_2 l_3 l_4 l_5 l_6 l_7) _
      rw [Pr.quick_eq, spec_seLook_look.XJ9a_eq]
      exact spec_seLook_look.TJ9a_mono ((ih (dep + 1) (by omega) (by omega)).2.2.2.2.2)
    · intro at0 number l_0 l_8 l_1 l_2 l_3 l_4 l_5 l_6 l_7
      show Le (spec_seLook_look.TL8a Pr.quick some (spec_seLook_look.CJ9a fu) (spec_seLook_look.C fu) at0 number l_0 l_8 l_1 l_2 l_3 l_4 l_5 l_6 l_7) _
      rw [Pr.quick_eq, spec_seLook_look.XL8a_eq]
      exact spec_seLook_look.TL8a_mono ((ih (dep + 1) (by omega) (by omega)).2.2.2.2.1) ((ih (dep + 1) (by omega) (by omega)).1)
theorem spec_seLook_look.C_ok (fu : Nat) (hfu : fu ≤ 100000) (a : LI × LLI × Int × Int × Int × Int × Int × Int × Int) : Le (spec_seLook_look.C fu a) (spec_seLook_look.XX a) := (spec_seLook_look.C_okd fu 100000 hfu (Nat.le_refl _)).1 a
end Go.VS
