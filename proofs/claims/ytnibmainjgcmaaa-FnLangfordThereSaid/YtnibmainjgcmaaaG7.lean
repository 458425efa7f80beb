/- printed by gen.py: a part of the walk through the program. No condition. -/
import Derived.Test.YtnibmainjgcmaaaG6
set_option linter.unusedVariables false
set_option linter.unusedSimpArgs false
set_option maxRecDepth 100000
namespace Go.VS
/-! ### loop.example/g01232/spec.AllLangford -/
def spec_AllLangford.s0 (a : Int × Int) : St := { slots := [.int .i64 a.1, .int .i64 a.2], rows := [], boxes := [] }
def spec_AllLangford.pat : St → Option (Int × Int)
  | { slots := [.int .i64 n, .int .i64 d], rows := [], boxes := [], gd := [] } => some (n, d)
  | _ => none
theorem spec_AllLangford.hp : ∀ st a, spec_AllLangford.pat st = some a → st = spec_AllLangford.s0 a := by
  intro st a h
  unfold spec_AllLangford.pat at h
  split at h
  · cases h; rfl
  · cases h
def spec_AllLangford.ret (r : LLI × Bool) : R := ({ slots := [], rows := [], boxes := [] }, [.sl (.sl (.int .i64)) r.1, .bool r.2])
def spec_AllLangford.ap (b : LLI × Bool) (K : St → List V → Option R) : Option R := K (spec_AllLangford.ret b).1 (spec_AllLangford.ret b).2
theorem spec_AllLangford.hap : ∀ b K, spec_AllLangford.ap b K = K (spec_AllLangford.ret b).1 (spec_AllLangford.ret b).2 := fun _ _ => rfl
theorem spec_AllLangford.inj : ∀ x y, spec_AllLangford.ret x = spec_AllLangford.ret y → x = y := by
  intro x y h
  obtain ⟨x1, x2⟩ := x; obtain ⟨y1, y2⟩ := y; cases h; rfl
theorem spec_AllLangford.dc (x : LLI × Bool) : dec spec_AllLangford.ret (some (spec_AllLangford.ret x)) = some x := dec_ret spec_AllLangford.inj x
noncomputable def spec_AllLangford.cx : Cx := { ty := TY, fns := [(48, spec_seLangford.E), (50, spec_seListed.E)], nk := [], sharp := true }
noncomputable def spec_AllLangford.body : Code := Go.Proofs.Try.f10.body.getD .skip
def spec_AllLangford.fl : Fn := { loops := [], joins := [], nr := 0, nb := 0, rs := [.tmp 4, .tmp 5], pre := [(4, [some (.sl (.int .i64), true)])], mv := [], fz := [] }
noncomputable def spec_AllLangford.Q (a : Int × Int) : Option R := eval spec_AllLangford.cx spec_AllLangford.fl [.code spec_AllLangford.body] (start 20 (spec_AllLangford.s0 a))
noncomputable def spec_AllLangford.X (a : Int × Int) : Option (LLI × Bool) := dec spec_AllLangford.ret (spec_AllLangford.Q a)
theorem spec_AllLangford.fns : FnsOk Go.Proofs.Try.prog spec_AllLangford.cx := show FnsL _ _ from (fns_cons spec_seLangford.ok (fns_cons spec_seListed.ok fns_nil))
theorem spec_AllLangford.lin : spec_AllLangford.cx.Lin := Lin.of_fns spec_AllLangford.fns
noncomputable def spec_AllLangford.E : Entry := mkE [] spec_AllLangford.pat spec_AllLangford.X spec_AllLangford.ap
theorem spec_AllLangford.ok : EntOk Go.Proofs.Try.prog 10 spec_AllLangford.E := mkE_ok (fun w args => Go.Proofs.Try.call10 args w) spec_AllLangford.hp spec_AllLangford.hap fun a b h => vc_of_X mixed (tyB_ok (cx := spec_AllLangford.cx) tyOk) spec_AllLangford.fns (fl := spec_AllLangford.fl) Go.Proofs.Try.func10 (code := spec_AllLangford.body) (by kernel_rfl) (n := 20) (by kernel_rfl) (by kernel_rfl) (by decide) (by decide) rfl rfl h
def spec_AllLangford.T {α : Type} (pr : Pr) (rt : (LLI × Bool) → Option α) (call_0 : (Int × Int × Int) → Option ((Bool) ⊕ (Bool × LI × LLI × Int × Int × Int × Int × Int × Int × Int))) (call_1 : (LI × LLI × Int × Int × Int × Int × Int × Int × Int) → Option ((LLI × Bool × LI × LLI × Int × Int × Int × Int × Int × Int × Int) ⊕ (LLI × Bool × LI × Int × Int × Int × Int × Int × Int × Int × LLI))) (n d : Int) : Option α :=
  (call_0 (n, d, 600)).bind (Sum.elim (fun rr1 =>
      bif (!rr1) then
        rt ([], false)
      else
        none)
    (fun rr1 =>
        bif (!rr1.1) then
          rt ([], false)
        else
          pr.fh rr1.2.1 fun y0 => pr.fh rr1.2.2.1 fun y1 => pr.fi rr1.2.2.2.1 fun y2 => pr.fi rr1.2.2.2.2.1 fun y3 => pr.fi rr1.2.2.2.2.2.1 fun y4 => pr.fi rr1.2.2.2.2.2.2.1 fun y5 => pr.fi rr1.2.2.2.2.2.2.2.1 fun y6 => pr.fi rr1.2.2.2.2.2.2.2.2.1 fun y7 => pr.fi rr1.2.2.2.2.2.2.2.2.2 fun y8 => (call_1 (y0, y1, y2, y3, y4, y5, y6, y7, y8)).bind (Sum.elim (fun rr2 =>
              pr.fh rr2.1 fun y0 => pr.fb rr2.2.1 fun y1 => rt (y0, y1))
            (fun rr2 =>
                pr.fh rr2.1 fun y0 => pr.fb rr2.2.1 fun y1 => rt (y0, y1)))))
theorem spec_AllLangford.Q_eq (n d : Int) : spec_AllLangford.Q (n, d) = spec_AllLangford.T Pr.std (fun b => some (spec_AllLangford.ret b)) spec_seLangford.X spec_seListed.X n d := (eval_seg spec_AllLangford.lin 1000000 _ _).trans (by kernel_rfl)
theorem spec_AllLangford.X_eq (n d : Int) : spec_AllLangford.X (n, d) = spec_AllLangford.T Pr.std some spec_seLangford.X spec_seListed.X n d := by
  show dec spec_AllLangford.ret (spec_AllLangford.Q (n, d)) = _
  rw [spec_AllLangford.Q_eq]
  simp only [spec_AllLangford.T, std_fi, std_fb, std_fl, std_fll, std_flll, std_flb, std_fh, dec_ite, dec_cond, dec_bind, dec_elim, dec_none, spec_AllLangford.dc]
  try rfl
theorem spec_AllLangford.T_mono {α : Type} {rt : (LLI × Bool) → Option α} {call_0 call_0_ : (Int × Int × Int) → Option ((Bool) ⊕ (Bool × LI × LLI × Int × Int × Int × Int × Int × Int × Int))} (hcall_0 : ∀ x, Le (call_0 x) (call_0_ x)) {call_1 call_1_ : (LI × LLI × Int × Int × Int × Int × Int × Int × Int) → Option ((LLI × Bool × LI × LLI × Int × Int × Int × Int × Int × Int × Int) ⊕ (LLI × Bool × LI × Int × Int × Int × Int × Int × Int × Int × LLI))} (hcall_1 : ∀ x, Le (call_1 x) (call_1_ x)) {n d : Int} : Le (spec_AllLangford.T Pr.std rt call_0 call_1 n d) (spec_AllLangford.T Pr.std rt call_0_ call_1_ n d) := by
  unfold spec_AllLangford.T
  exact (Le.bind (hcall_0 _) (fun _ => Le.elim (fun rr1 => (Le.cond Le.rfl' Le.rfl')) (fun rr1 => (Le.cond Le.rfl' (Le.fh fun _ => (Le.fh fun _ => (Le.fi fun _ => (Le.fi fun _ => (Le.fi fun _ => (Le.fi fun _ => (Le.fi fun _ => (Le.fi fun _ => (Le.fi fun _ => (Le.bind (hcall_1 _) (fun _ => Le.elim (fun rr2 => Le.rfl') (fun rr2 => Le.rfl'))))))))))))))))
noncomputable def spec_AllLangford.C (fu : Nat) (a : Int × Int) : Option (LLI × Bool) := spec_AllLangford.T Pr.quick some (spec_seLangford.C fu) (spec_seListed.C fu) a.1 a.2
theorem spec_AllLangford.C_ok (fu : Nat) (hfu : fu ≤ 100000) (a : Int × Int) : Le (spec_AllLangford.C fu a) (spec_AllLangford.X a) := by
  obtain ⟨n, d⟩ := a
  show Le (spec_AllLangford.T Pr.quick some (spec_seLangford.C fu) (spec_seListed.C fu) n d) _
  rw [Pr.quick_eq, spec_AllLangford.X_eq]
  exact spec_AllLangford.T_mono (fun x => spec_seLangford.C_ok fu hfu x) (fun x => spec_seListed.C_ok fu hfu x)
/-! ### (loop.example/g01232/impl.kind).first$1 -/
def impl_kind_first_1.s0 (a : LI × LI) : St := { slots := [.sl (.int .i64) a.1, .ptr 0 0], rows := [(0, ⟨.int .i64, a.2⟩)], boxes := [(0, [.row 0])] }
def impl_kind_first_1.pat : St → Option (LI × LI)
  | { slots := [.sl (.int .i64) row, .ptr 0 0], rows := [(0, ⟨.int .i64, t1⟩)], boxes := [(0, [.row 0])], gd := [] } => some (row, t1)
  | _ => none
theorem impl_kind_first_1.hp : ∀ st a, impl_kind_first_1.pat st = some a → st = impl_kind_first_1.s0 a := by
  intro st a h
  unfold impl_kind_first_1.pat at h
  split at h
  · cases h; rfl
  · cases h
def impl_kind_first_1.ret (r : Bool × LI) : R := ({ slots := [], rows := [(1, ⟨.int .i64, r.2⟩)], boxes := [(0, [.row 1])] }, [.bool r.1])
def impl_kind_first_1.ap (b : Bool × LI) (K : St → List V → Option R) : Option R := K (impl_kind_first_1.ret b).1 (impl_kind_first_1.ret b).2
theorem impl_kind_first_1.hap : ∀ b K, impl_kind_first_1.ap b K = K (impl_kind_first_1.ret b).1 (impl_kind_first_1.ret b).2 := fun _ _ => rfl
theorem impl_kind_first_1.inj : ∀ x y, impl_kind_first_1.ret x = impl_kind_first_1.ret y → x = y := by
  intro x y h
  obtain ⟨x1, x2⟩ := x; obtain ⟨y1, y2⟩ := y; cases h; rfl
theorem impl_kind_first_1.dc (x : Bool × LI) : dec impl_kind_first_1.ret (some (impl_kind_first_1.ret x)) = some x := dec_ret impl_kind_first_1.inj x
noncomputable def impl_kind_first_1.cx : Cx := { ty := TY, fns := [(57, slices_Clone_int_int.E)], nk := [], sharp := true }
noncomputable def impl_kind_first_1.body : Code := Go.Proofs.Try.f85.body.getD .skip
def impl_kind_first_1.fl : Fn := { loops := [], joins := [], nr := 1, nb := 1, rs := [.tmp 3], pre := [], mv := [0], fz := [] }
noncomputable def impl_kind_first_1.Q (a : LI × LI) : Option R := eval impl_kind_first_1.cx impl_kind_first_1.fl [.code impl_kind_first_1.body] (start 6 (impl_kind_first_1.s0 a))
noncomputable def impl_kind_first_1.X (a : LI × LI) : Option (Bool × LI) := dec impl_kind_first_1.ret (impl_kind_first_1.Q a)
theorem impl_kind_first_1.fns : FnsOk Go.Proofs.Try.prog impl_kind_first_1.cx := show FnsL _ _ from (fns_cons slices_Clone_int_int.ok fns_nil)
theorem impl_kind_first_1.lin : impl_kind_first_1.cx.Lin := Lin.of_fns impl_kind_first_1.fns
noncomputable def impl_kind_first_1.E : Entry := mkE [[], [true]] impl_kind_first_1.pat impl_kind_first_1.X impl_kind_first_1.ap
theorem impl_kind_first_1.ok : EntOk Go.Proofs.Try.prog 85 impl_kind_first_1.E := mkE_ok (fun w args => Go.Proofs.Try.call85 args w) impl_kind_first_1.hp impl_kind_first_1.hap fun a b h => vc_of_X mixed (tyB_ok (cx := impl_kind_first_1.cx) tyOk) impl_kind_first_1.fns (fl := impl_kind_first_1.fl) Go.Proofs.Try.func85 (code := impl_kind_first_1.body) (by kernel_rfl) (n := 6) (by kernel_rfl) (by kernel_rfl) (by decide) (by decide) rfl rfl h
def impl_kind_first_1.T {α : Type} (pr : Pr) (rt : (Bool × LI) → Option α) (call_0 : LI → Option LI) (row t1 : LI) : Option α :=
  (call_0 row).bind fun rr1 =>
    pr.fh rr1 fun y1 => rt (true, y1)
theorem impl_kind_first_1.Q_eq (row t1 : LI) : impl_kind_first_1.Q (row, t1) = impl_kind_first_1.T Pr.std (fun b => some (impl_kind_first_1.ret b)) slices_Clone_int_int.X row t1 := (eval_seg impl_kind_first_1.lin 1000000 _ _).trans (by kernel_rfl)
theorem impl_kind_first_1.X_eq (row t1 : LI) : impl_kind_first_1.X (row, t1) = impl_kind_first_1.T Pr.std some slices_Clone_int_int.X row t1 := by
  show dec impl_kind_first_1.ret (impl_kind_first_1.Q (row, t1)) = _
  rw [impl_kind_first_1.Q_eq]
  simp only [impl_kind_first_1.T, std_fi, std_fb, std_fl, std_fll, std_flll, std_flb, std_fh, dec_ite, dec_cond, dec_bind, dec_elim, dec_none, impl_kind_first_1.dc]
  try rfl
theorem impl_kind_first_1.T_mono {α : Type} {rt : (Bool × LI) → Option α} {call_0 call_0_ : LI → Option LI} (hcall_0 : ∀ x, Le (call_0 x) (call_0_ x)) {row t1 : LI} : Le (impl_kind_first_1.T Pr.std rt call_0 row t1) (impl_kind_first_1.T Pr.std rt call_0_ row t1) := by
  unfold impl_kind_first_1.T
  exact (Le.bind (hcall_0 _) (fun rr1 => Le.rfl'))
noncomputable def impl_kind_first_1.C (fu : Nat) (a : LI × LI) : Option (Bool × LI) := impl_kind_first_1.T Pr.quick some (slices_Clone_int_int.C fu) a.1 a.2
theorem impl_kind_first_1.C_ok (fu : Nat) (hfu : fu ≤ 100000) (a : LI × LI) : Le (impl_kind_first_1.C fu a) (impl_kind_first_1.X a) := by
  obtain ⟨row, t1⟩ := a
  show Le (impl_kind_first_1.T Pr.quick some (slices_Clone_int_int.C fu) row t1) _
  rw [Pr.quick_eq, impl_kind_first_1.X_eq]
  exact impl_kind_first_1.T_mono (fun x => slices_Clone_int_int.C_ok fu hfu x)
/-! ### loop.example/g01232/impl.fill -/
def impl_fill_v2.s0 (a : LI × Int × LI × LI × LI) : St := { slots := [.row 0, .sl (.int .i64) a.1, .row 1, .int .i64 a.2.1, .clo 85 [] [.ptr 0 0]], rows := [(0, ⟨.int .i64, a.2.2.1⟩), (1, ⟨.int .i64, a.2.2.2.1⟩), (2, ⟨.int .i64, a.2.2.2.2⟩)], boxes := [(0, [.row 2])] }
def impl_fill_v2.pat : St → Option (LI × Int × LI × LI × LI)
  | { slots := [.row 0, .sl (.int .i64) told, .row 1, .int .i64 shift, .clo 85 [] [.ptr 0 0]], rows := [(0, ⟨.int .i64, row⟩), (1, ⟨.int .i64, left⟩), (2, ⟨.int .i64, eachc0⟩)], boxes := [(0, [.row 2])], gd := [] } => some (told, shift, row, left, eachc0)
  | _ => none
theorem impl_fill_v2.hp : ∀ st a, impl_fill_v2.pat st = some a → st = impl_fill_v2.s0 a := by
  intro st a h
  unfold impl_fill_v2.pat at h
  split at h
  · cases h; rfl
  · cases h
def impl_fill_v2.ret (r : Bool × LI × LI × LI) : R := ({ slots := [], rows := [(0, ⟨.int .i64, r.2.1⟩), (1, ⟨.int .i64, r.2.2.1⟩), (3, ⟨.int .i64, r.2.2.2⟩)], boxes := [(0, [.row 3])] }, [.bool r.1])
def impl_fill_v2.ap (b : Bool × LI × LI × LI) (K : St → List V → Option R) : Option R := K (impl_fill_v2.ret b).1 (impl_fill_v2.ret b).2
theorem impl_fill_v2.hap : ∀ b K, impl_fill_v2.ap b K = K (impl_fill_v2.ret b).1 (impl_fill_v2.ret b).2 := fun _ _ => rfl
theorem impl_fill_v2.inj : ∀ x y, impl_fill_v2.ret x = impl_fill_v2.ret y → x = y := by
  intro x y h
  obtain ⟨x1, x2, x3, x4⟩ := x; obtain ⟨y1, y2, y3, y4⟩ := y; cases h; rfl
theorem impl_fill_v2.dc (x : Bool × LI × LI × LI) : dec impl_fill_v2.ret (some (impl_fill_v2.ret x)) = some x := dec_ret impl_fill_v2.inj x
def impl_fill_v2.Ed (X : (LI × Int × LI × LI × LI) → Option (Bool × LI × LI × LI)) : Entry := mkE [[true], [], [true], [], [true]] impl_fill_v2.pat X impl_fill_v2.ap
noncomputable def impl_fill_v2.cx (X : (LI × Int × LI × LI × LI) → Option (Bool × LI × LI × LI)) : Cx := { ty := TY, fns := [(102, slices_Index_int_int.E), (85, impl_kind_first_1.E), (99, impl_fill_v2.Ed X)], nk := [], sharp := true }
noncomputable def impl_fill_v2.body : Code := Go.Proofs.Try.f99.body.getD .skip
def impl_fill_v2.fl : Fn := { loops := [(5, [(0, none), (1, none), (2, none), (3, none), (4, none), (11, none), (23, none), (24, none), (25, none)])], joins := [(9, [(0, none), (1, none), (2, none), (3, none), (4, none), (11, none), (12, none), (13, none), (14, none), (23, none), (24, none), (25, none)]), (16, [(0, none), (1, none), (2, none), (3, none), (4, none), (11, none), (23, none), (24, none), (25, none)])], nr := 3, nb := 1, rs := [.tmp 10], pre := [], mv := [2], fz := [] }
noncomputable def impl_fill_v2.X : Nat → (LI × Int × LI × LI × LI) → Option (Bool × LI × LI × LI)
  | 0 => fun _ => none
  | dep + 1 => fun a => dec impl_fill_v2.ret (eval (impl_fill_v2.cx (impl_fill_v2.X dep)) impl_fill_v2.fl [.code impl_fill_v2.body] (start 109 (impl_fill_v2.s0 a)))
noncomputable def impl_fill_v2.XX : (LI × Int × LI × LI × LI) → Option (Bool × LI × LI × LI) := impl_fill_v2.X 100000
noncomputable def impl_fill_v2.Q (dep : Nat) (a : LI × Int × LI × LI × LI) : Option R := eval (impl_fill_v2.cx (impl_fill_v2.X dep)) impl_fill_v2.fl [.code impl_fill_v2.body] (start 109 (impl_fill_v2.s0 a))
def impl_fill_v2.sL5 (told : LI) (shift at0 t24 t25 : Int) (row left eachc0 : LI) : St := { slots := [.row 0, .sl (.int .i64) told, .row 1, .int .i64 shift, .clo 85 [] [.ptr 0 0], D, D, D, D, D, D, .int .i64 at0, D, D, D, D, D, D, D, D, D, D, D, .row 1, .int .i64 t24, .int .i64 t25, D, D, D, D, D, D, D, D, D, D, D, D, D, D, D, D, D, D, D, D, D, D, D, D, D, D, D, D, D, D, D, D, D, D, D, D, D, D, D, D, D, D, D, D, D, D, D, D, D, D, D, D, D, D, D, D, D, D, D, D, D, D, D, D, D, D, D, D, D, D, D, D, D, D, D, D, D, D, D, D, D, D, D], rows := [(0, ⟨.int .i64, row⟩), (1, ⟨.int .i64, left⟩), (2, ⟨.int .i64, eachc0⟩)], boxes := [(0, [.row 2])] }
noncomputable def impl_fill_v2.tL5 : List It := (findL 5 impl_fill_v2.body []).getD []
noncomputable def impl_fill_v2.QL5 (dep : Nat) (told : LI) (shift at0 t24 t25 : Int) (row left eachc0 : LI) : Option R := eval (impl_fill_v2.cx (impl_fill_v2.X dep)) impl_fill_v2.fl impl_fill_v2.tL5 (impl_fill_v2.sL5 told shift at0 t24 t25 row left eachc0)
noncomputable def impl_fill_v2.XL5 (dep : Nat) (told : LI) (shift at0 t24 t25 : Int) (row left eachc0 : LI) : Option (Bool × LI × LI × LI) := dec impl_fill_v2.ret (impl_fill_v2.QL5 dep told shift at0 t24 t25 row left eachc0)
def impl_fill_v2.sJ16 (told : LI) (shift at0 t24 t25 : Int) (row left eachc0 : LI) : St := { slots := [.row 0, .sl (.int .i64) told, .row 1, .int .i64 shift, .clo 85 [] [.ptr 0 0], D, D, D, D, D, D, .int .i64 at0, D, D, D, D, D, D, D, D, D, D, D, .row 1, .int .i64 t24, .int .i64 t25, D, D, D, D, D, D, D, D, D, D, D, D, D, D, D, D, D, D, D, D, D, D, D, D, D, D, D, D, D, D, D, D, D, D, D, D, D, D, D, D, D, D, D, D, D, D, D, D, D, D, D, D, D, D, D, D, D, D, D, D, D, D, D, D, D, D, D, D, D, D, D, D, D, D, D, D, D, D, D, D, D, D, D], rows := [(0, ⟨.int .i64, row⟩), (1, ⟨.int .i64, left⟩), (2, ⟨.int .i64, eachc0⟩)], boxes := [(0, [.row 2])] }
noncomputable def impl_fill_v2.tJ16 : List It := (findJ 16 impl_fill_v2.body []).getD []
noncomputable def impl_fill_v2.QJ16 (dep : Nat) (told : LI) (shift at0 t24 t25 : Int) (row left eachc0 : LI) : Option R := eval (impl_fill_v2.cx (impl_fill_v2.X dep)) impl_fill_v2.fl impl_fill_v2.tJ16 (impl_fill_v2.sJ16 told shift at0 t24 t25 row left eachc0)
noncomputable def impl_fill_v2.XJ16 (dep : Nat) (told : LI) (shift at0 t24 t25 : Int) (row left eachc0 : LI) : Option (Bool × LI × LI × LI) := dec impl_fill_v2.ret (impl_fill_v2.QJ16 dep told shift at0 t24 t25 row left eachc0)
def impl_fill_v2.sJ9 (told : LI) (shift at0 i n to t24 t25 : Int) (row left eachc0 : LI) : St := { slots := [.row 0, .sl (.int .i64) told, .row 1, .int .i64 shift, .clo 85 [] [.ptr 0 0], D, D, D, D, D, D, .int .i64 at0, .int .i64 i, .int .i64 n, .int .i64 to, D, D, D, D, D, D, D, D, .row 1, .int .i64 t24, .int .i64 t25, D, D, D, D, D, D, D, D, D, D, D, D, D, D, D, D, D, D, D, D, D, D, D, D, D, D, D, D, D, D, D, D, D, D, D, D, D, D, D, D, D, D, D, D, D, D, D, D, D, D, D, D, D, D, D, D, D, D, D, D, D, D, D, D, D, D, D, D, D, D, D, D, D, D, D, D, D, D, D, D, D, D, D], rows := [(0, ⟨.int .i64, row⟩), (1, ⟨.int .i64, left⟩), (2, ⟨.int .i64, eachc0⟩)], boxes := [(0, [.row 2])] }
noncomputable def impl_fill_v2.tJ9 : List It := (findJ 9 impl_fill_v2.body []).getD []
noncomputable def impl_fill_v2.QJ9 (dep : Nat) (told : LI) (shift at0 i n to t24 t25 : Int) (row left eachc0 : LI) : Option R := eval (impl_fill_v2.cx (impl_fill_v2.X dep)) impl_fill_v2.fl impl_fill_v2.tJ9 (impl_fill_v2.sJ9 told shift at0 i n to t24 t25 row left eachc0)
noncomputable def impl_fill_v2.XJ9 (dep : Nat) (told : LI) (shift at0 i n to t24 t25 : Int) (row left eachc0 : LI) : Option (Bool × LI × LI × LI) := dec impl_fill_v2.ret (impl_fill_v2.QJ9 dep told shift at0 i n to t24 t25 row left eachc0)
def impl_fill_v2.sJ16a (told : LI) (shift at0 t24 t25 : Int) (row left eachc0 : LI) : St := { slots := [.row 0, .sl (.int .i64) told, .row 1, .int .i64 shift, .clo 85 [] [.ptr 0 0], D, D, D, D, D, D, .int .i64 at0, D, D, D, D, D, D, D, D, D, D, D, .row 1, .int .i64 t24, .int .i64 t25, D, D, D, D, D, D, D, D, D, D, D, D, D, D, D, D, D, D, D, D, D, D, D, D, D, D, D, D, D, D, D, D, D, D, D, D, D, D, D, D, D, D, D, D, D, D, D, D, D, D, D, D, D, D, D, D, D, D, D, D, D, D, D, D, D, D, D, D, D, D, D, D, D, D, D, D, D, D, D, D, D, D, D], rows := [(0, ⟨.int .i64, row⟩), (1, ⟨.int .i64, left⟩), (5000000, ⟨.int .i64, eachc0⟩)], boxes := [(0, [.row 5000000])] }
noncomputable def impl_fill_v2.QJ16a (dep : Nat) (told : LI) (shift at0 t24 t25 : Int) (row left eachc0 : LI) : Option R := eval (impl_fill_v2.cx (impl_fill_v2.X dep)) impl_fill_v2.fl impl_fill_v2.tJ16 (impl_fill_v2.sJ16a told shift at0 t24 t25 row left eachc0)
noncomputable def impl_fill_v2.XJ16a (dep : Nat) (told : LI) (shift at0 t24 t25 : Int) (row left eachc0 : LI) : Option (Bool × LI × LI × LI) := dec impl_fill_v2.ret (impl_fill_v2.QJ16a dep told shift at0 t24 t25 row left eachc0)
def impl_fill_v2.sL5a (told : LI) (shift at0 t24 t25 : Int) (row left eachc0 : LI) : St := { slots := [.row 0, .sl (.int .i64) told, .row 1, .int .i64 shift, .clo 85 [] [.ptr 0 0], D, D, D, D, D, D, .int .i64 at0, D, D, D, D, D, D, D, D, D, D, D, .row 1, .int .i64 t24, .int .i64 t25, D, D, D, D, D, D, D, D, D, D, D, D, D, D, D, D, D, D, D, D, D, D, D, D, D, D, D, D, D, D, D, D, D, D, D, D, D, D, D, D, D, D, D, D, D, D, D, D, D, D, D, D, D, D, D, D, D, D, D, D, D, D, D, D, D, D, D, D, D, D, D, D, D, D, D, D, D, D, D, D, D, D, D], rows := [(0, ⟨.int .i64, row⟩), (1, ⟨.int .i64, left⟩), (5000000, ⟨.int .i64, eachc0⟩)], boxes := [(0, [.row 5000000])] }
noncomputable def impl_fill_v2.QL5a (dep : Nat) (told : LI) (shift at0 t24 t25 : Int) (row left eachc0 : LI) : Option R := eval (impl_fill_v2.cx (impl_fill_v2.X dep)) impl_fill_v2.fl impl_fill_v2.tL5 (impl_fill_v2.sL5a told shift at0 t24 t25 row left eachc0)
noncomputable def impl_fill_v2.XL5a (dep : Nat) (told : LI) (shift at0 t24 t25 : Int) (row left eachc0 : LI) : Option (Bool × LI × LI × LI) := dec impl_fill_v2.ret (impl_fill_v2.QL5a dep told shift at0 t24 t25 row left eachc0)
def impl_fill_v2.sJ9a (told : LI) (shift at0 i n to t24 t25 : Int) (row left eachc0 : LI) : St := { slots := [.row 0, .sl (.int .i64) told, .row 1, .int .i64 shift, .clo 85 [] [.ptr 0 0], D, D, D, D, D, D, .int .i64 at0, .int .i64 i, .int .i64 n, .int .i64 to, D, D, D, D, D, D, D, D, .row 1, .int .i64 t24, .int .i64 t25, D, D, D, D, D, D, D, D, D, D, D, D, D, D, D, D, D, D, D, D, D, D, D, D, D, D, D, D, D, D, D, D, D, D, D, D, D, D, D, D, D, D, D, D, D, D, D, D, D, D, D, D, D, D, D, D, D, D, D, D, D, D, D, D, D, D, D, D, D, D, D, D, D, D, D, D, D, D, D, D, D, D, D], rows := [(0, ⟨.int .i64, row⟩), (1, ⟨.int .i64, left⟩), (5000000, ⟨.int .i64, eachc0⟩)], boxes := [(0, [.row 5000000])] }
noncomputable def impl_fill_v2.QJ9a (dep : Nat) (told : LI) (shift at0 i n to t24 t25 : Int) (row left eachc0 : LI) : Option R := eval (impl_fill_v2.cx (impl_fill_v2.X dep)) impl_fill_v2.fl impl_fill_v2.tJ9 (impl_fill_v2.sJ9a told shift at0 i n to t24 t25 row left eachc0)
noncomputable def impl_fill_v2.XJ9a (dep : Nat) (told : LI) (shift at0 i n to t24 t25 : Int) (row left eachc0 : LI) : Option (Bool × LI × LI × LI) := dec impl_fill_v2.ret (impl_fill_v2.QJ9a dep told shift at0 i n to t24 t25 row left eachc0)
theorem impl_fill_v2.okd : ∀ dep, EntOk Go.Proofs.Try.prog 99 (impl_fill_v2.Ed (impl_fill_v2.X dep))
  | 0 => mkE_ok (fun w args => Go.Proofs.Try.call99 args w) impl_fill_v2.hp impl_fill_v2.hap fun a b h => by cases h
  | dep + 1 => mkE_ok (fun w args => Go.Proofs.Try.call99 args w) impl_fill_v2.hp impl_fill_v2.hap fun a b h => vc_of_X (cx := (impl_fill_v2.cx (impl_fill_v2.X dep))) (fl := impl_fill_v2.fl) mixed (tyB_ok (cx := (impl_fill_v2.cx (impl_fill_v2.X dep))) tyOk) (show FnsL _ _ from (fns_cons slices_Index_int_int.ok (fns_cons impl_kind_first_1.ok (fns_cons (impl_fill_v2.okd dep) fns_nil)))) Go.Proofs.Try.func99 (code := impl_fill_v2.body) (by kernel_rfl) (n := 109) (by kernel_rfl) (by kernel_rfl) (by decide) (by decide) rfl rfl h
noncomputable def impl_fill_v2.E : Entry := impl_fill_v2.Ed impl_fill_v2.XX
theorem impl_fill_v2.ok : EntOk Go.Proofs.Try.prog 99 impl_fill_v2.E := impl_fill_v2.okd _
theorem impl_fill_v2.lin (dep : Nat) : (impl_fill_v2.cx (impl_fill_v2.X dep)).Lin := Lin.of_fns (P := Go.Proofs.Try.prog) (show FnsL _ _ from (fns_cons slices_Index_int_int.ok (fns_cons impl_kind_first_1.ok (fns_cons (impl_fill_v2.okd dep) fns_nil))))
def impl_fill_v2.T {α : Type} (pr : Pr) (rt : (Bool × LI × LI × LI) → Option α) (kL5 : LI → Int → Int → Int → Int → LI → LI → LI → Option α) (call_0 : (LI × Int) → Option (Int)) (call_1 : (LI × LI) → Option (Bool × LI)) (told : LI) (shift : Int) (row left eachc0 : LI) : Option α :=
  (call_0 (row, (-1))).bind fun rr1 =>
    bif (pr.lt rr1 0) then
      (call_1 (row, eachc0)).bind fun rr2 =>
        pr.fb rr2.1 fun y0 => pr.fh rr2.2 fun y3 => rt (y0, row, left, y3)
    else
      pr.fi rr1 fun y2 => pr.fi ((left.length : Nat) : Int) fun y3 => kL5 told shift y2 y3 0 row left eachc0
theorem impl_fill_v2.Q_eq (dep : Nat) (told : LI) (shift : Int) (row left eachc0 : LI) : impl_fill_v2.Q dep (told, shift, row, left, eachc0) = impl_fill_v2.T Pr.std (fun b => some (impl_fill_v2.ret b)) (impl_fill_v2.QL5 dep) slices_Index_int_int.X impl_kind_first_1.X told shift row left eachc0 := (eval_seg (impl_fill_v2.lin dep) 1000000 _ _).trans (by kernel_rfl)
theorem impl_fill_v2.X_eq (dep : Nat) (told : LI) (shift : Int) (row left eachc0 : LI) : impl_fill_v2.X (dep + 1) (told, shift, row, left, eachc0) = impl_fill_v2.T Pr.std some (impl_fill_v2.XL5 dep) slices_Index_int_int.X impl_kind_first_1.X told shift row left eachc0 := by
  show dec impl_fill_v2.ret (impl_fill_v2.Q dep (told, shift, row, left, eachc0)) = _
  rw [impl_fill_v2.Q_eq]
  simp only [impl_fill_v2.T, std_fi, std_fb, std_fl, std_fll, std_flll, std_flb, std_fh, dec_ite, dec_cond, dec_bind, dec_elim, dec_none, impl_fill_v2.dc]
  try rfl
theorem impl_fill_v2.T_mono {α : Type} {rt : (Bool × LI × LI × LI) → Option α} {kL5 kL5_ : LI → Int → Int → Int → Int → LI → LI → LI → Option α} (hkL5 : ∀ x0 x1 x2 x3 x4 x5 x6 x7, Le (kL5 x0 x1 x2 x3 x4 x5 x6 x7) (kL5_ x0 x1 x2 x3 x4 x5 x6 x7)) {call_0 call_0_ : (LI × Int) → Option (Int)} (hcall_0 : ∀ x, Le (call_0 x) (call_0_ x)) {call_1 call_1_ : (LI × LI) → Option (Bool × LI)} (hcall_1 : ∀ x, Le (call_1 x) (call_1_ x)) {told : LI} {shift : Int} {row left eachc0 : LI} : Le (impl_fill_v2.T Pr.std rt kL5 call_0 call_1 told shift row left eachc0) (impl_fill_v2.T Pr.std rt kL5_ call_0_ call_1_ told shift row left eachc0) := by
  unfold impl_fill_v2.T
  exact (Le.bind (hcall_0 _) (fun rr1 => (Le.cond (Le.bind (hcall_1 _) (fun rr2 => Le.rfl')) (Le.fi fun _ => (Le.fi fun _ => (hkL5 _ _ _ _ _ _ _ _))))))
def impl_fill_v2.TL5 {α : Type} (pr : Pr) (rt : (Bool × LI × LI × LI) → Option α) (kJ16 : LI → Int → Int → Int → Int → LI → LI → LI → Option α) (kJ9 : LI → Int → Int → Int → Int → Int → Int → Int → LI → LI → LI → Option α) (told : LI) (shift at0 t24 t25 : Int) (row left eachc0 : LI) : Option α :=
  bif (pr.lt t25 t24) then
    if (pr.inR t25 left.length) then
      if (pr.nlt ((t25).toNat) left.length) then
        if (!(pr.eq (pr.gd left ((t25).toNat) 0) 0)) then
          if (!(pr.ge (pr.wr .i64 ((pr.wr .i64 (at0 + (pr.gd left ((t25).toNat) 0))) + shift)) ((row.length : Nat) : Int))) then
            if (pr.inR (pr.wr .i64 ((pr.wr .i64 (at0 + (pr.gd left ((t25).toNat) 0))) + shift)) row.length) then
              if (pr.nlt (((pr.wr .i64 ((pr.wr .i64 (at0 + (pr.gd left ((t25).toNat) 0))) + shift))).toNat) row.length) then
                if (!(pr.ne (pr.gd row (((pr.wr .i64 ((pr.wr .i64 (at0 + (pr.gd left ((t25).toNat) 0))) + shift))).toNat) 0) (-1))) then
                  if (pr.inR at0 told.length) then
                    if (pr.ne (pr.gd told ((at0).toNat) 0) 0) then
                      if (pr.inR at0 told.length) then
                        if (!(pr.ne (pr.gd told ((at0).toNat) 0) (pr.gd left ((t25).toNat) 0))) then
                          if (pr.inR (pr.wr .i64 ((pr.wr .i64 (at0 + (pr.gd left ((t25).toNat) 0))) + shift)) told.length) then
                            if (pr.ne (pr.gd told (((pr.wr .i64 ((pr.wr .i64 (at0 + (pr.gd left ((t25).toNat) 0))) + shift))).toNat) 0) 0) then
                              if (pr.inR (pr.wr .i64 ((pr.wr .i64 (at0 + (pr.gd left ((t25).toNat) 0))) + shift)) told.length) then
                                bif (pr.ne (pr.gd told (((pr.wr .i64 ((pr.wr .i64 (at0 + (pr.gd left ((t25).toNat) 0))) + shift))).toNat) 0) (pr.gd left ((t25).toNat) 0)) then
                                  kJ16 told shift at0 t24 t25 row left eachc0
                                else
                                  pr.fi (pr.gd left ((t25).toNat) 0) fun y4 => pr.fi (pr.wr .i64 ((pr.wr .i64 (at0 + (pr.gd left ((t25).toNat) 0))) + shift)) fun y5 => kJ9 told shift at0 t25 y4 y5 t24 t25 row left eachc0
                              else
                                none
                            else
                              pr.fi (pr.gd left ((t25).toNat) 0) fun y4 => pr.fi (pr.wr .i64 ((pr.wr .i64 (at0 + (pr.gd left ((t25).toNat) 0))) + shift)) fun y5 => kJ9 told shift at0 t25 y4 y5 t24 t25 row left eachc0
                          else
                            none
                        else
                          kJ16 told shift at0 t24 t25 row left eachc0
                      else
                        none
                    else
                      if (pr.inR (pr.wr .i64 ((pr.wr .i64 (at0 + (pr.gd left ((t25).toNat) 0))) + shift)) told.length) then
                        if (pr.ne (pr.gd told (((pr.wr .i64 ((pr.wr .i64 (at0 + (pr.gd left ((t25).toNat) 0))) + shift))).toNat) 0) 0) then
                          if (pr.inR (pr.wr .i64 ((pr.wr .i64 (at0 + (pr.gd left ((t25).toNat) 0))) + shift)) told.length) then
                            bif (pr.ne (pr.gd told (((pr.wr .i64 ((pr.wr .i64 (at0 + (pr.gd left ((t25).toNat) 0))) + shift))).toNat) 0) (pr.gd left ((t25).toNat) 0)) then
                              kJ16 told shift at0 t24 t25 row left eachc0
                            else
                              pr.fi (pr.gd left ((t25).toNat) 0) fun y4 => pr.fi (pr.wr .i64 ((pr.wr .i64 (at0 + (pr.gd left ((t25).toNat) 0))) + shift)) fun y5 => kJ9 told shift at0 t25 y4 y5 t24 t25 row left eachc0
                          else
                            none
                        else
                          pr.fi (pr.gd left ((t25).toNat) 0) fun y4 => pr.fi (pr.wr .i64 ((pr.wr .i64 (at0 + (pr.gd left ((t25).toNat) 0))) + shift)) fun y5 => kJ9 told shift at0 t25 y4 y5 t24 t25 row left eachc0
                      else
                        none
                  else
                    none
                else
                  kJ16 told shift at0 t24 t25 row left eachc0
              else
                none
            else
              none
          else
            kJ16 told shift at0 t24 t25 row left eachc0
        else
          kJ16 told shift at0 t24 t25 row left eachc0
      else
        none
    else
      none
  else
    rt (false, row, left, eachc0)
theorem impl_fill_v2.QL5_eq (dep : Nat) (told : LI) (shift at0 t24 t25 : Int) (row left eachc0 : LI) : impl_fill_v2.QL5 dep told shift at0 t24 t25 row left eachc0 = impl_fill_v2.TL5 Pr.std (fun b => some (impl_fill_v2.ret b)) (impl_fill_v2.QJ16 dep) (impl_fill_v2.QJ9 dep) told shift at0 t24 t25 row left eachc0 := (eval_seg (impl_fill_v2.lin dep) 1000000 _ _).trans (by kernel_rfl)
theorem impl_fill_v2.XL5_eq (dep : Nat) (told : LI) (shift at0 t24 t25 : Int) (row left eachc0 : LI) : impl_fill_v2.XL5 dep told shift at0 t24 t25 row left eachc0 = impl_fill_v2.TL5 Pr.std some (impl_fill_v2.XJ16 dep) (impl_fill_v2.XJ9 dep) told shift at0 t24 t25 row left eachc0 := by
  show dec impl_fill_v2.ret (impl_fill_v2.QL5 dep told shift at0 t24 t25 row left eachc0) = _
  rw [impl_fill_v2.QL5_eq]
  simp only [impl_fill_v2.TL5, std_fi, std_fb, std_fl, std_fll, std_flll, std_flb, std_fh, dec_ite, dec_cond, dec_bind, dec_elim, dec_none, impl_fill_v2.dc]
  try rfl
theorem impl_fill_v2.TL5_mono {α : Type} {rt : (Bool × LI × LI × LI) → Option α} {kJ16 kJ16_ : LI → Int → Int → Int → Int → LI → LI → LI → Option α} (hkJ16 : ∀ x0 x1 x2 x3 x4 x5 x6 x7, Le (kJ16 x0 x1 x2 x3 x4 x5 x6 x7) (kJ16_ x0 x1 x2 x3 x4 x5 x6 x7)) {kJ9 kJ9_ : LI → Int → Int → Int → Int → Int → Int → Int → LI → LI → LI → Option α} (hkJ9 : ∀ x0 x1 x2 x3 x4 x5 x6 x7 x8 x9 x10, Le (kJ9 x0 x1 x2 x3 x4 x5 x6 x7 x8 x9 x10) (kJ9_ x0 x1 x2 x3 x4 x5 x6 x7 x8 x9 x10)) {told : LI} {shift at0 t24 t25 : Int} {row left eachc0 : LI} : Le (impl_fill_v2.TL5 Pr.std rt kJ16 kJ9 told shift at0 t24 t25 row left eachc0) (impl_fill_v2.TL5 Pr.std rt kJ16_ kJ9_ told shift at0 t24 t25 row left eachc0) := by
  unfold impl_fill_v2.TL5
  exact (Le.cond (Le.ite (Le.ite (Le.ite (Le.ite (Le.ite (Le.ite (Le.ite (Le.ite (Le.ite (Le.ite (Le.ite (Le.ite (Le.ite (Le.ite (Le.cond (hkJ16 _ _ _ _ _ _ _ _) (Le.fi fun _ => (Le.fi fun _ => (hkJ9 _ _ _ _ _ _ _ _ _ _ _)))) Le.rfl') (Le.fi fun _ => (Le.fi fun _ => (hkJ9 _ _ _ _ _ _ _ _ _ _ _)))) Le.rfl') (hkJ16 _ _ _ _ _ _ _ _)) Le.rfl') (Le.ite (Le.ite (Le.ite (Le.cond (hkJ16 _ _ _ _ _ _ _ _) (Le.fi fun _ => (Le.fi fun _ => (hkJ9 _ _ _ _ _ _ _ _ _ _ _)))) Le.rfl') (Le.fi fun _ => (Le.fi fun _ => (hkJ9 _ _ _ _ _ _ _ _ _ _ _)))) Le.rfl')) Le.rfl') (hkJ16 _ _ _ _ _ _ _ _)) Le.rfl') Le.rfl') (hkJ16 _ _ _ _ _ _ _ _)) (hkJ16 _ _ _ _ _ _ _ _)) Le.rfl') Le.rfl') Le.rfl')
def impl_fill_v2.TJ16 {α : Type} (pr : Pr) (rt : (Bool × LI × LI × LI) → Option α) (kL5 : LI → Int → Int → Int → Int → LI → LI → LI → Option α) (told : LI) (shift at0 t24 t25 : Int) (row left eachc0 : LI) : Option α :=
  pr.fi (pr.wr .i64 (t25 + 1)) fun y4 => kL5 told shift at0 t24 y4 row left eachc0
theorem impl_fill_v2.QJ16_eq (dep : Nat) (told : LI) (shift at0 t24 t25 : Int) (row left eachc0 : LI) : impl_fill_v2.QJ16 dep told shift at0 t24 t25 row left eachc0 = impl_fill_v2.TJ16 Pr.std (fun b => some (impl_fill_v2.ret b)) (impl_fill_v2.QL5 dep) told shift at0 t24 t25 row left eachc0 := (eval_seg (impl_fill_v2.lin dep) 1000000 _ _).trans (by kernel_rfl)
theorem impl_fill_v2.XJ16_eq (dep : Nat) (told : LI) (shift at0 t24 t25 : Int) (row left eachc0 : LI) : impl_fill_v2.XJ16 dep told shift at0 t24 t25 row left eachc0 = impl_fill_v2.TJ16 Pr.std some (impl_fill_v2.XL5 dep) told shift at0 t24 t25 row left eachc0 := by
  show dec impl_fill_v2.ret (impl_fill_v2.QJ16 dep told shift at0 t24 t25 row left eachc0) = _
  rw [impl_fill_v2.QJ16_eq]
  simp only [impl_fill_v2.TJ16, std_fi, std_fb, std_fl, std_fll, std_flll, std_flb, std_fh, dec_ite, dec_cond, dec_bind, dec_elim, dec_none, impl_fill_v2.dc]
  try rfl
theorem impl_fill_v2.TJ16_mono {α : Type} {rt : (Bool × LI × LI × LI) → Option α} {kL5 kL5_ : LI → Int → Int → Int → Int → LI → LI → LI → Option α} (hkL5 : ∀ x0 x1 x2 x3 x4 x5 x6 x7, Le (kL5 x0 x1 x2 x3 x4 x5 x6 x7) (kL5_ x0 x1 x2 x3 x4 x5 x6 x7)) {told : LI} {shift at0 t24 t25 : Int} {row left eachc0 : LI} : Le (impl_fill_v2.TJ16 Pr.std rt kL5 told shift at0 t24 t25 row left eachc0) (impl_fill_v2.TJ16 Pr.std rt kL5_ told shift at0 t24 t25 row left eachc0) := by
  unfold impl_fill_v2.TJ16
  exact (Le.fi fun _ => (hkL5 _ _ _ _ _ _ _ _))
def impl_fill_v2.TJ9 {α : Type} (pr : Pr) (rt : (Bool × LI × LI × LI) → Option α) (kJ16a : LI → Int → Int → Int → Int → LI → LI → LI → Option α) (self : (LI × Int × LI × LI × LI) → Option (Bool × LI × LI × LI)) (told : LI) (shift at0 i n to t24 t25 : Int) (row left eachc0 : LI) : Option α :=
  if (pr.inR at0 row.length) then
    if ((pr.nlt ((at0).toNat) row.length) && true) then
      if (pr.inR to ((pr.st row ((at0).toNat) n).length)) then
        if ((pr.nlt ((to).toNat) (pr.st row ((at0).toNat) n).length) && true) then
          if (pr.inR i left.length) then
            if ((pr.nlt ((i).toNat) left.length) && true) then
              pr.fl (pr.st (pr.st row ((at0).toNat) n) ((to).toNat) n) fun y2 => pr.fl (pr.st left ((i).toNat) (0 : Int)) fun y3 => (self (told, shift, y2, y3, eachc0)).bind fun rr1 =>
                if (pr.inR i rr1.2.2.1.length) then
                  if ((pr.nlt ((i).toNat) rr1.2.2.1.length) && true) then
                    if (pr.inR at0 rr1.2.1.length) then
                      if ((pr.nlt ((at0).toNat) rr1.2.1.length) && true) then
                        if (pr.inR to ((pr.st rr1.2.1 ((at0).toNat) (-1 : Int)).length)) then
                          if ((pr.nlt ((to).toNat) (pr.st rr1.2.1 ((at0).toNat) (-1 : Int)).length) && true) then
                            bif rr1.1 then
                              pr.fl (pr.st (pr.st rr1.2.1 ((at0).toNat) (-1 : Int)) ((to).toNat) (-1 : Int)) fun y1 => pr.fl (pr.st rr1.2.2.1 ((i).toNat) n) fun y2 => pr.fh rr1.2.2.2 fun y3 => rt (true, y1, y2, y3)
                            else
                              pr.fl (pr.st (pr.st rr1.2.1 ((at0).toNat) (-1 : Int)) ((to).toNat) (-1 : Int)) fun y5 => pr.fl (pr.st rr1.2.2.1 ((i).toNat) n) fun y6 => pr.fh rr1.2.2.2 fun y7 => kJ16a told shift at0 t24 t25 y5 y6 y7
                          else
                            none
                        else
                          none
                      else
                        none
                    else
                      none
                  else
                    none
                else
                  none
            else
              none
          else
            none
        else
          none
      else
        none
    else
      none
  else
    none
theorem impl_fill_v2.QJ9_eq (dep : Nat) (told : LI) (shift at0 i n to t24 t25 : Int) (row left eachc0 : LI) : impl_fill_v2.QJ9 dep told shift at0 i n to t24 t25 row left eachc0 = impl_fill_v2.TJ9 Pr.std (fun b => some (impl_fill_v2.ret b)) (impl_fill_v2.QJ16a dep) (impl_fill_v2.X dep) told shift at0 i n to t24 t25 row left eachc0 := (eval_seg (impl_fill_v2.lin dep) 1000000 _ _).trans (by kernel_rfl)
theorem impl_fill_v2.XJ9_eq (dep : Nat) (told : LI) (shift at0 i n to t24 t25 : Int) (row left eachc0 : LI) : impl_fill_v2.XJ9 dep told shift at0 i n to t24 t25 row left eachc0 = impl_fill_v2.TJ9 Pr.std some (impl_fill_v2.XJ16a dep) (impl_fill_v2.X dep) told shift at0 i n to t24 t25 row left eachc0 := by
  show dec impl_fill_v2.ret (impl_fill_v2.QJ9 dep told shift at0 i n to t24 t25 row left eachc0) = _
  rw [impl_fill_v2.QJ9_eq]
  simp only [impl_fill_v2.TJ9, std_fi, std_fb, std_fl, std_fll, std_flll, std_flb, std_fh, dec_ite, dec_cond, dec_bind, dec_elim, dec_none, impl_fill_v2.dc]
  try rfl
theorem impl_fill_v2.TJ9_mono {α : Type} {rt : (Bool × LI × LI × LI) → Option α} {kJ16a kJ16a_ : LI → Int → Int → Int → Int → LI → LI → LI → Option α} (hkJ16a : ∀ x0 x1 x2 x3 x4 x5 x6 x7, Le (kJ16a x0 x1 x2 x3 x4 x5 x6 x7) (kJ16a_ x0 x1 x2 x3 x4 x5 x6 x7)) {self self_ : (LI × Int × LI × LI × LI) → Option (Bool × LI × LI × LI)} (hself : ∀ x, Le (self x) (self_ x)) {told : LI} {shift at0 i n to t24 t25 : Int} {row left eachc0 : LI} : Le (impl_fill_v2.TJ9 Pr.std rt kJ16a self told shift at0 i n to t24 t25 row left eachc0) (impl_fill_v2.TJ9 Pr.std rt kJ16a_ self_ told shift at0 i n to t24 t25 row left eachc0) := by
  unfold impl_fill_v2.TJ9
  exact (Le.ite (Le.ite (Le.ite (Le.ite (Le.ite (Le.ite (Le.fl fun _ => (Le.fl fun _ => (Le.bind (hself _) (fun rr1 => (Le.ite (Le.ite (Le.ite (Le.ite (Le.ite (Le.ite (Le.cond Le.rfl' (Le.fl fun _ => (Le.fl fun _ => (Le.fh fun _ => (hkJ16a _ _ _ _ _ _ _ _))))) Le.rfl') Le.rfl') Le.rfl') Le.rfl') Le.rfl') Le.rfl'))))) Le.rfl') Le.rfl') Le.rfl') Le.rfl') Le.rfl') Le.rfl')
def impl_fill_v2.TJ16a {α : Type} (pr : Pr) (rt : (Bool × LI × LI × LI) → Option α) (kL5a : LI → Int → Int → Int → Int → LI → LI → LI → Option α) (told : LI) (shift at0 t24 t25 : Int) (row left eachc0 : LI) : Option α :=
  pr.fi (pr.wr .i64 (t25 + 1)) fun y4 => kL5a told shift at0 t24 y4 row left eachc0
theorem impl_fill_v2.QJ16a_eq (dep : Nat) (told : LI) (shift at0 t24 t25 : Int) (row left eachc0 : LI) : impl_fill_v2.QJ16a dep told shift at0 t24 t25 row left eachc0 = impl_fill_v2.TJ16a Pr.std (fun b => some (impl_fill_v2.ret b)) (impl_fill_v2.QL5a dep) told shift at0 t24 t25 row left eachc0 := (eval_seg (impl_fill_v2.lin dep) 1000000 _ _).trans (by kernel_rfl)
theorem impl_fill_v2.XJ16a_eq (dep : Nat) (told : LI) (shift at0 t24 t25 : Int) (row left eachc0 : LI) : impl_fill_v2.XJ16a dep told shift at0 t24 t25 row left eachc0 = impl_fill_v2.TJ16a Pr.std some (impl_fill_v2.XL5a dep) told shift at0 t24 t25 row left eachc0 := by
  show dec impl_fill_v2.ret (impl_fill_v2.QJ16a dep told shift at0 t24 t25 row left eachc0) = _
  rw [impl_fill_v2.QJ16a_eq]
  simp only [impl_fill_v2.TJ16a, std_fi, std_fb, std_fl, std_fll, std_flll, std_flb, std_fh, dec_ite, dec_cond, dec_bind, dec_elim, dec_none, impl_fill_v2.dc]
  try rfl
theorem impl_fill_v2.TJ16a_mono {α : Type} {rt : (Bool × LI × LI × LI) → Option α} {kL5a kL5a_ : LI → Int → Int → Int → Int → LI → LI → LI → Option α} (hkL5a : ∀ x0 x1 x2 x3 x4 x5 x6 x7, Le (kL5a x0 x1 x2 x3 x4 x5 x6 x7) (kL5a_ x0 x1 x2 x3 x4 x5 x6 x7)) {told : LI} {shift at0 t24 t25 : Int} {row left eachc0 : LI} : Le (impl_fill_v2.TJ16a Pr.std rt kL5a told shift at0 t24 t25 row left eachc0) (impl_fill_v2.TJ16a Pr.std rt kL5a_ told shift at0 t24 t25 row left eachc0) := by
  unfold impl_fill_v2.TJ16a
  exact (Le.fi fun _ => (hkL5a _ _ _ _ _ _ _ _))
def impl_fill_v2.TL5a {α : Type} (pr : Pr) (rt : (Bool × LI × LI × LI) → Option α) (kJ16a : LI → Int → Int → Int → Int → LI → LI → LI → Option α) (kJ9a : LI → Int → Int → Int → Int → Int → Int → Int → LI → LI → LI → Option α) (told : LI) (shift at0 t24 t25 : Int) (row left eachc0 : LI) : Option α :=
  bif (pr.lt t25 t24) then
    if (pr.inR t25 left.length) then
      if (pr.nlt ((t25).toNat) left.length) then
        if (!(pr.eq (pr.gd left ((t25).toNat) 0) 0)) then
          if (!(pr.ge (pr.wr .i64 ((pr.wr .i64 (at0 + (pr.gd left ((t25).toNat) 0))) + shift)) ((row.length : Nat) : Int))) then
            if (pr.inR (pr.wr .i64 ((pr.wr .i64 (at0 + (pr.gd left ((t25).toNat) 0))) + shift)) row.length) then
              if (pr.nlt (((pr.wr .i64 ((pr.wr .i64 (at0 + (pr.gd left ((t25).toNat) 0))) + shift))).toNat) row.length) then
                if (!(pr.ne (pr.gd row (((pr.wr .i64 ((pr.wr .i64 (at0 + (pr.gd left ((t25).toNat) 0))) + shift))).toNat) 0) (-1))) then
                  if (pr.inR at0 told.length) then
                    if (pr.ne (pr.gd told ((at0).toNat) 0) 0) then
                      if (pr.inR at0 told.length) then
                        if (!(pr.ne (pr.gd told ((at0).toNat) 0) (pr.gd left ((t25).toNat) 0))) then
                          if (pr.inR (pr.wr .i64 ((pr.wr .i64 (at0 + (pr.gd left ((t25).toNat) 0))) + shift)) told.length) then
                            if (pr.ne (pr.gd told (((pr.wr .i64 ((pr.wr .i64 (at0 + (pr.gd left ((t25).toNat) 0))) + shift))).toNat) 0) 0) then
                              if (pr.inR (pr.wr .i64 ((pr.wr .i64 (at0 + (pr.gd left ((t25).toNat) 0))) + shift)) told.length) then
                                bif (pr.ne (pr.gd told (((pr.wr .i64 ((pr.wr .i64 (at0 + (pr.gd left ((t25).toNat) 0))) + shift))).toNat) 0) (pr.gd left ((t25).toNat) 0)) then
                                  kJ16a told shift at0 t24 t25 row left eachc0
                                else
                                  pr.fi (pr.gd left ((t25).toNat) 0) fun y4 => pr.fi (pr.wr .i64 ((pr.wr .i64 (at0 + (pr.gd left ((t25).toNat) 0))) + shift)) fun y5 => kJ9a told shift at0 t25 y4 y5 t24 t25 row left eachc0
                              else
                                none
                            else
                              pr.fi (pr.gd left ((t25).toNat) 0) fun y4 => pr.fi (pr.wr .i64 ((pr.wr .i64 (at0 + (pr.gd left ((t25).toNat) 0))) + shift)) fun y5 => kJ9a told shift at0 t25 y4 y5 t24 t25 row left eachc0
                          else
                            none
                        else
                          kJ16a told shift at0 t24 t25 row left eachc0
                      else
                        none
                    else
                      if (pr.inR (pr.wr .i64 ((pr.wr .i64 (at0 + (pr.gd left ((t25).toNat) 0))) + shift)) told.length) then
                        if (pr.ne (pr.gd told (((pr.wr .i64 ((pr.wr .i64 (at0 + (pr.gd left ((t25).toNat) 0))) + shift))).toNat) 0) 0) then
                          if (pr.inR (pr.wr .i64 ((pr.wr .i64 (at0 + (pr.gd left ((t25).toNat) 0))) + shift)) told.length) then
                            bif (pr.ne (pr.gd told (((pr.wr .i64 ((pr.wr .i64 (at0 + (pr.gd left ((t25).toNat) 0))) + shift))).toNat) 0) (pr.gd left ((t25).toNat) 0)) then
                              kJ16a told shift at0 t24 t25 row left eachc0
                            else
                              pr.fi (pr.gd left ((t25).toNat) 0) fun y4 => pr.fi (pr.wr .i64 ((pr.wr .i64 (at0 + (pr.gd left ((t25).toNat) 0))) + shift)) fun y5 => kJ9a told shift at0 t25 y4 y5 t24 t25 row left eachc0
                          else
                            none
                        else
                          pr.fi (pr.gd left ((t25).toNat) 0) fun y4 => pr.fi (pr.wr .i64 ((pr.wr .i64 (at0 + (pr.gd left ((t25).toNat) 0))) + shift)) fun y5 => kJ9a told shift at0 t25 y4 y5 t24 t25 row left eachc0
                      else
                        none
                  else
                    none
                else
                  kJ16a told shift at0 t24 t25 row left eachc0
              else
                none
            else
              none
          else
            kJ16a told shift at0 t24 t25 row left eachc0
        else
          kJ16a told shift at0 t24 t25 row left eachc0
      else
        none
    else
      none
  else
    rt (false, row, left, eachc0)
theorem impl_fill_v2.QL5a_eq (dep : Nat) (told : LI) (shift at0 t24 t25 : Int) (row left eachc0 : LI) : impl_fill_v2.QL5a dep told shift at0 t24 t25 row left eachc0 = impl_fill_v2.TL5a Pr.std (fun b => some (impl_fill_v2.ret b)) (impl_fill_v2.QJ16a dep) (impl_fill_v2.QJ9a dep) told shift at0 t24 t25 row left eachc0 := (eval_seg (impl_fill_v2.lin dep) 1000000 _ _).trans (by kernel_rfl)
theorem impl_fill_v2.XL5a_eq (dep : Nat) (told : LI) (shift at0 t24 t25 : Int) (row left eachc0 : LI) : impl_fill_v2.XL5a dep told shift at0 t24 t25 row left eachc0 = impl_fill_v2.TL5a Pr.std some (impl_fill_v2.XJ16a dep) (impl_fill_v2.XJ9a dep) told shift at0 t24 t25 row left eachc0 := by
  show dec impl_fill_v2.ret (impl_fill_v2.QL5a dep told shift at0 t24 t25 row left eachc0) = _
  rw [impl_fill_v2.QL5a_eq]
  simp only [impl_fill_v2.TL5a, std_fi, std_fb, std_fl, std_fll, std_flll, std_flb, std_fh, dec_ite, dec_cond, dec_bind, dec_elim, dec_none, impl_fill_v2.dc]
  try rfl
theorem impl_fill_v2.TL5a_mono {α : Type} {rt : (Bool × LI × LI × LI) → Option α} {kJ16a kJ16a_ : LI → Int → Int → Int → Int → LI → LI → LI → Option α} (hkJ16a : ∀ x0 x1 x2 x3 x4 x5 x6 x7, Le (kJ16a x0 x1 x2 x3 x4 x5 x6 x7) (kJ16a_ x0 x1 x2 x3 x4 x5 x6 x7)) {kJ9a kJ9a_ : LI → Int → Int → Int → Int → Int → Int → Int → LI → LI → LI → Option α} (hkJ9a : ∀ x0 x1 x2 x3 x4 x5 x6 x7 x8 x9 x10, Le (kJ9a x0 x1 x2 x3 x4 x5 x6 x7 x8 x9 x10) (kJ9a_ x0 x1 x2 x3 x4 x5 x6 x7 x8 x9 x10)) {told : LI} {shift at0 t24 t25 : Int} {row left eachc0 : LI} : Le (impl_fill_v2.TL5a Pr.std rt kJ16a kJ9a told shift at0 t24 t25 row left eachc0) (impl_fill_v2.TL5a Pr.std rt kJ16a_ kJ9a_ told shift at0 t24 t25 row left eachc0) := by
  unfold impl_fill_v2.TL5a
  exact (Le.cond (Le.ite (Le.ite (Le.ite (Le.ite (Le.ite (Le.ite (Le.ite (Le.ite (Le.ite (Le.ite (Le.ite (Le.ite (Le.ite (Le.ite (Le.cond (hkJ16a _ _ _ _ _ _ _ _) (Le.fi fun _ => (Le.fi fun _ => (hkJ9a _ _ _ _ _ _ _ _ _ _ _)))) Le.rfl') (Le.fi fun _ => (Le.fi fun _ => (hkJ9a _ _ _ _ _ _ _ _ _ _ _)))) Le.rfl') (hkJ16a _ _ _ _ _ _ _ _)) Le.rfl') (Le.ite (Le.ite (Le.ite (Le.cond (hkJ16a _ _ _ _ _ _ _ _) (Le.fi fun _ => (Le.fi fun _ => (hkJ9a _ _ _ _ _ _ _ _ _ _ _)))) Le.rfl') (Le.fi fun _ => (Le.fi fun _ => (hkJ9a _ _ _ _ _ _ _ _ _ _ _)))) Le.rfl')) Le.rfl') (hkJ16a _ _ _ _ _ _ _ _)) Le.rfl') Le.rfl') (hkJ16a _ _ _ _ _ _ _ _)) (hkJ16a _ _ _ _ _ _ _ _)) Le.rfl') Le.rfl') Le.rfl')
def impl_fill_v2.TJ9a {α : Type} (pr : Pr) (rt : (Bool × LI × LI × LI) → Option α) (kJ16a : LI → Int → Int → Int → Int → LI → LI → LI → Option α) (self : (LI × Int × LI × LI × LI) → Option (Bool × LI × LI × LI)) (told : LI) (shift at0 i n to t24 t25 : Int) (row left eachc0 : LI) : Option α :=
  if (pr.inR at0 row.length) then
    if ((pr.nlt ((at0).toNat) row.length) && true) then
      if (pr.inR to ((pr.st row ((at0).toNat) n).length)) then
        if ((pr.nlt ((to).toNat) (pr.st row ((at0).toNat) n).length) && true) then
          if (pr.inR i left.length) then
            if ((pr.nlt ((i).toNat) left.length) && true) then
              pr.fl (pr.st (pr.st row ((at0).toNat) n) ((to).toNat) n) fun y2 => pr.fl (pr.st left ((i).toNat) (0 : Int)) fun y3 => (self (told, shift, y2, y3, eachc0)).bind fun rr1 =>
                if (pr.inR i rr1.2.2.1.length) then
                  if ((pr.nlt ((i).toNat) rr1.2.2.1.length) && true) then
                    if (pr.inR at0 rr1.2.1.length) then
                      if ((pr.nlt ((at0).toNat) rr1.2.1.length) && true) then
                        if (pr.inR to ((pr.st rr1.2.1 ((at0).toNat) (-1 : Int)).length)) then
                          if ((pr.nlt ((to).toNat) (pr.st rr1.2.1 ((at0).toNat) (-1 : Int)).length) && true) then
                            bif rr1.1 then
                              pr.fl (pr.st (pr.st rr1.2.1 ((at0).toNat) (-1 : Int)) ((to).toNat) (-1 : Int)) fun y1 => pr.fl (pr.st rr1.2.2.1 ((i).toNat) n) fun y2 => pr.fh rr1.2.2.2 fun y3 => rt (true, y1, y2, y3)
                            else
                              pr.fl (pr.st (pr.st rr1.2.1 ((at0).toNat) (-1 : Int)) ((to).toNat) (-1 : Int)) fun y5 => pr.fl (pr.st rr1.2.2.1 ((i).toNat) n) fun y6 => pr.fh rr1.2.2.2 fun y7 => kJ16a told shift at0 t24 t25 y5 y6 y7
                          else
                            none
                        else
                          none
                      else
                        none
                    else
                      none
                  else
                    none
                else
                  none
            else
              none
          else
            none
        else
          none
      else
        none
    else
      none
  else
    none
theorem impl_fill_v2.QJ9a_eq (dep : Nat) (told : LI) (shift at0 i n to t24 t25 : Int) (row left eachc0 : LI) : impl_fill_v2.QJ9a dep told shift at0 i n to t24 t25 row left eachc0 = impl_fill_v2.TJ9a Pr.std (fun b => some (impl_fill_v2.ret b)) (impl_fill_v2.QJ16a dep) (impl_fill_v2.X dep) told shift at0 i n to t24 t25 row left eachc0 := (eval_seg (impl_fill_v2.lin dep) 1000000 _ _).trans (by kernel_rfl)
theorem impl_fill_v2.XJ9a_eq (dep : Nat) (told : LI) (shift at0 i n to t24 t25 : Int) (row left eachc0 : LI) : impl_fill_v2.XJ9a dep told shift at0 i n to t24 t25 row left eachc0 = impl_fill_v2.TJ9a Pr.std some (impl_fill_v2.XJ16a dep) (impl_fill_v2.X dep) told shift at0 i n to t24 t25 row left eachc0 := by
  show dec impl_fill_v2.ret (impl_fill_v2.QJ9a dep told shift at0 i n to t24 t25 row left eachc0) = _
  rw [impl_fill_v2.QJ9a_eq]
  simp only [impl_fill_v2.TJ9a, std_fi, std_fb, std_fl, std_fll, std_flll, std_flb, std_fh, dec_ite, dec_cond, dec_bind, dec_elim, dec_none, impl_fill_v2.dc]
  try rfl
theorem impl_fill_v2.TJ9a_mono {α : Type} {rt : (Bool × LI × LI × LI) → Option α} {kJ16a kJ16a_ : LI → Int → Int → Int → Int → LI → LI → LI → Option α} (hkJ16a : ∀ x0 x1 x2 x3 x4 x5 x6 x7, Le (kJ16a x0 x1 x2 x3 x4 x5 x6 x7) (kJ16a_ x0 x1 x2 x3 x4 x5 x6 x7)) {self self_ : (LI × Int × LI × LI × LI) → Option (Bool × LI × LI × LI)} (hself : ∀ x, Le (self x) (self_ x)) {told : LI} {shift at0 i n to t24 t25 : Int} {row left eachc0 : LI} : Le (impl_fill_v2.TJ9a Pr.std rt kJ16a self told shift at0 i n to t24 t25 row left eachc0) (impl_fill_v2.TJ9a Pr.std rt kJ16a_ self_ told shift at0 i n to t24 t25 row left eachc0) := by
  unfold impl_fill_v2.TJ9a
  exact (Le.ite (Le.ite (Le.ite (Le.ite (Le.ite (Le.ite (Le.fl fun _ => (Le.fl fun _ => (Le.bind (hself _) (fun rr1 => (Le.ite (Le.ite (Le.ite (Le.ite (Le.ite (Le.ite (Le.cond Le.rfl' (Le.fl fun _ => (Le.fl fun _ => (Le.fh fun _ => (hkJ16a _ _ _ _ _ _ _ _))))) Le.rfl') Le.rfl') Le.rfl') Le.rfl') Le.rfl') Le.rfl'))))) Le.rfl') Le.rfl') Le.rfl') Le.rfl') Le.rfl') Le.rfl')
noncomputable def impl_fill_v2.Cs (fu : Nat) : (LI → Int → Int → Int → Int → LI → LI → LI → Option (Bool × LI × LI × LI)) × (LI → Int → Int → Int → Int → LI → LI → LI → Option (Bool × LI × LI × LI)) × (LI → Int → Int → Int → Int → Int → Int → Int → LI → LI → LI → Option (Bool × LI × LI × LI)) × (LI → Int → Int → Int → Int → LI → LI → LI → Option (Bool × LI × LI × LI)) × (LI → Int → Int → Int → Int → LI → LI → LI → Option (Bool × LI × LI × LI)) × (LI → Int → Int → Int → Int → Int → Int → Int → LI → LI → LI → Option (Bool × LI × LI × LI)) × ((LI × Int × LI × LI × LI) → Option (Bool × LI × LI × LI)) := @Nat.rec (fun _ => (LI → Int → Int → Int → Int → LI → LI → LI → Option (Bool × LI × LI × LI)) × (LI → Int → Int → Int → Int → LI → LI → LI → Option (Bool × LI × LI × LI)) × (LI → Int → Int → Int → Int → Int → Int → Int → LI → LI → LI → Option (Bool × LI × LI × LI)) × (LI → Int → Int → Int → Int → LI → LI → LI → Option (Bool × LI × LI × LI)) × (LI → Int → Int → Int → Int → LI → LI → LI → Option (Bool × LI × LI × LI)) × (LI → Int → Int → Int → Int → Int → Int → Int → LI → LI → LI → Option (Bool × LI × LI × LI)) × ((LI × Int × LI × LI × LI) → Option (Bool × LI × LI × LI))) ⟨fun _ _ _ _ _ _ _ _ => none, fun _ _ _ _ _ _ _ _ => none, fun _ _ _ _ _ _ _ _ _ _ _ => none, fun _ _ _ _ _ _ _ _ => none, fun _ _ _ _ _ _ _ _ => none, fun _ _ _ _ _ _ _ _ _ _ _ => none, fun _ => none⟩ (fun fu pv => ⟨fun told shift at0 t24 t25 row left eachc0 => impl_fill_v2.TL5 Pr.quick some (pv.2.1) (pv.2.2.1) told shift at0 t24 t25 row left eachc0, fun told shift at0 t24 t25 row left eachc0 => impl_fill_v2.TJ16 Pr.quick some (pv.1) told shift at0 t24 t25 row left eachc0, fun told shift at0 i n to t24 t25 row left eachc0 => impl_fill_v2.TJ9 Pr.quick some (pv.2.2.2.1) (pv.2.2.2.2.2.2) told shift at0 i n to t24 t25 row left eachc0, fun told shift at0 t24 t25 row left eachc0 => impl_fill_v2.TJ16a Pr.quick some (pv.2.2.2.2.1) told shift at0 t24 t25 row left eachc0, fun told shift at0 t24 t25 row left eachc0 => impl_fill_v2.TL5a Pr.quick some (pv.2.2.2.1) (pv.2.2.2.2.2.1) told shift at0 t24 t25 row left eachc0, fun told shift at0 i n to t24 t25 row left eachc0 => impl_fill_v2.TJ9a Pr.quick some (pv.2.2.2.1) (pv.2.2.2.2.2.2) told shift at0 i n to t24 t25 row left eachc0, fun a => impl_fill_v2.T Pr.quick some (pv.1) (slices_Index_int_int.C fu) (impl_kind_first_1.C fu) a.1 a.2.1 a.2.2.1 a.2.2.2.1 a.2.2.2.2⟩) fu
noncomputable def impl_fill_v2.CL5 (fu : Nat) : LI → Int → Int → Int → Int → LI → LI → LI → Option (Bool × LI × LI × LI) := (impl_fill_v2.Cs fu).1
noncomputable def impl_fill_v2.CJ16 (fu : Nat) : LI → Int → Int → Int → Int → LI → LI → LI → Option (Bool × LI × LI × LI) := (impl_fill_v2.Cs fu).2.1
noncomputable def impl_fill_v2.CJ9 (fu : Nat) : LI → Int → Int → Int → Int → Int → Int → Int → LI → LI → LI → Option (Bool × LI × LI × LI) := (impl_fill_v2.Cs fu).2.2.1
noncomputable def impl_fill_v2.CJ16a (fu : Nat) : LI → Int → Int → Int → Int → LI → LI → LI → Option (Bool × LI × LI × LI) := (impl_fill_v2.Cs fu).2.2.2.1
noncomputable def impl_fill_v2.CL5a (fu : Nat) : LI → Int → Int → Int → Int → LI → LI → LI → Option (Bool × LI × LI × LI) := (impl_fill_v2.Cs fu).2.2.2.2.1
noncomputable def impl_fill_v2.CJ9a (fu : Nat) : LI → Int → Int → Int → Int → Int → Int → Int → LI → LI → LI → Option (Bool × LI × LI × LI) := (impl_fill_v2.Cs fu).2.2.2.2.2.1
noncomputable def impl_fill_v2.C (fu : Nat) : (LI × Int × LI × LI × LI) → Option (Bool × LI × LI × LI) := (impl_fill_v2.Cs fu).2.2.2.2.2.2
theorem impl_fill_v2.C_okd : ∀ fu dep, fu ≤ dep → dep ≤ 100000 → (∀ a, Le (impl_fill_v2.C fu a) (impl_fill_v2.X dep a)) ∧ (∀ told shift at0 t24 t25 row left eachc0, Le (impl_fill_v2.CL5 fu told shift at0 t24 t25 row left eachc0) (impl_fill_v2.XL5 dep told shift at0 t24 t25 row left eachc0)) ∧ (∀ told shift at0 t24 t25 row left eachc0, Le (impl_fill_v2.CJ16 fu told shift at0 t24 t25 row left eachc0) (impl_fill_v2.XJ16 dep told shift at0 t24 t25 row left eachc0)) ∧ (∀ told shift at0 i n to t24 t25 row left eachc0, Le (impl_fill_v2.CJ9 fu told shift at0 i n to t24 t25 row left eachc0) (impl_fill_v2.XJ9 dep told shift at0 i n to t24 t25 row left eachc0)) ∧ (∀ told shift at0 t24 t25 row left eachc0, Le (impl_fill_v2.CJ16a fu told shift at0 t24 t25 row left eachc0) (impl_fill_v2.XJ16a dep told shift at0 t24 t25 row left eachc0)) ∧ (∀ told shift at0 t24 t25 row left eachc0, Le (impl_fill_v2.CL5a fu told shift at0 t24 t25 row left eachc0) (impl_fill_v2.XL5a dep told shift at0 t24 t25 row left eachc0)) ∧ (∀ told shift at0 i n to t24 t25 row left eachc0, Le (impl_fill_v2.CJ9a fu told shift at0 i n to t24 t25 row left eachc0) (impl_fill_v2.XJ9a dep told shift at0 i n to t24 t25 row left eachc0))
  | 0, dep, _, _ => by
    refine ⟨?_, ?_, ?_, ?_, ?_, ?_, ?_⟩
    all_goals (intros; exact Le.none)
  | fu + 1, dep, hd, hd2 => by
    obtain ⟨dep, rfl⟩ : ∃ e, dep = e + 1 := ⟨dep - 1, by omega⟩
    have ih := fun e (he : fu ≤ e) (he2 : e ≤ 100000) => impl_fill_v2.C_okd fu e he he2
    refine ⟨?_, ?_, ?_, ?_, ?_, ?_, ?_⟩
    · intro a
      obtain ⟨told, shift, row, left, eachc0⟩ := a
      show Le (impl_fill_v2.T Pr.quick some (impl_fill_v2.CL5 fu) (slices_Index_int_int.C fu) (impl_kind_first_1.C fu) told shift row left eachc0) _
      rw [Pr.quick_eq, impl_fill_v2.X_eq]
      exact impl_fill_v2.T_mono ((ih dep (by omega) (by omega)).2.1) (fun x => slices_Index_int_int.C_ok fu (by omega) x) (fun x => impl_kind_first_1.C_ok fu (by omega) x)
    · intro told shift at0 t24 t25 row left eachc0
      show Le (impl_fill_v2.TL5 Pr.quick some (impl_fill_v2.CJ16 fu) (impl_fill_v2.CJ9 fu) told shift at0 t24 t25 row left eachc0) _
      rw [Pr.quick_eq, impl_fill_v2.XL5_eq]
      exact impl_fill_v2.TL5_mono ((ih (dep + 1) (by omega) (by omega)).2.2.1) ((ih (dep + 1) (by omega) (by omega)).2.2.2.1)
    · intro told shift at0 t24 t25 row left eachc0
      show Le (impl_fill_v2.TJ16 Pr.quick some (impl_fill_v2.CL5 fu) told shift at0 t24 t25 row left eachc0) _
      rw [Pr.quick_eq, impl_fill_v2.XJ16_eq]
      exact impl_fill_v2.TJ16_mono ((ih (dep + 1) (by omega) (by omega)).2.1)
    · intro told shift at0 i n to t24 t25 row left eachc0
      show Le (impl_fill_v2.TJ9 Pr.quick some (impl_fill_v2.CJ16a fu) (impl_fill_v2.C fu) told shift at0 i n to t24 t25 row left eachc0) _
      rw [Pr.quick_eq, impl_fill_v2.XJ9_eq]
      exact impl_fill_v2.TJ9_mono ((ih (dep + 1) (by omega) (by omega)).2.2.2.2.1) ((ih (dep + 1) (by omega) (by omega)).1)
    · intro told shift at0 t24 t25 row left eachc0
      show Le (impl_fill_v2.TJ16a Pr.quick some (impl_fill_v2.CL5a fu) told shift at0 t24 t25 row left eachc0) _
      rw [Pr.quick_eq, impl_fill_v2.XJ16a_eq]
      exact impl_fill_v2.TJ16a_mono ((ih (dep + 1) (by omega) (by omega)).2.2.2.2.2.1)
    · intro told shift at0 t24 t25 row left eachc0
      show Le (impl_fill_v2.TL5a Pr.quick some (impl_fill_v2.CJ16a fu) (impl_fill_v2.CJ9a fu) told shift at0 t24 t25 row left eachc0) _
      rw [Pr.quick_eq, impl_fill_v2.XL5a_eq]
      exact impl_fill_v2.TL5a_mono ((ih (dep + 1) (by omega) (by omega)).2.2.2.2.1) ((ih (dep + 1) (by omega) (by omega)).2.2.2.2.2.2)
    · intro told shift at0 i n to t24 t25 row left eachc0
      show Le (impl_fill_v2.TJ9a Pr.quick some (impl_fill_v2.CJ16a fu) (impl_fill_v2.C fu) told shift at0 i n to t24 t25 row left eachc0) _
      rw [Pr.quick_eq, impl_fill_v2.XJ9a_eq]
      exact impl_fill_v2.TJ9a_mono ((ih (dep + 1) (by omega) (by omega)).2.2.2.2.1) ((ih (dep + 1) (by omega) (by omega)).1)
theorem impl_fill_v2.C_ok (fu : Nat) (hfu : fu ≤ 100000) (a : LI × Int × LI × LI × LI) : Le (impl_fill_v2.C fu a) (impl_fill_v2.XX a) := (impl_fill_v2.C_okd fu 100000 hfu (Nat.le_refl _)).1 a
end Go.VS
