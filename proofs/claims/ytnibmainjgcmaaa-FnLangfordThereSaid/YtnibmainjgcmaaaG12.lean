/- printed by gen.py: a part of the walk through the program. No condition. -/
import Derived.Test.YtnibmainjgcmaaaG11
set_option linter.unusedVariables false
set_option linter.unusedSimpArgs false
set_option maxRecDepth 100000
namespace Go.VS
/-! ### loop.example/g01232/impl.RaiseRow -/
def impl_RaiseRow.s0 (a : LI × Int) : St := { slots := [.sl (.int .i64) a.1, .int .i64 a.2], rows := [], boxes := [] }
def impl_RaiseRow.pat : St → Option (LI × Int)
  | { slots := [.sl (.int .i64) row, .int .i64 k], rows := [], boxes := [], gd := [] } => some (row, k)
  | _ => none
theorem impl_RaiseRow.hp : ∀ st a, impl_RaiseRow.pat st = some a → st = impl_RaiseRow.s0 a := by
  intro st a h
  unfold impl_RaiseRow.pat at h
  split at h
  · cases h; rfl
  · cases h
def impl_RaiseRow.ret (r : Bool × LI) : R := ({ slots := [], rows := [(0, ⟨.int .i64, r.2⟩)], boxes := [] }, [.row 0, .bool r.1])
def impl_RaiseRow.ap (b : Bool × LI) (K : St → List V → Option R) : Option R := K (impl_RaiseRow.ret b).1 (impl_RaiseRow.ret b).2
theorem impl_RaiseRow.hap : ∀ b K, impl_RaiseRow.ap b K = K (impl_RaiseRow.ret b).1 (impl_RaiseRow.ret b).2 := fun _ _ => rfl
theorem impl_RaiseRow.inj : ∀ x y, impl_RaiseRow.ret x = impl_RaiseRow.ret y → x = y := by
  intro x y h
  obtain ⟨x1, x2⟩ := x; obtain ⟨y1, y2⟩ := y; cases h; rfl
theorem impl_RaiseRow.dc (x : Bool × LI) : dec impl_RaiseRow.ret (some (impl_RaiseRow.ret x)) = some x := dec_ret impl_RaiseRow.inj x
noncomputable def impl_RaiseRow.cx : Cx := { ty := TY, fns := [(56, impl_IsRow.E), (57, slices_Clone_int_int.E), (53, impl_isNumber.E)], nk := [], sharp := true }
noncomputable def impl_RaiseRow.body : Code := Go.Proofs.Try.f21.body.getD .skip
def impl_RaiseRow.fl : Fn := { loops := [(5, [(1, none), (6, none), (22, none), (23, none), (24, none)])], joins := [], nr := 0, nb := 0, rs := [.tmp 4, .tmp 5], pre := [(4, [some (.int .i64, false)])], mv := [], fz := [] }
noncomputable def impl_RaiseRow.Q (a : LI × Int) : Option R := eval impl_RaiseRow.cx impl_RaiseRow.fl [.code impl_RaiseRow.body] (start 44 (impl_RaiseRow.s0 a))
noncomputable def impl_RaiseRow.X (a : LI × Int) : Option (Bool × LI) := dec impl_RaiseRow.ret (impl_RaiseRow.Q a)
def impl_RaiseRow.sL5 (k : Int) (t22 : LI) (t23 t24 : Int) (out : LI) : St := { slots := [D, .int .i64 k, D, D, D, D, .row 1000384, D, D, D, D, D, D, D, D, D, D, D, D, D, D, D, .sl (.int .i64) t22, .int .i64 t23, .int .i64 t24, D, D, D, D, D, D, D, D, D, D, D, D, D, D, D, D, D, D, D], rows := [(1000384, ⟨.int .i64, out⟩)], boxes := [] }
noncomputable def impl_RaiseRow.tL5 : List It := (findL 5 impl_RaiseRow.body []).getD []
noncomputable def impl_RaiseRow.QL5 (k : Int) (t22 : LI) (t23 t24 : Int) (out : LI) : Option R := eval impl_RaiseRow.cx impl_RaiseRow.fl impl_RaiseRow.tL5 (impl_RaiseRow.sL5 k t22 t23 t24 out)
noncomputable def impl_RaiseRow.XL5 (k : Int) (t22 : LI) (t23 t24 : Int) (out : LI) : Option (Bool × LI) := dec impl_RaiseRow.ret (impl_RaiseRow.QL5 k t22 t23 t24 out)
theorem impl_RaiseRow.fns : FnsOk Go.Proofs.Try.prog impl_RaiseRow.cx := show FnsL _ _ from (fns_cons impl_IsRow.ok (fns_cons slices_Clone_int_int.ok (fns_cons impl_isNumber.ok fns_nil)))
theorem impl_RaiseRow.lin : impl_RaiseRow.cx.Lin := Lin.of_fns impl_RaiseRow.fns
noncomputable def impl_RaiseRow.E : Entry := mkE [] impl_RaiseRow.pat impl_RaiseRow.X impl_RaiseRow.ap
theorem impl_RaiseRow.ok : EntOk Go.Proofs.Try.prog 21 impl_RaiseRow.E := mkE_ok (fun w args => Go.Proofs.Try.call21 args w) impl_RaiseRow.hp impl_RaiseRow.hap fun a b h => vc_of_X mixed (tyB_ok (cx := impl_RaiseRow.cx) tyOk) impl_RaiseRow.fns (fl := impl_RaiseRow.fl) Go.Proofs.Try.func21 (code := impl_RaiseRow.body) (by kernel_rfl) (n := 44) (by kernel_rfl) (by kernel_rfl) (by decide) (by decide) rfl rfl h
def impl_RaiseRow.T {α : Type} (pr : Pr) (rt : (Bool × LI) → Option α) (kL5 : Int → LI → Int → Int → LI → Option α) (call_0 : LI → Option (Bool)) (call_1 : LI → Option LI) (row : LI) (k : Int) : Option α :=
  (call_0 row).bind fun rr1 =>
    if (!(!rr1)) then
      if (!(pr.lt k (-20))) then
        bif (pr.gt k 20) then
          rt (false, [])
        else
          (call_1 row).bind fun rr2 =>
            pr.fi ((row.length : Nat) : Int) fun y2 => pr.fh rr2 fun y4 => kL5 k row y2 0 y4
      else
        rt (false, [])
    else
      rt (false, [])
theorem impl_RaiseRow.Q_eq (row : LI) (k : Int) : impl_RaiseRow.Q (row, k) = impl_RaiseRow.T Pr.std (fun b => some (impl_RaiseRow.ret b)) (impl_RaiseRow.QL5) impl_IsRow.X slices_Clone_int_int.X row k := (eval_seg impl_RaiseRow.lin 1000000 _ _).trans (by kernel_rfl)
theorem impl_RaiseRow.X_eq (row : LI) (k : Int) : impl_RaiseRow.X (row, k) = impl_RaiseRow.T Pr.std some (impl_RaiseRow.XL5) impl_IsRow.X slices_Clone_int_int.X row k := by
  show dec impl_RaiseRow.ret (impl_RaiseRow.Q (row, k)) = _
  rw [impl_RaiseRow.Q_eq]
  simp only [impl_RaiseRow.T, std_fi, std_fb, std_fl, std_fll, std_flll, std_flb, std_fh, dec_ite, dec_cond, dec_bind, dec_elim, dec_none, impl_RaiseRow.dc]
  try rfl
theorem impl_RaiseRow.T_mono {α : Type} {rt : (Bool × LI) → Option α} {kL5 kL5_ : Int → LI → Int → Int → LI → Option α} (hkL5 : ∀ x0 x1 x2 x3 x4, Le (kL5 x0 x1 x2 x3 x4) (kL5_ x0 x1 x2 x3 x4)) {call_0 call_0_ : LI → Option (Bool)} (hcall_0 : ∀ x, Le (call_0 x) (call_0_ x)) {call_1 call_1_ : LI → Option LI} (hcall_1 : ∀ x, Le (call_1 x) (call_1_ x)) {row : LI} {k : Int} : Le (impl_RaiseRow.T Pr.std rt kL5 call_0 call_1 row k) (impl_RaiseRow.T Pr.std rt kL5_ call_0_ call_1_ row k) := by
  unfold impl_RaiseRow.T
  exact (Le.bind (hcall_0 _) (fun rr1 => (Le.ite (Le.ite (Le.cond Le.rfl' (Le.bind (hcall_1 _) (fun rr2 => (Le.fi fun _ => (Le.fh fun _ => (hkL5 _ _ _ _ _)))))) Le.rfl') Le.rfl')))
def impl_RaiseRow.TL5 {α : Type} (pr : Pr) (rt : (Bool × LI) → Option α) (kL5 : Int → LI → Int → Int → LI → Option α) (call_0 : (Int) → Option (Bool)) (k : Int) (t22 : LI) (t23 t24 : Int) (out : LI) : Option α :=
  bif (pr.lt t24 t23) then
    if (pr.inR t24 t22.length) then
      bif (pr.eq (pr.gd t22 ((t24).toNat) 0) 0) then
        pr.fi (pr.wr .i64 (t24 + 1)) fun y3 => kL5 k t22 t23 y3 out
      else
        pr.fi (pr.wr .i64 ((pr.gd t22 ((t24).toNat) 0) + k)) fun y0 => (call_0 y0).bind fun rr1 =>
          bif (!rr1) then
            rt (false, [])
          else
            if (pr.inR t24 out.length) then
              if ((pr.nlt ((t24).toNat) out.length) && true) then
                pr.fi (pr.wr .i64 (t24 + 1)) fun y3 => pr.fl (pr.st out ((t24).toNat) (pr.wr .i64 ((pr.gd t22 ((t24).toNat) 0) + k))) fun y4 => kL5 k t22 t23 y3 y4
              else
                none
            else
              none
    else
      none
  else
    rt (true, out)
theorem impl_RaiseRow.QL5_eq (k : Int) (t22 : LI) (t23 t24 : Int) (out : LI) : impl_RaiseRow.QL5 k t22 t23 t24 out = impl_RaiseRow.TL5 Pr.std (fun b => some (impl_RaiseRow.ret b)) (impl_RaiseRow.QL5) impl_isNumber.X k t22 t23 t24 out := (eval_seg impl_RaiseRow.lin 1000000 _ _).trans (by kernel_rfl)
theorem impl_RaiseRow.XL5_eq (k : Int) (t22 : LI) (t23 t24 : Int) (out : LI) : impl_RaiseRow.XL5 k t22 t23 t24 out = impl_RaiseRow.TL5 Pr.std some (impl_RaiseRow.XL5) impl_isNumber.X k t22 t23 t24 out := by
  show dec impl_RaiseRow.ret (impl_RaiseRow.QL5 k t22 t23 t24 out) = _
  rw [impl_RaiseRow.QL5_eq]
  simp only [impl_RaiseRow.TL5, std_fi, std_fb, std_fl, std_fll, std_flll, std_flb, std_fh, dec_ite, dec_cond, dec_bind, dec_elim, dec_none, impl_RaiseRow.dc]
  try rfl
theorem impl_RaiseRow.TL5_mono {α : Type} {rt : (Bool × LI) → Option α} {kL5 kL5_ : Int → LI → Int → Int → LI → Option α} (hkL5 : ∀ x0 x1 x2 x3 x4, Le (kL5 x0 x1 x2 x3 x4) (kL5_ x0 x1 x2 x3 x4)) {call_0 call_0_ : (Int) → Option (Bool)} (hcall_0 : ∀ x, Le (call_0 x) (call_0_ x)) {k : Int} {t22 : LI} {t23 t24 : Int} {out : LI} : Le (impl_RaiseRow.TL5 Pr.std rt kL5 call_0 k t22 t23 t24 out) (impl_RaiseRow.TL5 Pr.std rt kL5_ call_0_ k t22 t23 t24 out) := by
  unfold impl_RaiseRow.TL5
  exact (Le.cond (Le.ite (Le.cond (Le.fi fun _ => (hkL5 _ _ _ _ _)) (Le.fi fun _ => (Le.bind (hcall_0 _) (fun rr1 => (Le.cond Le.rfl' (Le.ite (Le.ite (Le.fi fun _ => (Le.fl fun _ => (hkL5 _ _ _ _ _))) Le.rfl') Le.rfl')))))) Le.rfl') Le.rfl')
noncomputable def impl_RaiseRow.Cs (fu : Nat) : (Int → LI → Int → Int → LI → Option (Bool × LI)) := @Nat.rec (fun _ => (Int → LI → Int → Int → LI → Option (Bool × LI))) (fun _ _ _ _ _ => none) (fun fu pv => fun k t22 t23 t24 out => impl_RaiseRow.TL5 Pr.quick some (pv) (impl_isNumber.C fu) k t22 t23 t24 out) fu
noncomputable def impl_RaiseRow.CL5 (fu : Nat) : Int → LI → Int → Int → LI → Option (Bool × LI) := (impl_RaiseRow.Cs fu)
noncomputable def impl_RaiseRow.C (fu : Nat) (a : LI × Int) : Option (Bool × LI) := impl_RaiseRow.T Pr.quick some (impl_RaiseRow.CL5 fu) (impl_IsRow.C fu) (slices_Clone_int_int.C fu) a.1 a.2
theorem impl_RaiseRow.C_okc : ∀ fu, fu ≤ 100000 → (∀ k t22 t23 t24 out, Le (impl_RaiseRow.CL5 fu k t22 t23 t24 out) (impl_RaiseRow.XL5 k t22 t23 t24 out))
  | 0, _ => by
    refine ?_
    all_goals (intros; exact Le.none)
  | fu + 1, hfu => by
    have ih := impl_RaiseRow.C_okc fu (by omega)
    refine ?_
    · intro k t22 t23 t24 out
      show Le (impl_RaiseRow.TL5 Pr.quick some (impl_RaiseRow.CL5 fu) (impl_isNumber.C fu) k t22 t23 t24 out) _
      rw [Pr.quick_eq, impl_RaiseRow.XL5_eq]
      exact impl_RaiseRow.TL5_mono (ih) (fun x => impl_isNumber.C_ok fu (by omega) x)
theorem impl_RaiseRow.C_ok (fu : Nat) (hfu : fu ≤ 100000) (a : LI × Int) : Le (impl_RaiseRow.C fu a) (impl_RaiseRow.X a) := by
  obtain ⟨row, k⟩ := a
  show Le (impl_RaiseRow.T Pr.quick some (impl_RaiseRow.CL5 fu) (impl_IsRow.C fu) (slices_Clone_int_int.C fu) row k) _
  rw [Pr.quick_eq, impl_RaiseRow.X_eq]
  exact impl_RaiseRow.T_mono ((impl_RaiseRow.C_okc fu hfu)) (fun x => impl_IsRow.C_ok fu hfu x) (fun x => slices_Clone_int_int.C_ok fu hfu x)
/-! ### loop.example/g01232/impl.isShift -/
def impl_isShift.s0 (a : Int) : St := { slots := [.int .i64 a], rows := [], boxes := [] }
def impl_isShift.pat : St → Option (Int)
  | { slots := [.int .i64 n], rows := [], boxes := [], gd := [] } => some n
  | _ => none
theorem impl_isShift.hp : ∀ st a, impl_isShift.pat st = some a → st = impl_isShift.s0 a := by
  intro st a h
  unfold impl_isShift.pat at h
  split at h
  · cases h; rfl
  · cases h
def impl_isShift.ret (r : Bool) : R := ({ slots := [], rows := [], boxes := [] }, [.bool r])
def impl_isShift.ap (b : Bool) (K : St → List V → Option R) : Option R := K (impl_isShift.ret b).1 (impl_isShift.ret b).2
theorem impl_isShift.hap : ∀ b K, impl_isShift.ap b K = K (impl_isShift.ret b).1 (impl_isShift.ret b).2 := fun _ _ => rfl
theorem impl_isShift.inj : ∀ x y, impl_isShift.ret x = impl_isShift.ret y → x = y := by
  intro x y h
  cases h; rfl
theorem impl_isShift.dc (x : Bool) : dec impl_isShift.ret (some (impl_isShift.ret x)) = some x := dec_ret impl_isShift.inj x
noncomputable def impl_isShift.cx : Cx := { ty := TY, fns := [], nk := [], sharp := true }
noncomputable def impl_isShift.body : Code := Go.Proofs.Try.f58.body.getD .skip
def impl_isShift.fl : Fn := { loops := [], joins := [], nr := 0, nb := 0, rs := [.tmp 2], pre := [], mv := [], fz := [] }
noncomputable def impl_isShift.Q (a : Int) : Option R := eval impl_isShift.cx impl_isShift.fl [.code impl_isShift.body] (start 9 (impl_isShift.s0 a))
noncomputable def impl_isShift.X (a : Int) : Option (Bool) := dec impl_isShift.ret (impl_isShift.Q a)
theorem impl_isShift.fns : FnsOk Go.Proofs.Try.prog impl_isShift.cx := show FnsL _ _ from fns_nil
theorem impl_isShift.lin : impl_isShift.cx.Lin := Lin.of_fns impl_isShift.fns
noncomputable def impl_isShift.E : Entry := mkE [] impl_isShift.pat impl_isShift.X impl_isShift.ap
theorem impl_isShift.ok : EntOk Go.Proofs.Try.prog 58 impl_isShift.E := mkE_ok (fun w args => Go.Proofs.Try.call58 args w) impl_isShift.hp impl_isShift.hap fun a b h => vc_of_X mixed (tyB_ok (cx := impl_isShift.cx) tyOk) impl_isShift.fns (fl := impl_isShift.fl) Go.Proofs.Try.func58 (code := impl_isShift.body) (by kernel_rfl) (n := 9) (by kernel_rfl) (by kernel_rfl) (by decide) (by decide) rfl rfl h
def impl_isShift.T {α : Type} (pr : Pr) (rt : Bool → Option α) (n : Int) : Option α :=
  if (!(pr.eq n 0)) then
    pr.fb (pr.eq n 1) fun y0 => rt y0
  else
    rt true
theorem impl_isShift.Q_eq (n : Int) : impl_isShift.Q n = impl_isShift.T Pr.std (fun b => some (impl_isShift.ret b)) n := (eval_seg impl_isShift.lin 1000000 _ _).trans (by kernel_rfl)
theorem impl_isShift.X_eq (n : Int) : impl_isShift.X n = impl_isShift.T Pr.std some n := by
  show dec impl_isShift.ret (impl_isShift.Q n) = _
  rw [impl_isShift.Q_eq]
  simp only [impl_isShift.T, std_fi, std_fb, std_fl, std_fll, std_flll, std_flb, std_fh, dec_ite, dec_cond, dec_bind, dec_elim, dec_none, impl_isShift.dc]
  try rfl
theorem impl_isShift.T_mono {α : Type} {rt : (Bool) → Option α} {n : Int} : Le (impl_isShift.T Pr.std rt n) (impl_isShift.T Pr.std rt n) := by
  unfold impl_isShift.T
  exact (Le.ite Le.rfl' Le.rfl')
noncomputable def impl_isShift.C (fu : Nat) (a : Int) : Option (Bool) := impl_isShift.T Pr.quick some a
theorem impl_isShift.C_ok (fu : Nat) (hfu : fu ≤ 100000) (a : Int) : Le (impl_isShift.C fu a) (impl_isShift.X a) := by
  show Le (impl_isShift.T Pr.quick some a) _
  rw [Pr.quick_eq, impl_isShift.X_eq]
  exact impl_isShift.T_mono
/-! ### loop.example/g01232/impl.FitsShift -/
def impl_FitsShift.s0 (a : LI × Int) : St := { slots := [.sl (.int .i64) a.1, .int .i64 a.2], rows := [], boxes := [] }
def impl_FitsShift.pat : St → Option (LI × Int)
  | { slots := [.sl (.int .i64) row, .int .i64 shift], rows := [], boxes := [], gd := [] } => some (row, shift)
  | _ => none
theorem impl_FitsShift.hp : ∀ st a, impl_FitsShift.pat st = some a → st = impl_FitsShift.s0 a := by
  intro st a h
  unfold impl_FitsShift.pat at h
  split at h
  · cases h; rfl
  · cases h
def impl_FitsShift.ret (r : Bool × Bool) : R := ({ slots := [], rows := [], boxes := [] }, [.bool r.1, .bool r.2])
def impl_FitsShift.ap (b : Bool × Bool) (K : St → List V → Option R) : Option R := K (impl_FitsShift.ret b).1 (impl_FitsShift.ret b).2
theorem impl_FitsShift.hap : ∀ b K, impl_FitsShift.ap b K = K (impl_FitsShift.ret b).1 (impl_FitsShift.ret b).2 := fun _ _ => rfl
theorem impl_FitsShift.inj : ∀ x y, impl_FitsShift.ret x = impl_FitsShift.ret y → x = y := by
  intro x y h
  obtain ⟨x1, x2⟩ := x; obtain ⟨y1, y2⟩ := y; cases h; rfl
theorem impl_FitsShift.dc (x : Bool × Bool) : dec impl_FitsShift.ret (some (impl_FitsShift.ret x)) = some x := dec_ret impl_FitsShift.inj x
noncomputable def impl_FitsShift.cx : Cx := { ty := TY, fns := [(54, impl_isPairs.E), (58, impl_isShift.E), (59, impl_fits.E)], nk := [], sharp := true }
noncomputable def impl_FitsShift.body : Code := Go.Proofs.Try.f22.body.getD .skip
def impl_FitsShift.fl : Fn := { loops := [], joins := [], nr := 0, nb := 0, rs := [.tmp 4, .tmp 5], pre := [], mv := [], fz := [] }
noncomputable def impl_FitsShift.Q (a : LI × Int) : Option R := eval impl_FitsShift.cx impl_FitsShift.fl [.code impl_FitsShift.body] (start 17 (impl_FitsShift.s0 a))
noncomputable def impl_FitsShift.X (a : LI × Int) : Option (Bool × Bool) := dec impl_FitsShift.ret (impl_FitsShift.Q a)
theorem impl_FitsShift.fns : FnsOk Go.Proofs.Try.prog impl_FitsShift.cx := show FnsL _ _ from (fns_cons impl_isPairs.ok (fns_cons impl_isShift.ok (fns_cons impl_fits.ok fns_nil)))
theorem impl_FitsShift.lin : impl_FitsShift.cx.Lin := Lin.of_fns impl_FitsShift.fns
noncomputable def impl_FitsShift.E : Entry := mkE [] impl_FitsShift.pat impl_FitsShift.X impl_FitsShift.ap
theorem impl_FitsShift.ok : EntOk Go.Proofs.Try.prog 22 impl_FitsShift.E := mkE_ok (fun w args => Go.Proofs.Try.call22 args w) impl_FitsShift.hp impl_FitsShift.hap fun a b h => vc_of_X mixed (tyB_ok (cx := impl_FitsShift.cx) tyOk) impl_FitsShift.fns (fl := impl_FitsShift.fl) Go.Proofs.Try.func22 (code := impl_FitsShift.body) (by kernel_rfl) (n := 17) (by kernel_rfl) (by kernel_rfl) (by decide) (by decide) rfl rfl h
def impl_FitsShift.T {α : Type} (pr : Pr) (rt : (Bool × Bool) → Option α) (call_0 : LI → Option (Bool)) (call_1 : (Int) → Option (Bool)) (call_2 : (LI × Int) → Option (Bool)) (row : LI) (shift : Int) : Option α :=
  (call_0 row).bind fun rr1 =>
    if (!(!rr1)) then
      (call_1 shift).bind fun rr2 =>
        bif (!rr2) then
          rt (false, false)
        else
          (call_2 (row, shift)).bind fun rr3 =>
            pr.fb rr3 fun y0 => rt (y0, true)
    else
      rt (false, false)
theorem impl_FitsShift.Q_eq (row : LI) (shift : Int) : impl_FitsShift.Q (row, shift) = impl_FitsShift.T Pr.std (fun b => some (impl_FitsShift.ret b)) impl_isPairs.X impl_isShift.X impl_fits.X row shift := (eval_seg impl_FitsShift.lin 1000000 _ _).trans (by kernel_rfl)
theorem impl_FitsShift.X_eq (row : LI) (shift : Int) : impl_FitsShift.X (row, shift) = impl_FitsShift.T Pr.std some impl_isPairs.X impl_isShift.X impl_fits.X row shift := by
  show dec impl_FitsShift.ret (impl_FitsShift.Q (row, shift)) = _
  rw [impl_FitsShift.Q_eq]
  simp only [impl_FitsShift.T, std_fi, std_fb, std_fl, std_fll, std_flll, std_flb, std_fh, dec_ite, dec_cond, dec_bind, dec_elim, dec_none, impl_FitsShift.dc]
  try rfl
theorem impl_FitsShift.T_mono {α : Type} {rt : (Bool × Bool) → Option α} {call_0 call_0_ : LI → Option (Bool)} (hcall_0 : ∀ x, Le (call_0 x) (call_0_ x)) {call_1 call_1_ : (Int) → Option (Bool)} (hcall_1 : ∀ x, Le (call_1 x) (call_1_ x)) {call_2 call_2_ : (LI × Int) → Option (Bool)} (hcall_2 : ∀ x, Le (call_2 x) (call_2_ x)) {row : LI} {shift : Int} : Le (impl_FitsShift.T Pr.std rt call_0 call_1 call_2 row shift) (impl_FitsShift.T Pr.std rt call_0_ call_1_ call_2_ row shift) := by
  unfold impl_FitsShift.T
  exact (Le.bind (hcall_0 _) (fun rr1 => (Le.ite (Le.bind (hcall_1 _) (fun rr2 => (Le.cond Le.rfl' (Le.bind (hcall_2 _) (fun rr3 => Le.rfl'))))) Le.rfl')))
noncomputable def impl_FitsShift.C (fu : Nat) (a : LI × Int) : Option (Bool × Bool) := impl_FitsShift.T Pr.quick some (impl_isPairs.C fu) (impl_isShift.C fu) (impl_fits.C fu) a.1 a.2
theorem impl_FitsShift.C_ok (fu : Nat) (hfu : fu ≤ 100000) (a : LI × Int) : Le (impl_FitsShift.C fu a) (impl_FitsShift.X a) := by
  obtain ⟨row, shift⟩ := a
  show Le (impl_FitsShift.T Pr.quick some (impl_isPairs.C fu) (impl_isShift.C fu) (impl_fits.C fu) row shift) _
  rw [Pr.quick_eq, impl_FitsShift.X_eq]
  exact impl_FitsShift.T_mono (fun x => impl_isPairs.C_ok fu hfu x) (fun x => impl_isShift.C_ok fu hfu x) (fun x => impl_fits.C_ok fu hfu x)
/-! ### loop.example/g01232/laws.FnLangfordThere -/
def laws_FnLangfordThere.s0 (a : LI × LI) : St := { slots := [.sl (.int .u8) a.1, .sl (.int .u8) a.2], rows := [], boxes := [] }
def laws_FnLangfordThere.pat : St → Option (LI × LI)
  | { slots := [.sl (.int .u8) code, .sl (.int .u8) more], rows := [], boxes := [], gd := [] } => some (code, more)
  | _ => none
theorem laws_FnLangfordThere.hp : ∀ st a, laws_FnLangfordThere.pat st = some a → st = laws_FnLangfordThere.s0 a := by
  intro st a h
  unfold laws_FnLangfordThere.pat at h
  split at h
  · cases h; rfl
  · cases h
def laws_FnLangfordThere.ret (r : Bool) : R := ({ slots := [], rows := [], boxes := [] }, [.bool r])
def laws_FnLangfordThere.ap (b : Bool) (K : St → List V → Option R) : Option R := K (laws_FnLangfordThere.ret b).1 (laws_FnLangfordThere.ret b).2
theorem laws_FnLangfordThere.hap : ∀ b K, laws_FnLangfordThere.ap b K = K (laws_FnLangfordThere.ret b).1 (laws_FnLangfordThere.ret b).2 := fun _ _ => rfl
theorem laws_FnLangfordThere.inj : ∀ x y, laws_FnLangfordThere.ret x = laws_FnLangfordThere.ret y → x = y := by
  intro x y h
  cases h; rfl
theorem laws_FnLangfordThere.dc (x : Bool) : dec laws_FnLangfordThere.ret (some (laws_FnLangfordThere.ret x)) = some x := dec_ret laws_FnLangfordThere.inj x
noncomputable def laws_FnLangfordThere.cx : Cx := { ty := TY, fns := [(5, laws_big.E), (6, spec_DrawAllLangford.E), (7, impl_CountLangford.E), (8, spec_CountLangford.E), (9, impl_AllLangford.E), (10, spec_AllLangford.E), (11, impl_FirstLangford.E), (12, spec_FirstLangford.E), (13, impl_IsLangfordThere.E), (14, laws_jRows.E), (15, laws_jSame.E), (16, impl_IsLangford.E), (17, impl_LeastOfLangford.E), (18, laws_jLess.E), (20, laws_jBack.E), (19, laws_jIn.E), (21, impl_RaiseRow.E), (22, impl_FitsShift.E)], nk := [], sharp := true }
noncomputable def laws_FnLangfordThere.body : Code := Go.Proofs.Try.f3.body.getD .skip
def laws_FnLangfordThere.fl : Fn := { loops := [(15, [(5, none), (6, none), (7, none), (11, none), (15, none), (143, none), (144, none), (145, none)])], joins := [(12, []), (13, [(5, none), (6, none), (7, none), (11, none), (12, none), (15, none)]), (20, []), (21, [(5, none), (6, none), (7, none), (11, none), (15, none), (22, none), (143, none), (144, none), (145, none)]), (28, []), (29, [])], nr := 0, nb := 0, rs := [.tmp 4], pre := [], mv := [], fz := [] }
noncomputable def laws_FnLangfordThere.Q (a : LI × LI) : Option R := eval laws_FnLangfordThere.cx laws_FnLangfordThere.fl [.code laws_FnLangfordThere.body] (start 237 (laws_FnLangfordThere.s0 a))
noncomputable def laws_FnLangfordThere.X (a : LI × LI) : Option (Bool) := dec laws_FnLangfordThere.ret (laws_FnLangfordThere.Q a)
def laws_FnLangfordThere.sJ12 : St := { slots := [D, D, D, D, D, D, D, D, D, D, D, D, D, D, D, D, D, D, D, D, D, D, D, D, D, D, D, D, D, D, D, D, D, D, D, D, D, D, D, D, D, D, D, D, D, D, D, D, D, D, D, D, D, D, D, D, D, D, D, D, D, D, D, D, D, D, D, D, D, D, D, D, D, D, D, D, D, D, D, D, D, D, D, D, D, D, D, D, D, D, D, D, D, D, D, D, D, D, D, D, D, D, D, D, D, D, D, D, D, D, D, D, D, D, D, D, D, D, D, D, D, D, D, D, D, D, D, D, D, D, D, D, D, D, D, D, D, D, D, D, D, D, D, D, D, D, D, D, D, D, D, D, D, D, D, D, D, D, D, D, D, D, D, D, D, D, D, D, D, D, D, D, D, D, D, D, D, D, D, D, D, D, D, D, D, D, D, D, D, D, D, D, D, D, D, D, D, D, D, D, D, D, D, D, D, D, D, D, D, D, D, D, D, D, D, D, D, D, D, D, D, D, D, D, D, D, D, D, D, D, D, D, D, D, D, D, D], rows := [], boxes := [] }
noncomputable def laws_FnLangfordThere.tJ12 : List It := (findJ 12 laws_FnLangfordThere.body []).getD []
noncomputable def laws_FnLangfordThere.QJ12 : Option R := eval laws_FnLangfordThere.cx laws_FnLangfordThere.fl laws_FnLangfordThere.tJ12 (laws_FnLangfordThere.sJ12 )
noncomputable def laws_FnLangfordThere.XJ12 : Option (Bool) := dec laws_FnLangfordThere.ret (laws_FnLangfordThere.QJ12 )
def laws_FnLangfordThere.sJ13 (n d count : Int) (one : Bool) (all : LLI) (first : LI) : St := { slots := [D, D, D, D, D, .int .i64 n, .int .i64 d, .int .i64 count, D, D, D, .row 1000704, .bool one, D, D, .row 1000960, D, D, D, D, D, D, D, D, D, D, D, D, D, D, D, D, D, D, D, D, D, D, D, D, D, D, D, D, D, D, D, D, D, D, D, D, D, D, D, D, D, D, D, D, D, D, D, D, D, D, D, D, D, D, D, D, D, D, D, D, D, D, D, D, D, D, D, D, D, D, D, D, D, D, D, D, D, D, D, D, D, D, D, D, D, D, D, D, D, D, D, D, D, D, D, D, D, D, D, D, D, D, D, D, D, D, D, D, D, D, D, D, D, D, D, D, D, D, D, D, D, D, D, D, D, D, D, D, D, D, D, D, D, D, D, D, D, D, D, D, D, D, D, D, D, D, D, D, D, D, D, D, D, D, D, D, D, D, D, D, D, D, D, D, D, D, D, D, D, D, D, D, D, D, D, D, D, D, D, D, D, D, D, D, D, D, D, D, D, D, D, D, D, D, D, D, D, D, D, D, D, D, D, D, D, D, D, D, D, D, D, D, D, D, D, D, D, D, D, D, D], rows := [(1000704, ⟨.sl (.int .i64), all⟩), (1000960, ⟨.int .i64, first⟩)], boxes := [] }
noncomputable def laws_FnLangfordThere.tJ13 : List It := (findJ 13 laws_FnLangfordThere.body []).getD []
noncomputable def laws_FnLangfordThere.QJ13 (n d count : Int) (one : Bool) (all : LLI) (first : LI) : Option R := eval laws_FnLangfordThere.cx laws_FnLangfordThere.fl laws_FnLangfordThere.tJ13 (laws_FnLangfordThere.sJ13 n d count one all first)
noncomputable def laws_FnLangfordThere.XJ13 (n d count : Int) (one : Bool) (all : LLI) (first : LI) : Option (Bool) := dec laws_FnLangfordThere.ret (laws_FnLangfordThere.QJ13 n d count one all first)
def laws_FnLangfordThere.sL15 (n d count t144 t145 : Int) (all : LLI) (first : LI) : St := { slots := [D, D, D, D, D, .int .i64 n, .int .i64 d, .int .i64 count, D, D, D, .row 1000704, D, D, D, .row 1000960, D, D, D, D, D, D, D, D, D, D, D, D, D, D, D, D, D, D, D, D, D, D, D, D, D, D, D, D, D, D, D, D, D, D, D, D, D, D, D, D, D, D, D, D, D, D, D, D, D, D, D, D, D, D, D, D, D, D, D, D, D, D, D, D, D, D, D, D, D, D, D, D, D, D, D, D, D, D, D, D, D, D, D, D, D, D, D, D, D, D, D, D, D, D, D, D, D, D, D, D, D, D, D, D, D, D, D, D, D, D, D, D, D, D, D, D, D, D, D, D, D, D, D, D, D, D, D, .row 1000704, .int .i64 t144, .int .i64 t145, D, D, D, D, D, D, D, D, D, D, D, D, D, D, D, D, D, D, D, D, D, D, D, D, D, D, D, D, D, D, D, D, D, D, D, D, D, D, D, D, D, D, D, D, D, D, D, D, D, D, D, D, D, D, D, D, D, D, D, D, D, D, D, D, D, D, D, D, D, D, D, D, D, D, D, D, D, D, D, D, D, D, D, D, D, D, D, D, D, D, D], rows := [(1000704, ⟨.sl (.int .i64), all⟩), (1000960, ⟨.int .i64, first⟩)], boxes := [] }
noncomputable def laws_FnLangfordThere.tL15 : List It := (findL 15 laws_FnLangfordThere.body []).getD []
noncomputable def laws_FnLangfordThere.QL15 (n d count t144 t145 : Int) (all : LLI) (first : LI) : Option R := eval laws_FnLangfordThere.cx laws_FnLangfordThere.fl laws_FnLangfordThere.tL15 (laws_FnLangfordThere.sL15 n d count t144 t145 all first)
noncomputable def laws_FnLangfordThere.XL15 (n d count t144 t145 : Int) (all : LLI) (first : LI) : Option (Bool) := dec laws_FnLangfordThere.ret (laws_FnLangfordThere.QL15 n d count t144 t145 all first)
def laws_FnLangfordThere.sJ29 : St := { slots := [D, D, D, D, D, D, D, D, D, D, D, D, D, D, D, D, D, D, D, D, D, D, D, D, D, D, D, D, D, D, D, D, D, D, D, D, D, D, D, D, D, D, D, D, D, D, D, D, D, D, D, D, D, D, D, D, D, D, D, D, D, D, D, D, D, D, D, D, D, D, D, D, D, D, D, D, D, D, D, D, D, D, D, D, D, D, D, D, D, D, D, D, D, D, D, D, D, D, D, D, D, D, D, D, D, D, D, D, D, D, D, D, D, D, D, D, D, D, D, D, D, D, D, D, D, D, D, D, D, D, D, D, D, D, D, D, D, D, D, D, D, D, D, D, D, D, D, D, D, D, D, D, D, D, D, D, D, D, D, D, D, D, D, D, D, D, D, D, D, D, D, D, D, D, D, D, D, D, D, D, D, D, D, D, D, D, D, D, D, D, D, D, D, D, D, D, D, D, D, D, D, D, D, D, D, D, D, D, D, D, D, D, D, D, D, D, D, D, D, D, D, D, D, D, D, D, D, D, D, D, D, D, D, D, D, D, D], rows := [], boxes := [] }
noncomputable def laws_FnLangfordThere.tJ29 : List It := (findJ 29 laws_FnLangfordThere.body []).getD []
noncomputable def laws_FnLangfordThere.QJ29 : Option R := eval laws_FnLangfordThere.cx laws_FnLangfordThere.fl laws_FnLangfordThere.tJ29 (laws_FnLangfordThere.sJ29 )
noncomputable def laws_FnLangfordThere.XJ29 : Option (Bool) := dec laws_FnLangfordThere.ret (laws_FnLangfordThere.QJ29 )
def laws_FnLangfordThere.sJ20 : St := { slots := [D, D, D, D, D, D, D, D, D, D, D, D, D, D, D, D, D, D, D, D, D, D, D, D, D, D, D, D, D, D, D, D, D, D, D, D, D, D, D, D, D, D, D, D, D, D, D, D, D, D, D, D, D, D, D, D, D, D, D, D, D, D, D, D, D, D, D, D, D, D, D, D, D, D, D, D, D, D, D, D, D, D, D, D, D, D, D, D, D, D, D, D, D, D, D, D, D, D, D, D, D, D, D, D, D, D, D, D, D, D, D, D, D, D, D, D, D, D, D, D, D, D, D, D, D, D, D, D, D, D, D, D, D, D, D, D, D, D, D, D, D, D, D, D, D, D, D, D, D, D, D, D, D, D, D, D, D, D, D, D, D, D, D, D, D, D, D, D, D, D, D, D, D, D, D, D, D, D, D, D, D, D, D, D, D, D, D, D, D, D, D, D, D, D, D, D, D, D, D, D, D, D, D, D, D, D, D, D, D, D, D, D, D, D, D, D, D, D, D, D, D, D, D, D, D, D, D, D, D, D, D, D, D, D, D, D, D], rows := [], boxes := [] }
noncomputable def laws_FnLangfordThere.tJ20 : List It := (findJ 20 laws_FnLangfordThere.body []).getD []
noncomputable def laws_FnLangfordThere.QJ20 : Option R := eval laws_FnLangfordThere.cx laws_FnLangfordThere.fl laws_FnLangfordThere.tJ20 (laws_FnLangfordThere.sJ20 )
noncomputable def laws_FnLangfordThere.XJ20 : Option (Bool) := dec laws_FnLangfordThere.ret (laws_FnLangfordThere.QJ20 )
def laws_FnLangfordThere.sJ21 (n d count : Int) (row : LI) (t144 t145 : Int) (all : LLI) (first : LI) : St := { slots := [D, D, D, D, D, .int .i64 n, .int .i64 d, .int .i64 count, D, D, D, .row 1000704, D, D, D, .row 1000960, D, D, D, D, D, D, .sl (.int .i64) row, D, D, D, D, D, D, D, D, D, D, D, D, D, D, D, D, D, D, D, D, D, D, D, D, D, D, D, D, D, D, D, D, D, D, D, D, D, D, D, D, D, D, D, D, D, D, D, D, D, D, D, D, D, D, D, D, D, D, D, D, D, D, D, D, D, D, D, D, D, D, D, D, D, D, D, D, D, D, D, D, D, D, D, D, D, D, D, D, D, D, D, D, D, D, D, D, D, D, D, D, D, D, D, D, D, D, D, D, D, D, D, D, D, D, D, D, D, D, D, D, .row 1000704, .int .i64 t144, .int .i64 t145, D, D, D, D, D, D, D, D, D, D, D, D, D, D, D, D, D, D, D, D, D, D, D, D, D, D, D, D, D, D, D, D, D, D, D, D, D, D, D, D, D, D, D, D, D, D, D, D, D, D, D, D, D, D, D, D, D, D, D, D, D, D, D, D, D, D, D, D, D, D, D, D, D, D, D, D, D, D, D, D, D, D, D, D, D, D, D, D, D, D, D], rows := [(1000704, ⟨.sl (.int .i64), all⟩), (1000960, ⟨.int .i64, first⟩)], boxes := [] }
noncomputable def laws_FnLangfordThere.tJ21 : List It := (findJ 21 laws_FnLangfordThere.body []).getD []
noncomputable def laws_FnLangfordThere.QJ21 (n d count : Int) (row : LI) (t144 t145 : Int) (all : LLI) (first : LI) : Option R := eval laws_FnLangfordThere.cx laws_FnLangfordThere.fl laws_FnLangfordThere.tJ21 (laws_FnLangfordThere.sJ21 n d count row t144 t145 all first)
noncomputable def laws_FnLangfordThere.XJ21 (n d count : Int) (row : LI) (t144 t145 : Int) (all : LLI) (first : LI) : Option (Bool) := dec laws_FnLangfordThere.ret (laws_FnLangfordThere.QJ21 n d count row t144 t145 all first)
def laws_FnLangfordThere.sJ28 : St := { slots := [D, D, D, D, D, D, D, D, D, D, D, D, D, D, D, D, D, D, D, D, D, D, D, D, D, D, D, D, D, D, D, D, D, D, D, D, D, D, D, D, D, D, D, D, D, D, D, D, D, D, D, D, D, D, D, D, D, D, D, D, D, D, D, D, D, D, D, D, D, D, D, D, D, D, D, D, D, D, D, D, D, D, D, D, D, D, D, D, D, D, D, D, D, D, D, D, D, D, D, D, D, D, D, D, D, D, D, D, D, D, D, D, D, D, D, D, D, D, D, D, D, D, D, D, D, D, D, D, D, D, D, D, D, D, D, D, D, D, D, D, D, D, D, D, D, D, D, D, D, D, D, D, D, D, D, D, D, D, D, D, D, D, D, D, D, D, D, D, D, D, D, D, D, D, D, D, D, D, D, D, D, D, D, D, D, D, D, D, D, D, D, D, D, D, D, D, D, D, D, D, D, D, D, D, D, D, D, D, D, D, D, D, D, D, D, D, D, D, D, D, D, D, D, D, D, D, D, D, D, D, D, D, D, D, D, D, D], rows := [], boxes := [] }
noncomputable def laws_FnLangfordThere.tJ28 : List It := (findJ 28 laws_FnLangfordThere.body []).getD []
noncomputable def laws_FnLangfordThere.QJ28 : Option R := eval laws_FnLangfordThere.cx laws_FnLangfordThere.fl laws_FnLangfordThere.tJ28 (laws_FnLangfordThere.sJ28 )
noncomputable def laws_FnLangfordThere.XJ28 : Option (Bool) := dec laws_FnLangfordThere.ret (laws_FnLangfordThere.QJ28 )
theorem laws_FnLangfordThere.fns : FnsOk Go.Proofs.Try.prog laws_FnLangfordThere.cx := show FnsL _ _ from (fns_cons laws_big.ok (fns_cons spec_DrawAllLangford.ok (fns_cons impl_CountLangford.ok (fns_cons spec_CountLangford.ok (fns_cons impl_AllLangford.ok (fns_cons spec_AllLangford.ok (fns_cons impl_FirstLangford.ok (fns_cons spec_FirstLangford.ok (fns_cons impl_IsLangfordThere.ok (fns_cons laws_jRows.ok (fns_cons laws_jSame.ok (fns_cons impl_IsLangford.ok (fns_cons impl_LeastOfLangford.ok (fns_cons laws_jLess.ok (fns_cons laws_jBack.ok (fns_cons laws_jIn.ok (fns_cons impl_RaiseRow.ok (fns_cons impl_FitsShift.ok fns_nil))))))))))))))))))
theorem laws_FnLangfordThere.lin : laws_FnLangfordThere.cx.Lin := Lin.of_fns laws_FnLangfordThere.fns
noncomputable def laws_FnLangfordThere.E : Entry := mkE [] laws_FnLangfordThere.pat laws_FnLangfordThere.X laws_FnLangfordThere.ap
theorem laws_FnLangfordThere.ok : EntOk Go.Proofs.Try.prog 3 laws_FnLangfordThere.E := mkE_ok (fun w args => Go.Proofs.Try.call3 args w) laws_FnLangfordThere.hp laws_FnLangfordThere.hap fun a b h => vc_of_X mixed (tyB_ok (cx := laws_FnLangfordThere.cx) tyOk) laws_FnLangfordThere.fns (fl := laws_FnLangfordThere.fl) Go.Proofs.Try.func3 (code := laws_FnLangfordThere.body) (by kernel_rfl) (n := 237) (by kernel_rfl) (by kernel_rfl) (by decide) (by decide) rfl rfl h
def laws_FnLangfordThere.T {α : Type} (pr : Pr) (rt : Bool → Option α) (kJ12 : Option α) (kJ13 : Int → Int → Int → Bool → LLI → LI → Option α) (call_0 : (LI × LI) → Option (Bool)) (call_1 : LI → Option (Int × Int)) (call_2 : (Int × Int) → Option (Int × Bool)) (call_3 : (Int × Int) → Option (Int × Bool)) (call_4 : (Int × Int) → Option (Bool × LLI)) (call_5 : (Int × Int) → Option (LLI × Bool)) (call_6 : (Int × Int) → Option (Bool × LI)) (call_7 : (Int × Int) → Option (LI × Bool)) (call_8 : (Int × Int) → Option (Bool × Bool)) (call_9 : (LLI × LLI) → Option (Bool)) (call_10 : (LI × LI) → Option (Bool)) (code more : LI) : Option α :=
  (call_0 (code, more)).bind fun rr1 =>
    bif rr1 then
      rt true
    else
      (call_1 code).bind fun rr2 =>
        pr.fi rr2.1 fun y0 => pr.fi rr2.2 fun y1 => (call_2 (y0, y1)).bind fun rr3 =>
          pr.fi rr2.1 fun y0 => pr.fi rr2.2 fun y1 => (call_3 (y0, y1)).bind fun rr4 =>
            pr.fi rr2.1 fun y0 => pr.fi rr2.2 fun y1 => (call_4 (y0, y1)).bind fun rr5 =>
              pr.fi rr2.1 fun y0 => pr.fi rr2.2 fun y1 => (call_5 (y0, y1)).bind fun rr6 =>
                pr.fi rr2.1 fun y0 => pr.fi rr2.2 fun y1 => (call_6 (y0, y1)).bind fun rr7 =>
                  pr.fi rr2.1 fun y0 => pr.fi rr2.2 fun y1 => (call_7 (y0, y1)).bind fun rr8 =>
                    pr.fi rr2.1 fun y0 => pr.fi rr2.2 fun y1 => (call_8 (y0, y1)).bind fun rr9 =>
                      if (!(!(rr3.2 == rr4.2))) then
                        if (!(pr.ne rr3.1 rr4.1)) then
                          if (!(!(rr5.1 == rr6.2))) then
                            pr.fh rr5.2 fun y0 => pr.fh rr6.1 fun y1 => (call_9 (y0, y1)).bind fun rr10 =>
                              if (!(!rr10)) then
                                if (!(!(rr7.1 == rr8.2))) then
                                  pr.fh rr7.2 fun y0 => pr.fh rr8.1 fun y1 => (call_10 (y0, y1)).bind fun rr11 =>
                                    if (!(!rr11)) then
                                      if rr3.2 then
                                        if (!(!(rr5.1 == (pr.le rr3.1 600)))) then
                                          if rr3.2 then
                                            if (!(!(rr7.1 == (pr.gt rr3.1 0)))) then
                                              if rr3.2 then
                                                if (!(!rr9.2)) then
                                                  bif (!(rr9.1 == (pr.gt rr3.1 0))) then
                                                    kJ12
                                                  else
                                                    pr.fi rr2.1 fun y0 => pr.fi rr2.2 fun y1 => pr.fi rr3.1 fun y2 => pr.fb rr5.1 fun y3 => pr.fh rr5.2 fun y4 => pr.fh rr7.2 fun y5 => kJ13 y0 y1 y2 y3 y4 y5
                                                else
                                                  kJ12
                                              else
                                                pr.fi rr2.1 fun y0 => pr.fi rr2.2 fun y1 => pr.fi rr3.1 fun y2 => pr.fb rr5.1 fun y3 => pr.fh rr5.2 fun y4 => pr.fh rr7.2 fun y5 => kJ13 y0 y1 y2 y3 y4 y5
                                            else
                                              kJ12
                                          else
                                            if (!(!(rr7.1 == false))) then
                                              if rr3.2 then
                                                if (!(!rr9.2)) then
                                                  bif (!(rr9.1 == (pr.gt rr3.1 0))) then
                                                    kJ12
                                                  else
                                                    pr.fi rr2.1 fun y0 => pr.fi rr2.2 fun y1 => pr.fi rr3.1 fun y2 => pr.fb rr5.1 fun y3 => pr.fh rr5.2 fun y4 => pr.fh rr7.2 fun y5 => kJ13 y0 y1 y2 y3 y4 y5
                                                else
                                                  kJ12
                                              else
                                                pr.fi rr2.1 fun y0 => pr.fi rr2.2 fun y1 => pr.fi rr3.1 fun y2 => pr.fb rr5.1 fun y3 => pr.fh rr5.2 fun y4 => pr.fh rr7.2 fun y5 => kJ13 y0 y1 y2 y3 y4 y5
                                            else
                                              kJ12
                                        else
                                          kJ12
                                      else
                                        if (!(!(rr5.1 == false))) then
                                          if rr3.2 then
                                            if (!(!(rr7.1 == (pr.gt rr3.1 0)))) then
                                              if rr3.2 then
                                                if (!(!rr9.2)) then
                                                  bif (!(rr9.1 == (pr.gt rr3.1 0))) then
                                                    kJ12
                                                  else
                                                    pr.fi rr2.1 fun y0 => pr.fi rr2.2 fun y1 => pr.fi rr3.1 fun y2 => pr.fb rr5.1 fun y3 => pr.fh rr5.2 fun y4 => pr.fh rr7.2 fun y5 => kJ13 y0 y1 y2 y3 y4 y5
                                                else
                                                  kJ12
                                              else
                                                pr.fi rr2.1 fun y0 => pr.fi rr2.2 fun y1 => pr.fi rr3.1 fun y2 => pr.fb rr5.1 fun y3 => pr.fh rr5.2 fun y4 => pr.fh rr7.2 fun y5 => kJ13 y0 y1 y2 y3 y4 y5
                                            else
                                              kJ12
                                          else
                                            if (!(!(rr7.1 == false))) then
                                              if rr3.2 then
                                                if (!(!rr9.2)) then
                                                  bif (!(rr9.1 == (pr.gt rr3.1 0))) then
                                                    kJ12
                                                  else
                                                    pr.fi rr2.1 fun y0 => pr.fi rr2.2 fun y1 => pr.fi rr3.1 fun y2 => pr.fb rr5.1 fun y3 => pr.fh rr5.2 fun y4 => pr.fh rr7.2 fun y5 => kJ13 y0 y1 y2 y3 y4 y5
                                                else
                                                  kJ12
                                              else
                                                pr.fi rr2.1 fun y0 => pr.fi rr2.2 fun y1 => pr.fi rr3.1 fun y2 => pr.fb rr5.1 fun y3 => pr.fh rr5.2 fun y4 => pr.fh rr7.2 fun y5 => kJ13 y0 y1 y2 y3 y4 y5
                                            else
                                              kJ12
                                        else
                                          kJ12
                                    else
                                      kJ12
                                else
                                  kJ12
                              else
                                kJ12
                          else
                            kJ12
                        else
                          kJ12
                      else
                        kJ12
theorem laws_FnLangfordThere.Q_eq (code more : LI) : laws_FnLangfordThere.Q (code, more) = laws_FnLangfordThere.T Pr.std (fun b => some (laws_FnLangfordThere.ret b)) (laws_FnLangfordThere.QJ12) (laws_FnLangfordThere.QJ13) laws_big.X spec_DrawAllLangford.X impl_CountLangford.X spec_CountLangford.X impl_AllLangford.X spec_AllLangford.X impl_FirstLangford.X spec_FirstLangford.X impl_IsLangfordThere.X laws_jRows.X laws_jSame.X code more := (eval_seg laws_FnLangfordThere.lin 1000000 _ _).trans (by kernel_rfl)
theorem laws_FnLangfordThere.X_eq (code more : LI) : laws_FnLangfordThere.X (code, more) = laws_FnLangfordThere.T Pr.std some (laws_FnLangfordThere.XJ12) (laws_FnLangfordThere.XJ13) laws_big.X spec_DrawAllLangford.X impl_CountLangford.X spec_CountLangford.X impl_AllLangford.X spec_AllLangford.X impl_FirstLangford.X spec_FirstLangford.X impl_IsLangfordThere.X laws_jRows.X laws_jSame.X code more := by
  show dec laws_FnLangfordThere.ret (laws_FnLangfordThere.Q (code, more)) = _
  rw [laws_FnLangfordThere.Q_eq]
  simp only [laws_FnLangfordThere.T, std_fi, std_fb, std_fl, std_fll, std_flll, std_flb, std_fh, dec_ite, dec_cond, dec_bind, dec_elim, dec_none, laws_FnLangfordThere.dc]
  try rfl
theorem laws_FnLangfordThere.T_mono {α : Type} {rt : (Bool) → Option α} {kJ12 kJ12_ : Option α} (hkJ12 : Le (kJ12 ) (kJ12_ )) {kJ13 kJ13_ : Int → Int → Int → Bool → LLI → LI → Option α} (hkJ13 : ∀ x0 x1 x2 x3 x4 x5, Le (kJ13 x0 x1 x2 x3 x4 x5) (kJ13_ x0 x1 x2 x3 x4 x5)) {call_0 call_0_ : (LI × LI) → Option (Bool)} (hcall_0 : ∀ x, Le (call_0 x) (call_0_ x)) {call_1 call_1_ : LI → Option (Int × Int)} (hcall_1 : ∀ x, Le (call_1 x) (call_1_ x)) {call_2 call_2_ : (Int × Int) → Option (Int × Bool)} (hcall_2 : ∀ x, Le (call_2 x) (call_2_ x)) {call_3 call_3_ : (Int × Int) → Option (Int × Bool)} (hcall_3 : ∀ x, Le (call_3 x) (call_3_ x)) {call_4 call_4_ : (Int × Int) → Option (Bool × LLI)} (hcall_4 : ∀ x, Le (call_4 x) (call_4_ x)) {call_5 call_5_ : (Int × Int) → Option (LLI × Bool)} (hcall_5 : ∀ x, Le (call_5 x) (call_5_ x)) {call_6 call_6_ : (Int × Int) → Option (Bool × LI)} (hcall_6 : ∀ x, Le (call_6 x) (call_6_ x)) {call_7 call_7_ : (Int × Int) → Option (LI × Bool)} (hcall_7 : ∀ x, Le (call_7 x) (call_7_ x)) {call_8 call_8_ : (Int × Int) → Option (Bool × Bool)} (hcall_8 : ∀ x, Le (call_8 x) (call_8_ x)) {call_9 call_9_ : (LLI × LLI) → Option (Bool)} (hcall_9 : ∀ x, Le (call_9 x) (call_9_ x)) {call_10 call_10_ : (LI × LI) → Option (Bool)} (hcall_10 : ∀ x, Le (call_10 x) (call_10_ x)) {code more : LI} : Le (laws_FnLangfordThere.T Pr.std rt kJ12 kJ13 call_0 call_1 call_2 call_3 call_4 call_5 call_6 call_7 call_8 call_9 call_10 code more) (laws_FnLangfordThere.T Pr.std rt kJ12_ kJ13_ call_0_ call_1_ call_2_ call_3_ call_4_ call_5_ call_6_ call_7_ call_8_ call_9_ call_10_ code more) := by
  unfold laws_FnLangfordThere.T
  exact (Le.bind (hcall_0 _) (fun rr1 => (Le.cond Le.rfl' (Le.bind (hcall_1 _) (fun rr2 => (Le.fi fun _ => (Le.fi fun _ => (Le.bind (hcall_2 _) (fun rr3 => (Le.fi fun _ => (Le.fi fun _ => (Le.bind (hcall_3 _) (fun rr4 => (Le.fi fun _ => (Le.fi fun _ => (Le.bind (hcall_4 _) (fun rr5 => (Le.fi fun _ => (Le.fi fun _ => (Le.bind (hcall_5 _) (fun rr6 => (Le.fi fun _ => (Le.fi fun _ => (Le.bind (hcall_6 _) (fun rr7 => (Le.fi fun _ => (Le.fi fun _ => (Le.bind (hcall_7 _) (fun rr8 => (Le.fi fun _ => (Le.fi fun _ => (Le.bind (hcall_8 _) (fun rr9 => (Le.ite (Le.ite (Le.ite (Le.fh fun _ => (Le.fh fun _ => (Le.bind (hcall_9 _) (fun rr10 => (Le.ite (Le.ite (Le.fh fun _ => (Le.fh fun _ => (Le.bind (hcall_10 _) (fun rr11 => (Le.ite (Le.ite (Le.ite (Le.ite (Le.ite (Le.ite (Le.ite (Le.cond (hkJ12) (Le.fi fun _ => (Le.fi fun _ => (Le.fi fun _ => (Le.fb fun _ => (Le.fh fun _ => (Le.fh fun _ => (hkJ13 _ _ _ _ _ _)))))))) (hkJ12)) (Le.fi fun _ => (Le.fi fun _ => (Le.fi fun _ => (Le.fb fun _ => (Le.fh fun _ => (Le.fh fun _ => (hkJ13 _ _ _ _ _ _)))))))) (hkJ12)) (Le.ite (Le.ite (Le.ite (Le.cond (hkJ12) (Le.fi fun _ => (Le.fi fun _ => (Le.fi fun _ => (Le.fb fun _ => (Le.fh fun _ => (Le.fh fun _ => (hkJ13 _ _ _ _ _ _)))))))) (hkJ12)) (Le.fi fun _ => (Le.fi fun _ => (Le.fi fun _ => (Le.fb fun _ => (Le.fh fun _ => (Le.fh fun _ => (hkJ13 _ _ _ _ _ _)))))))) (hkJ12))) (hkJ12)) (Le.ite (Le.ite (Le.ite (Le.ite (Le.ite (Le.cond (hkJ12) (Le.fi fun _ => (Le.fi fun _ => (Le.fi fun _ => (Le.fb fun _ => (Le.fh fun _ => (Le.fh fun _ => (hkJ13 _ _ _ _ _ _)))))))) (hkJ12)) (Le.fi fun _ => (Le.fi fun _ => (Le.fi fun _ => (Le.fb fun _ => (Le.fh fun _ => (Le.fh fun _ => (hkJ13 _ _ _ _ _ _)))))))) (hkJ12)) (Le.ite (Le.ite (Le.ite (Le.cond (hkJ12) (Le.fi fun _ => (Le.fi fun _ => (Le.fi fun _ => (Le.fb fun _ => (Le.fh fun _ => (Le.fh fun _ => (hkJ13 _ _ _ _ _ _)))))))) (hkJ12)) (Le.fi fun _ => (Le.fi fun _ => (Le.fi fun _ => (Le.fb fun _ => (Le.fh fun _ => (Le.fh fun _ => (hkJ13 _ _ _ _ _ _)))))))) (hkJ12))) (hkJ12))) (hkJ12)))))) (hkJ12)) (hkJ12)))))) (hkJ12)) (hkJ12)) (hkJ12)))))))))))))))))))))))))))))))))))
def laws_FnLangfordThere.TJ12 {α : Type} (pr : Pr) (rt : Bool → Option α) : Option α :=
  rt false
theorem laws_FnLangfordThere.QJ12_eq : laws_FnLangfordThere.QJ12 = laws_FnLangfordThere.TJ12 Pr.std (fun b => some (laws_FnLangfordThere.ret b)) := (eval_seg laws_FnLangfordThere.lin 1000000 _ _).trans (by kernel_rfl)
theorem laws_FnLangfordThere.XJ12_eq : laws_FnLangfordThere.XJ12 = laws_FnLangfordThere.TJ12 Pr.std some := by
  show dec laws_FnLangfordThere.ret (laws_FnLangfordThere.QJ12 ) = _
  rw [laws_FnLangfordThere.QJ12_eq]
  simp only [laws_FnLangfordThere.TJ12, std_fi, std_fb, std_fl, std_fll, std_flll, std_flb, std_fh, dec_ite, dec_cond, dec_bind, dec_elim, dec_none, laws_FnLangfordThere.dc]
  try rfl
theorem laws_FnLangfordThere.TJ12_mono {α : Type} {rt : (Bool) → Option α} : Le (laws_FnLangfordThere.TJ12 Pr.std rt ) (laws_FnLangfordThere.TJ12 Pr.std rt ) := by
  unfold laws_FnLangfordThere.TJ12
  exact Le.rfl'
def laws_FnLangfordThere.TJ13 {α : Type} (pr : Pr) (rt : Bool → Option α) (kL15 : Int → Int → Int → Int → Int → LLI → LI → Option α) (kJ29 : Option α) (n d count : Int) (one : Bool) (all : LLI) (first : LI) : Option α :=
  bif one then
    pr.fi ((all.length : Nat) : Int) fun y3 => kL15 n d count y3 0 all first
  else
    kJ29
theorem laws_FnLangfordThere.QJ13_eq (n d count : Int) (one : Bool) (all : LLI) (first : LI) : laws_FnLangfordThere.QJ13 n d count one all first = laws_FnLangfordThere.TJ13 Pr.std (fun b => some (laws_FnLangfordThere.ret b)) (laws_FnLangfordThere.QL15) (laws_FnLangfordThere.QJ29) n d count one all first := (eval_seg laws_FnLangfordThere.lin 1000000 _ _).trans (by kernel_rfl)
theorem laws_FnLangfordThere.XJ13_eq (n d count : Int) (one : Bool) (all : LLI) (first : LI) : laws_FnLangfordThere.XJ13 n d count one all first = laws_FnLangfordThere.TJ13 Pr.std some (laws_FnLangfordThere.XL15) (laws_FnLangfordThere.XJ29) n d count one all first := by
  show dec laws_FnLangfordThere.ret (laws_FnLangfordThere.QJ13 n d count one all first) = _
  rw [laws_FnLangfordThere.QJ13_eq]
  simp only [laws_FnLangfordThere.TJ13, std_fi, std_fb, std_fl, std_fll, std_flll, std_flb, std_fh, dec_ite, dec_cond, dec_bind, dec_elim, dec_none, laws_FnLangfordThere.dc]
  try rfl
theorem laws_FnLangfordThere.TJ13_mono {α : Type} {rt : (Bool) → Option α} {kL15 kL15_ : Int → Int → Int → Int → Int → LLI → LI → Option α} (hkL15 : ∀ x0 x1 x2 x3 x4 x5 x6, Le (kL15 x0 x1 x2 x3 x4 x5 x6) (kL15_ x0 x1 x2 x3 x4 x5 x6)) {kJ29 kJ29_ : Option α} (hkJ29 : Le (kJ29 ) (kJ29_ )) {n d count : Int} {one : Bool} {all : LLI} {first : LI} : Le (laws_FnLangfordThere.TJ13 Pr.std rt kL15 kJ29 n d count one all first) (laws_FnLangfordThere.TJ13 Pr.std rt kL15_ kJ29_ n d count one all first) := by
  unfold laws_FnLangfordThere.TJ13
  exact (Le.cond (Le.fi fun _ => (hkL15 _ _ _ _ _ _ _)) (hkJ29))
def laws_FnLangfordThere.TL15 {α : Type} (pr : Pr) (rt : Bool → Option α) (kJ20 : Option α) (kJ21 : Int → Int → Int → LI → Int → Int → LLI → LI → Option α) (kJ28 : Option α) (kJ29 : Option α) (call_0 : LI → Option (Bool × Bool)) (call_1 : LI → Option (Int × Bool)) (call_2 : (LI × LI) → Option (Bool)) (call_3 : LI → Option LI) (call_4 : (LLI × LI) → Option (Bool)) (call_5 : (LI × LI) → Option (Bool)) (n d count t144 t145 : Int) (all : LLI) (first : LI) : Option α :=
  bif (pr.lt t145 t144) then
    if (pr.inR t145 all.length) then
      if (pr.nlt ((t145).toNat) all.length) then
        pr.fl (pr.gd all ((t145).toNat) []) fun y0 => (call_0 y0).bind fun rr1 =>
          pr.fl (pr.gd all ((t145).toNat) []) fun y0 => (call_1 y0).bind fun rr2 =>
            if (!(!rr1.2)) then
              if (!(!rr1.1)) then
                if (!(!rr2.2)) then
                  if (!(pr.ne rr2.1 d)) then
                    if (!(pr.ne (((pr.gd all ((t145).toNat) []).length : Nat) : Int) (pr.wr .i64 ((2 : Int) * n)))) then
                      if (pr.gt t145 0) then
                        if (pr.inR (pr.wr .i64 (t145 - 1)) all.length) then
                          if (pr.nlt (((pr.wr .i64 (t145 - 1))).toNat) all.length) then
                            pr.fl (pr.gd all (((pr.wr .i64 (t145 - 1))).toNat) []) fun y0 => pr.fl (pr.gd all ((t145).toNat) []) fun y1 => (call_2 (y0, y1)).bind fun rr3 =>
                              if (!(!rr3)) then
                                pr.fl (pr.gd all ((t145).toNat) []) fun y0 => (call_3 y0).bind fun rr4 =>
                                  pr.fh rr4 fun y1 => (call_4 (all, y1)).bind fun rr5 =>
                                    bif (!rr5) then
                                      kJ20
                                    else
                                      pr.fl (pr.gd all ((t145).toNat) []) fun y3 => kJ21 n d count y3 t144 t145 all first
                              else
                                kJ20
                          else
                            none
                        else
                          none
                      else
                        pr.fl (pr.gd all ((t145).toNat) []) fun y0 => (call_3 y0).bind fun rr6 =>
                          pr.fh rr6 fun y1 => (call_4 (all, y1)).bind fun rr7 =>
                            bif (!rr7) then
                              kJ20
                            else
                              pr.fl (pr.gd all ((t145).toNat) []) fun y3 => kJ21 n d count y3 t144 t145 all first
                    else
                      kJ20
                  else
                    kJ20
                else
                  kJ20
              else
                kJ20
            else
              kJ20
      else
        none
    else
      none
  else
    if (!(pr.ne ((all.length : Nat) : Int) count)) then
      if (pr.gt count 0) then
        if (pr.inR 0 all.length) then
          if (pr.nlt 0 all.length) then
            pr.fl (pr.gd all 0 []) fun y0 => (call_5 (y0, first)).bind fun rr8 =>
              bif (!rr8) then
                kJ28
              else
                kJ29
          else
            none
        else
          none
      else
        kJ29
    else
      kJ28
theorem laws_FnLangfordThere.QL15_eq (n d count t144 t145 : Int) (all : LLI) (first : LI) : laws_FnLangfordThere.QL15 n d count t144 t145 all first = laws_FnLangfordThere.TL15 Pr.std (fun b => some (laws_FnLangfordThere.ret b)) (laws_FnLangfordThere.QJ20) (laws_FnLangfordThere.QJ21) (laws_FnLangfordThere.QJ28) (laws_FnLangfordThere.QJ29) impl_IsLangford.X impl_LeastOfLangford.X laws_jLess.X laws_jBack.X laws_jIn.X laws_jSame.X n d count t144 t145 all first := (eval_seg laws_FnLangfordThere.lin 1000000 _ _).trans (by kernel_rfl)
theorem laws_FnLangfordThere.XL15_eq (n d count t144 t145 : Int) (all : LLI) (first : LI) : laws_FnLangfordThere.XL15 n d count t144 t145 all first = laws_FnLangfordThere.TL15 Pr.std some (laws_FnLangfordThere.XJ20) (laws_FnLangfordThere.XJ21) (laws_FnLangfordThere.XJ28) (laws_FnLangfordThere.XJ29) impl_IsLangford.X impl_LeastOfLangford.X laws_jLess.X laws_jBack.X laws_jIn.X laws_jSame.X n d count t144 t145 all first := by
  show dec laws_FnLangfordThere.ret (laws_FnLangfordThere.QL15 n d count t144 t145 all first) = _
  rw [laws_FnLangfordThere.QL15_eq]
  simp only [laws_FnLangfordThere.TL15, std_fi, std_fb, std_fl, std_fll, std_flll, std_flb, std_fh, dec_ite, dec_cond, dec_bind, dec_elim, dec_none, laws_FnLangfordThere.dc]
  try rfl
theorem laws_FnLangfordThere.TL15_mono {α : Type} {rt : (Bool) → Option α} {kJ20 kJ20_ : Option α} (hkJ20 : Le (kJ20 ) (kJ20_ )) {kJ21 kJ21_ : Int → Int → Int → LI → Int → Int → LLI → LI → Option α} (hkJ21 : ∀ x0 x1 x2 x3 x4 x5 x6 x7, Le (kJ21 x0 x1 x2 x3 x4 x5 x6 x7) (kJ21_ x0 x1 x2 x3 x4 x5 x6 x7)) {kJ28 kJ28_ : Option α} (hkJ28 : Le (kJ28 ) (kJ28_ )) {kJ29 kJ29_ : Option α} (hkJ29 : Le (kJ29 ) (kJ29_ )) {call_0 call_0_ : LI → Option (Bool × Bool)} (hcall_0 : ∀ x, Le (call_0 x) (call_0_ x)) {call_1 call_1_ : LI → Option (Int × Bool)} (hcall_1 : ∀ x, Le (call_1 x) (call_1_ x)) {call_2 call_2_ : (LI × LI) → Option (Bool)} (hcall_2 : ∀ x, Le (call_2 x) (call_2_ x)) {call_3 call_3_ : LI → Option LI} (hcall_3 : ∀ x, Le (call_3 x) (call_3_ x)) {call_4 call_4_ : (LLI × LI) → Option (Bool)} (hcall_4 : ∀ x, Le (call_4 x) (call_4_ x)) {call_5 call_5_ : (LI × LI) → Option (Bool)} (hcall_5 : ∀ x, Le (call_5 x) (call_5_ x)) {n d count t144 t145 : Int} {all : LLI} {first : LI} : Le (laws_FnLangfordThere.TL15 Pr.std rt kJ20 kJ21 kJ28 kJ29 call_0 call_1 call_2 call_3 call_4 call_5 n d count t144 t145 all first) (laws_FnLangfordThere.TL15 Pr.std rt kJ20_ kJ21_ kJ28_ kJ29_ call_0_ call_1_ call_2_ call_3_ call_4_ call_5_ n d count t144 t145 all first) := by
  unfold laws_FnLangfordThere.TL15
  exact (Le.cond (Le.ite (Le.ite (Le.fl fun _ => (Le.bind (hcall_0 _) (fun rr1 => (Le.fl fun _ => (Le.bind (hcall_1 _) (fun rr2 => (Le.ite (Le.ite (Le.ite (Le.ite (Le.ite (Le.ite (Le.ite (Le.ite (Le.fl fun _ => (Le.fl fun _ => (Le.bind (hcall_2 _) (fun rr3 => (Le.ite (Le.fl fun _ => (Le.bind (hcall_3 _) (fun rr4 => (Le.fh fun _ => (Le.bind (hcall_4 _) (fun rr5 => (Le.cond (hkJ20) (Le.fl fun _ => (hkJ21 _ _ _ _ _ _ _ _))))))))) (hkJ20)))))) Le.rfl') Le.rfl') (Le.fl fun _ => (Le.bind (hcall_3 _) (fun rr6 => (Le.fh fun _ => (Le.bind (hcall_4 _) (fun rr7 => (Le.cond (hkJ20) (Le.fl fun _ => (hkJ21 _ _ _ _ _ _ _ _)))))))))) (hkJ20)) (hkJ20)) (hkJ20)) (hkJ20)) (hkJ20)))))))) Le.rfl') Le.rfl') (Le.ite (Le.ite (Le.ite (Le.ite (Le.fl fun _ => (Le.bind (hcall_5 _) (fun rr8 => (Le.cond (hkJ28) (hkJ29))))) Le.rfl') Le.rfl') (hkJ29)) (hkJ28)))
def laws_FnLangfordThere.TJ29 {α : Type} (pr : Pr) (rt : Bool → Option α) : Option α :=
  rt true
theorem laws_FnLangfordThere.QJ29_eq : laws_FnLangfordThere.QJ29 = laws_FnLangfordThere.TJ29 Pr.std (fun b => some (laws_FnLangfordThere.ret b)) := (eval_seg laws_FnLangfordThere.lin 1000000 _ _).trans (by kernel_rfl)
theorem laws_FnLangfordThere.XJ29_eq : laws_FnLangfordThere.XJ29 = laws_FnLangfordThere.TJ29 Pr.std some := by
  show dec laws_FnLangfordThere.ret (laws_FnLangfordThere.QJ29 ) = _
  rw [laws_FnLangfordThere.QJ29_eq]
  simp only [laws_FnLangfordThere.TJ29, std_fi, std_fb, std_fl, std_fll, std_flll, std_flb, std_fh, dec_ite, dec_cond, dec_bind, dec_elim, dec_none, laws_FnLangfordThere.dc]
  try rfl
theorem laws_FnLangfordThere.TJ29_mono {α : Type} {rt : (Bool) → Option α} : Le (laws_FnLangfordThere.TJ29 Pr.std rt ) (laws_FnLangfordThere.TJ29 Pr.std rt ) := by
  unfold laws_FnLangfordThere.TJ29
  exact Le.rfl'
def laws_FnLangfordThere.TJ20 {α : Type} (pr : Pr) (rt : Bool → Option α) : Option α :=
  rt false
theorem laws_FnLangfordThere.QJ20_eq : laws_FnLangfordThere.QJ20 = laws_FnLangfordThere.TJ20 Pr.std (fun b => some (laws_FnLangfordThere.ret b)) := (eval_seg laws_FnLangfordThere.lin 1000000 _ _).trans (by kernel_rfl)
theorem laws_FnLangfordThere.XJ20_eq : laws_FnLangfordThere.XJ20 = laws_FnLangfordThere.TJ20 Pr.std some := by
  show dec laws_FnLangfordThere.ret (laws_FnLangfordThere.QJ20 ) = _
  rw [laws_FnLangfordThere.QJ20_eq]
  simp only [laws_FnLangfordThere.TJ20, std_fi, std_fb, std_fl, std_fll, std_flll, std_flb, std_fh, dec_ite, dec_cond, dec_bind, dec_elim, dec_none, laws_FnLangfordThere.dc]
  try rfl
theorem laws_FnLangfordThere.TJ20_mono {α : Type} {rt : (Bool) → Option α} : Le (laws_FnLangfordThere.TJ20 Pr.std rt ) (laws_FnLangfordThere.TJ20 Pr.std rt ) := by
  unfold laws_FnLangfordThere.TJ20
  exact Le.rfl'
def laws_FnLangfordThere.TJ21 {α : Type} (pr : Pr) (rt : Bool → Option α) (kL15 : Int → Int → Int → Int → Int → LLI → LI → Option α) (call_0 : (LI × Int) → Option (Bool × LI)) (call_1 : (LI × Int) → Option (Bool × Bool)) (n d count : Int) (row : LI) (t144 t145 : Int) (all : LLI) (first : LI) : Option α :=
  (call_0 (row, 1)).bind fun rr1 =>
    bif rr1.1 then
      pr.fh rr1.2 fun y0 => (call_1 (y0, 0)).bind fun rr2 =>
        if (!(!rr2.2)) then
          bif (!rr2.1) then
            rt false
          else
            pr.fi (pr.wr .i64 (t145 + 1)) fun y4 => kL15 n d count t144 y4 all first
        else
          rt false
    else
      pr.fi (pr.wr .i64 (t145 + 1)) fun y4 => kL15 n d count t144 y4 all first
theorem laws_FnLangfordThere.QJ21_eq (n d count : Int) (row : LI) (t144 t145 : Int) (all : LLI) (first : LI) : laws_FnLangfordThere.QJ21 n d count row t144 t145 all first = laws_FnLangfordThere.TJ21 Pr.std (fun b => some (laws_FnLangfordThere.ret b)) (laws_FnLangfordThere.QL15) impl_RaiseRow.X impl_FitsShift.X n d count row t144 t145 all first := (eval_seg laws_FnLangfordThere.lin 1000000 _ _).trans (by kernel_rfl)
theorem laws_FnLangfordThere.XJ21_eq (n d count : Int) (row : LI) (t144 t145 : Int) (all : LLI) (first : LI) : laws_FnLangfordThere.XJ21 n d count row t144 t145 all first = laws_FnLangfordThere.TJ21 Pr.std some (laws_FnLangfordThere.XL15) impl_RaiseRow.X impl_FitsShift.X n d count row t144 t145 all first := by
  show dec laws_FnLangfordThere.ret (laws_FnLangfordThere.QJ21 n d count row t144 t145 all first) = _
  rw [laws_FnLangfordThere.QJ21_eq]
  simp only [laws_FnLangfordThere.TJ21, std_fi, std_fb, std_fl, std_fll, std_flll, std_flb, std_fh, dec_ite, dec_cond, dec_bind, dec_elim, dec_none, laws_FnLangfordThere.dc]
  try rfl
theorem laws_FnLangfordThere.TJ21_mono {α : Type} {rt : (Bool) → Option α} {kL15 kL15_ : Int → Int → Int → Int → Int → LLI → LI → Option α} (hkL15 : ∀ x0 x1 x2 x3 x4 x5 x6, Le (kL15 x0 x1 x2 x3 x4 x5 x6) (kL15_ x0 x1 x2 x3 x4 x5 x6)) {call_0 call_0_ : (LI × Int) → Option (Bool × LI)} (hcall_0 : ∀ x, Le (call_0 x) (call_0_ x)) {call_1 call_1_ : (LI × Int) → Option (Bool × Bool)} (hcall_1 : ∀ x, Le (call_1 x) (call_1_ x)) {n d count : Int} {row : LI} {t144 t145 : Int} {all : LLI} {first : LI} : Le (laws_FnLangfordThere.TJ21 Pr.std rt kL15 call_0 call_1 n d count row t144 t145 all first) (laws_FnLangfordThere.TJ21 Pr.std rt kL15_ call_0_ call_1_ n d count row t144 t145 all first) := by
  unfold laws_FnLangfordThere.TJ21
  exact (Le.bind (hcall_0 _) (fun rr1 => (Le.cond (Le.fh fun _ => (Le.bind (hcall_1 _) (fun rr2 => (Le.ite (Le.cond Le.rfl' (Le.fi fun _ => (hkL15 _ _ _ _ _ _ _))) Le.rfl')))) (Le.fi fun _ => (hkL15 _ _ _ _ _ _ _)))))
def laws_FnLangfordThere.TJ28 {α : Type} (pr : Pr) (rt : Bool → Option α) : Option α :=
  rt false
theorem laws_FnLangfordThere.QJ28_eq : laws_FnLangfordThere.QJ28 = laws_FnLangfordThere.TJ28 Pr.std (fun b => some (laws_FnLangfordThere.ret b)) := (eval_seg laws_FnLangfordThere.lin 1000000 _ _).trans (by kernel_rfl)
theorem laws_FnLangfordThere.XJ28_eq : laws_FnLangfordThere.XJ28 = laws_FnLangfordThere.TJ28 Pr.std some := by
  show dec laws_FnLangfordThere.ret (laws_FnLangfordThere.QJ28 ) = _
  rw [laws_FnLangfordThere.QJ28_eq]
  simp only [laws_FnLangfordThere.TJ28, std_fi, std_fb, std_fl, std_fll, std_flll, std_flb, std_fh, dec_ite, dec_cond, dec_bind, dec_elim, dec_none, laws_FnLangfordThere.dc]
  try rfl
theorem laws_FnLangfordThere.TJ28_mono {α : Type} {rt : (Bool) → Option α} : Le (laws_FnLangfordThere.TJ28 Pr.std rt ) (laws_FnLangfordThere.TJ28 Pr.std rt ) := by
  unfold laws_FnLangfordThere.TJ28
  exact Le.rfl'
noncomputable def laws_FnLangfordThere.Cs (fu : Nat) : (Option (Bool)) × (Int → Int → Int → Bool → LLI → LI → Option (Bool)) × (Int → Int → Int → Int → Int → LLI → LI → Option (Bool)) × (Option (Bool)) × (Option (Bool)) × (Int → Int → Int → LI → Int → Int → LLI → LI → Option (Bool)) × (Option (Bool)) := @Nat.rec (fun _ => (Option (Bool)) × (Int → Int → Int → Bool → LLI → LI → Option (Bool)) × (Int → Int → Int → Int → Int → LLI → LI → Option (Bool)) × (Option (Bool)) × (Option (Bool)) × (Int → Int → Int → LI → Int → Int → LLI → LI → Option (Bool)) × (Option (Bool))) ⟨none, fun _ _ _ _ _ _ => none, fun _ _ _ _ _ _ _ => none, none, none, fun _ _ _ _ _ _ _ _ => none, none⟩ (fun fu pv => ⟨laws_FnLangfordThere.TJ12 Pr.quick some , fun n d count one all first => laws_FnLangfordThere.TJ13 Pr.quick some (pv.2.2.1) (pv.2.2.2.1) n d count one all first, fun n d count t144 t145 all first => laws_FnLangfordThere.TL15 Pr.quick some (pv.2.2.2.2.1) (pv.2.2.2.2.2.1) (pv.2.2.2.2.2.2) (pv.2.2.2.1) (impl_IsLangford.C fu) (impl_LeastOfLangford.C fu) (laws_jLess.C fu) (laws_jBack.C fu) (laws_jIn.C fu) (laws_jSame.C fu) n d count t144 t145 all first, laws_FnLangfordThere.TJ29 Pr.quick some , laws_FnLangfordThere.TJ20 Pr.quick some , fun n d count row t144 t145 all first => laws_FnLangfordThere.TJ21 Pr.quick some (pv.2.2.1) (impl_RaiseRow.C fu) (impl_FitsShift.C fu) n d count row t144 t145 all first, laws_FnLangfordThere.TJ28 Pr.quick some ⟩) fu
noncomputable def laws_FnLangfordThere.CJ12 (fu : Nat) : Option (Bool) := (laws_FnLangfordThere.Cs fu).1
noncomputable def laws_FnLangfordThere.CJ13 (fu : Nat) : Int → Int → Int → Bool → LLI → LI → Option (Bool) := (laws_FnLangfordThere.Cs fu).2.1
noncomputable def laws_FnLangfordThere.CL15 (fu : Nat) : Int → Int → Int → Int → Int → LLI → LI → Option (Bool) := (laws_FnLangfordThere.Cs fu).2.2.1
noncomputable def laws_FnLangfordThere.CJ29 (fu : Nat) : Option (Bool) := (laws_FnLangfordThere.Cs fu).2.2.2.1
noncomputable def laws_FnLangfordThere.CJ20 (fu : Nat) : Option (Bool) := (laws_FnLangfordThere.Cs fu).2.2.2.2.1
noncomputable def laws_FnLangfordThere.CJ21 (fu : Nat) : Int → Int → Int → LI → Int → Int → LLI → LI → Option (Bool) := (laws_FnLangfordThere.Cs fu).2.2.2.2.2.1
noncomputable def laws_FnLangfordThere.CJ28 (fu : Nat) : Option (Bool) := (laws_FnLangfordThere.Cs fu).2.2.2.2.2.2
noncomputable def laws_FnLangfordThere.C (fu : Nat) (a : LI × LI) : Option (Bool) := laws_FnLangfordThere.T Pr.quick some (laws_FnLangfordThere.CJ12 fu) (laws_FnLangfordThere.CJ13 fu) (laws_big.C fu) (spec_DrawAllLangford.C fu) (impl_CountLangford.C fu) (spec_CountLangford.C fu) (impl_AllLangford.C fu) (spec_AllLangford.C fu) (impl_FirstLangford.C fu) (spec_FirstLangford.C fu) (impl_IsLangfordThere.C fu) (laws_jRows.C fu) (laws_jSame.C fu) a.1 a.2
theorem laws_FnLangfordThere.C_okc : ∀ fu, fu ≤ 100000 → (Le (laws_FnLangfordThere.CJ12 fu) (laws_FnLangfordThere.XJ12)) ∧ (∀ n d count one all first, Le (laws_FnLangfordThere.CJ13 fu n d count one all first) (laws_FnLangfordThere.XJ13 n d count one all first)) ∧ (∀ n d count t144 t145 all first, Le (laws_FnLangfordThere.CL15 fu n d count t144 t145 all first) (laws_FnLangfordThere.XL15 n d count t144 t145 all first)) ∧ (Le (laws_FnLangfordThere.CJ29 fu) (laws_FnLangfordThere.XJ29)) ∧ (Le (laws_FnLangfordThere.CJ20 fu) (laws_FnLangfordThere.XJ20)) ∧ (∀ n d count row t144 t145 all first, Le (laws_FnLangfordThere.CJ21 fu n d count row t144 t145 all first) (laws_FnLangfordThere.XJ21 n d count row t144 t145 all first)) ∧ (Le (laws_FnLangfordThere.CJ28 fu) (laws_FnLangfordThere.XJ28))
  | 0, _ => by
    refine ⟨?_, ?_, ?_, ?_, ?_, ?_, ?_⟩
    all_goals (intros; exact Le.none)
  | fu + 1, hfu => by
    have ih := laws_FnLangfordThere.C_okc fu (by omega)
    refine ⟨?_, ?_, ?_, ?_, ?_, ?_, ?_⟩
    · skip
      show Le (laws_FnLangfordThere.TJ12 Pr.quick some ) _
      rw [Pr.quick_eq, laws_FnLangfordThere.XJ12_eq]
      exact laws_FnLangfordThere.TJ12_mono
    · intro n d count one all first
      show Le (laws_FnLangfordThere.TJ13 Pr.quick some (laws_FnLangfordThere.CL15 fu) (laws_FnLangfordThere.CJ29 fu) n d count one all first) _
      rw [Pr.quick_eq, laws_FnLangfordThere.XJ13_eq]
      exact laws_FnLangfordThere.TJ13_mono (ih.2.2.1) (ih.2.2.2.1)
    · intro n d count t144 t145 all first
      show Le (laws_FnLangfordThere.TL15 Pr.quick some (laws_FnLangfordThere.CJ20 fu) (laws_FnLangfordThere.CJ21 fu) (laws_FnLangfordThere.CJ28 fu) (laws_FnLangfordThere.CJ29 fu) (impl_IsLangford.C fu) (impl_LeastOfLangford.C fu) (laws_jLess.C fu) (laws_jBack.C fu) (laws_jIn.C fu) (laws_jSame.C fu) n d count t144 t145 all first) _
      rw [Pr.quick_eq, laws_FnLangfordThere.XL15_eq]
      exact laws_FnLangfordThere.TL15_mono (ih.2.2.2.2.1) (ih.2.2.2.2.2.1) (ih.2.2.2.2.2.2) (ih.2.2.2.1) (fun x => impl_IsLangford.C_ok fu (by omega) x) (fun x => impl_LeastOfLangford.C_ok fu (by omega) x) (fun x => laws_jLess.C_ok fu (by omega) x) (fun x => laws_jBack.C_ok fu (by omega) x) (fun x => laws_jIn.C_ok fu (by omega) x) (fun x => laws_jSame.C_ok fu (by omega) x)
    · skip
      show Le (laws_FnLangfordThere.TJ29 Pr.quick some ) _
      rw [Pr.quick_eq, laws_FnLangfordThere.XJ29_eq]
      exact laws_FnLangfordThere.TJ29_mono
    · skip
      show Le (laws_FnLangfordThere.TJ20 Pr.quick some ) _
      rw [Pr.quick_eq, laws_FnLangfordThere.XJ20_eq]
      exact laws_FnLangfordThere.TJ20_mono
    · intro n d count row t144 t145 all first
      show Le (laws_FnLangfordThere.TJ21 Pr.quick some (laws_FnLangfordThere.CL15 fu) (impl_RaiseRow.C fu) (impl_FitsShift.C fu) n d count row t144 t145 all first) _
      rw [Pr.quick_eq, laws_FnLangfordThere.XJ21_eq]
      exact laws_FnLangfordThere.TJ21_mono (ih.2.2.1) (fun x => impl_RaiseRow.C_ok fu (by omega) x) (fun x => impl_FitsShift.C_ok fu (by omega) x)
    · skip
      show Le (laws_FnLangfordThere.TJ28 Pr.quick some ) _
      rw [Pr.quick_eq, laws_FnLangfordThere.XJ28_eq]
      exact laws_FnLangfordThere.TJ28_mono
theorem laws_FnLangfordThere.C_ok (fu : Nat) (hfu : fu ≤ 100000) (a : LI × LI) : Le (laws_FnLangfordThere.C fu a) (laws_FnLangfordThere.X a) := by
  obtain ⟨code, more⟩ := a
  show Le (laws_FnLangfordThere.T Pr.quick some (laws_FnLangfordThere.CJ12 fu) (laws_FnLangfordThere.CJ13 fu) (laws_big.C fu) (spec_DrawAllLangford.C fu) (impl_CountLangford.C fu) (spec_CountLangford.C fu) (impl_AllLangford.C fu) (spec_AllLangford.C fu) (impl_FirstLangford.C fu) (spec_FirstLangford.C fu) (impl_IsLangfordThere.C fu) (laws_jRows.C fu) (laws_jSame.C fu) code more) _
  rw [Pr.quick_eq, laws_FnLangfordThere.X_eq]
  exact laws_FnLangfordThere.T_mono ((laws_FnLangfordThere.C_okc fu hfu).1) ((laws_FnLangfordThere.C_okc fu hfu).2.1) (fun x => laws_big.C_ok fu hfu x) (fun x => spec_DrawAllLangford.C_ok fu hfu x) (fun x => impl_CountLangford.C_ok fu hfu x) (fun x => spec_CountLangford.C_ok fu hfu x) (fun x => impl_AllLangford.C_ok fu hfu x) (fun x => spec_AllLangford.C_ok fu hfu x) (fun x => impl_FirstLangford.C_ok fu hfu x) (fun x => spec_FirstLangford.C_ok fu hfu x) (fun x => impl_IsLangfordThere.C_ok fu hfu x) (fun x => laws_jRows.C_ok fu hfu x) (fun x => laws_jSame.C_ok fu hfu x)
end Go.VS
