/- printed by gen.py: a part of the walk through the program. No condition. -/
import Derived.Test.YtnibmainjgcmaaaG10
set_option linter.unusedVariables false
set_option linter.unusedSimpArgs false
set_option maxRecDepth 100000
namespace Go.VS
/-! ### loop.example/g01232/impl.isFrom -/
def impl_isFrom.s0 (a : LI × Int) : St := { slots := [.sl (.int .i64) a.1, .int .i64 a.2], rows := [], boxes := [] }
def impl_isFrom.pat : St → Option (LI × Int)
  | { slots := [.sl (.int .i64) row, .int .i64 least], rows := [], boxes := [], gd := [] } => some (row, least)
  | _ => none
theorem impl_isFrom.hp : ∀ st a, impl_isFrom.pat st = some a → st = impl_isFrom.s0 a := by
  intro st a h
  unfold impl_isFrom.pat at h
  split at h
  · cases h; rfl
  · cases h
def impl_isFrom.ret (r : Int × Bool) : R := ({ slots := [], rows := [], boxes := [] }, [.int .i64 r.1, .bool r.2])
def impl_isFrom.ap (b : Int × Bool) (K : St → List V → Option R) : Option R := K (impl_isFrom.ret b).1 (impl_isFrom.ret b).2
theorem impl_isFrom.hap : ∀ b K, impl_isFrom.ap b K = K (impl_isFrom.ret b).1 (impl_isFrom.ret b).2 := fun _ _ => rfl
theorem impl_isFrom.inj : ∀ x y, impl_isFrom.ret x = impl_isFrom.ret y → x = y := by
  intro x y h
  obtain ⟨x1, x2⟩ := x; obtain ⟨y1, y2⟩ := y; cases h; rfl
theorem impl_isFrom.dc (x : Int × Bool) : dec impl_isFrom.ret (some (impl_isFrom.ret x)) = some x := dec_ret impl_isFrom.inj x
noncomputable def impl_isFrom.cx : Cx := { ty := TY, fns := [(88, impl_numbers.E)], nk := [], sharp := true }
noncomputable def impl_isFrom.body : Code := Go.Proofs.Try.f89.body.getD .skip
def impl_isFrom.fl : Fn := { loops := [(3, [(1, none), (6, none), (11, none), (12, none), (13, none)])], joins := [], nr := 0, nb := 0, rs := [.tmp 4, .tmp 5], pre := [], mv := [], fz := [] }
noncomputable def impl_isFrom.Q (a : LI × Int) : Option R := eval impl_isFrom.cx impl_isFrom.fl [.code impl_isFrom.body] (start 29 (impl_isFrom.s0 a))
noncomputable def impl_isFrom.X (a : LI × Int) : Option (Int × Bool) := dec impl_isFrom.ret (impl_isFrom.Q a)
def impl_isFrom.sL3 (least t12 t13 : Int) (list : LI) : St := { slots := [D, .int .i64 least, D, D, D, D, .row 1000384, D, D, D, D, .row 1000384, .int .i64 t12, .int .i64 t13, D, D, D, D, D, D, D, D, D, D, D, D, D, D, D], rows := [(1000384, ⟨.int .i64, list⟩)], boxes := [] }
noncomputable def impl_isFrom.tL3 : List It := (findL 3 impl_isFrom.body []).getD []
noncomputable def impl_isFrom.QL3 (least t12 t13 : Int) (list : LI) : Option R := eval impl_isFrom.cx impl_isFrom.fl impl_isFrom.tL3 (impl_isFrom.sL3 least t12 t13 list)
noncomputable def impl_isFrom.XL3 (least t12 t13 : Int) (list : LI) : Option (Int × Bool) := dec impl_isFrom.ret (impl_isFrom.QL3 least t12 t13 list)
theorem impl_isFrom.fns : FnsOk Go.Proofs.Try.prog impl_isFrom.cx := show FnsL _ _ from (fns_cons impl_numbers.ok fns_nil)
theorem impl_isFrom.lin : impl_isFrom.cx.Lin := Lin.of_fns impl_isFrom.fns
noncomputable def impl_isFrom.E : Entry := mkE [] impl_isFrom.pat impl_isFrom.X impl_isFrom.ap
theorem impl_isFrom.ok : EntOk Go.Proofs.Try.prog 89 impl_isFrom.E := mkE_ok (fun w args => Go.Proofs.Try.call89 args w) impl_isFrom.hp impl_isFrom.hap fun a b h => vc_of_X mixed (tyB_ok (cx := impl_isFrom.cx) tyOk) impl_isFrom.fns (fl := impl_isFrom.fl) Go.Proofs.Try.func89 (code := impl_isFrom.body) (by kernel_rfl) (n := 29) (by kernel_rfl) (by kernel_rfl) (by decide) (by decide) rfl rfl h
def impl_isFrom.T {α : Type} (pr : Pr) (rt : (Int × Bool) → Option α) (kL3 : Int → Int → Int → LI → Option α) (call_0 : LI → Option LI) (row : LI) (least : Int) : Option α :=
  (call_0 row).bind fun rr1 =>
    pr.fi ((rr1.length : Nat) : Int) fun y1 => pr.fh rr1 fun y3 => kL3 least y1 0 y3
theorem impl_isFrom.Q_eq (row : LI) (least : Int) : impl_isFrom.Q (row, least) = impl_isFrom.T Pr.std (fun b => some (impl_isFrom.ret b)) (impl_isFrom.QL3) impl_numbers.X row least := (eval_seg impl_isFrom.lin 1000000 _ _).trans (by kernel_rfl)
theorem impl_isFrom.X_eq (row : LI) (least : Int) : impl_isFrom.X (row, least) = impl_isFrom.T Pr.std some (impl_isFrom.XL3) impl_numbers.X row least := by
  show dec impl_isFrom.ret (impl_isFrom.Q (row, least)) = _
  rw [impl_isFrom.Q_eq]
  simp only [impl_isFrom.T, std_fi, std_fb, std_fl, std_fll, std_flll, std_flb, std_fh, dec_ite, dec_cond, dec_bind, dec_elim, dec_none, impl_isFrom.dc]
  try rfl
theorem impl_isFrom.T_mono {α : Type} {rt : (Int × Bool) → Option α} {kL3 kL3_ : Int → Int → Int → LI → Option α} (hkL3 : ∀ x0 x1 x2 x3, Le (kL3 x0 x1 x2 x3) (kL3_ x0 x1 x2 x3)) {call_0 call_0_ : LI → Option LI} (hcall_0 : ∀ x, Le (call_0 x) (call_0_ x)) {row : LI} {least : Int} : Le (impl_isFrom.T Pr.std rt kL3 call_0 row least) (impl_isFrom.T Pr.std rt kL3_ call_0_ row least) := by
  unfold impl_isFrom.T
  exact (Le.bind (hcall_0 _) (fun rr1 => (Le.fi fun _ => (Le.fh fun _ => (hkL3 _ _ _ _)))))
def impl_isFrom.TL3 {α : Type} (pr : Pr) (rt : (Int × Bool) → Option α) (kL3 : Int → Int → Int → LI → Option α) (least t12 t13 : Int) (list : LI) : Option α :=
  bif (pr.lt t13 t12) then
    if (pr.inR t13 list.length) then
      if (pr.nlt ((t13).toNat) list.length) then
        bif (pr.ne (pr.gd list ((t13).toNat) 0) (pr.wr .i64 (least + t13))) then
          rt (0, false)
        else
          pr.fi (pr.wr .i64 (t13 + 1)) fun y2 => kL3 least t12 y2 list
      else
        none
    else
      none
  else
    pr.fi ((list.length : Nat) : Int) fun y0 => pr.fb (pr.gt ((list.length : Nat) : Int) 0) fun y1 => rt (y0, y1)
theorem impl_isFrom.QL3_eq (least t12 t13 : Int) (list : LI) : impl_isFrom.QL3 least t12 t13 list = impl_isFrom.TL3 Pr.std (fun b => some (impl_isFrom.ret b)) (impl_isFrom.QL3) least t12 t13 list := (eval_seg impl_isFrom.lin 1000000 _ _).trans (by kernel_rfl)
theorem impl_isFrom.XL3_eq (least t12 t13 : Int) (list : LI) : impl_isFrom.XL3 least t12 t13 list = impl_isFrom.TL3 Pr.std some (impl_isFrom.XL3) least t12 t13 list := by
  show dec impl_isFrom.ret (impl_isFrom.QL3 least t12 t13 list) = _
  rw [impl_isFrom.QL3_eq]
  simp only [impl_isFrom.TL3, std_fi, std_fb, std_fl, std_fll, std_flll, std_flb, std_fh, dec_ite, dec_cond, dec_bind, dec_elim, dec_none, impl_isFrom.dc]
  try rfl
theorem impl_isFrom.TL3_mono {α : Type} {rt : (Int × Bool) → Option α} {kL3 kL3_ : Int → Int → Int → LI → Option α} (hkL3 : ∀ x0 x1 x2 x3, Le (kL3 x0 x1 x2 x3) (kL3_ x0 x1 x2 x3)) {least t12 t13 : Int} {list : LI} : Le (impl_isFrom.TL3 Pr.std rt kL3 least t12 t13 list) (impl_isFrom.TL3 Pr.std rt kL3_ least t12 t13 list) := by
  unfold impl_isFrom.TL3
  exact (Le.cond (Le.ite (Le.ite (Le.cond Le.rfl' (Le.fi fun _ => (hkL3 _ _ _ _))) Le.rfl') Le.rfl') Le.rfl')
noncomputable def impl_isFrom.Cs (fu : Nat) : (Int → Int → Int → LI → Option (Int × Bool)) := @Nat.rec (fun _ => (Int → Int → Int → LI → Option (Int × Bool))) (fun _ _ _ _ => none) (fun fu pv => fun least t12 t13 list => impl_isFrom.TL3 Pr.quick some (pv) least t12 t13 list) fu
noncomputable def impl_isFrom.CL3 (fu : Nat) : Int → Int → Int → LI → Option (Int × Bool) := (impl_isFrom.Cs fu)
noncomputable def impl_isFrom.C (fu : Nat) (a : LI × Int) : Option (Int × Bool) := impl_isFrom.T Pr.quick some (impl_isFrom.CL3 fu) (impl_numbers.C fu) a.1 a.2
theorem impl_isFrom.C_okc : ∀ fu, fu ≤ 100000 → (∀ least t12 t13 list, Le (impl_isFrom.CL3 fu least t12 t13 list) (impl_isFrom.XL3 least t12 t13 list))
  | 0, _ => by
    refine ?_
    all_goals (intros; exact Le.none)
  | fu + 1, hfu => by
    have ih := impl_isFrom.C_okc fu (by omega)
    refine ?_
    · intro least t12 t13 list
      show Le (impl_isFrom.TL3 Pr.quick some (impl_isFrom.CL3 fu) least t12 t13 list) _
      rw [Pr.quick_eq, impl_isFrom.XL3_eq]
      exact impl_isFrom.TL3_mono (ih)
theorem impl_isFrom.C_ok (fu : Nat) (hfu : fu ≤ 100000) (a : LI × Int) : Le (impl_isFrom.C fu a) (impl_isFrom.X a) := by
  obtain ⟨row, least⟩ := a
  show Le (impl_isFrom.T Pr.quick some (impl_isFrom.CL3 fu) (impl_numbers.C fu) row least) _
  rw [Pr.quick_eq, impl_isFrom.X_eq]
  exact impl_isFrom.T_mono ((impl_isFrom.C_okc fu hfu)) (fun x => impl_numbers.C_ok fu hfu x)
/-! ### loop.example/g01232/impl.langford -/
def impl_langford.s0 (a : LI) : St := { slots := [.sl (.int .i64) a], rows := [], boxes := [] }
def impl_langford.pat : St → Option LI
  | { slots := [.sl (.int .i64) row], rows := [], boxes := [], gd := [] } => some row
  | _ => none
theorem impl_langford.hp : ∀ st a, impl_langford.pat st = some a → st = impl_langford.s0 a := by
  intro st a h
  unfold impl_langford.pat at h
  split at h
  · cases h; rfl
  · cases h
def impl_langford.ret (r : Int) : R := ({ slots := [], rows := [], boxes := [] }, [.int .i64 r])
def impl_langford.ap (b : Int) (K : St → List V → Option R) : Option R := K (impl_langford.ret b).1 (impl_langford.ret b).2
theorem impl_langford.hap : ∀ b K, impl_langford.ap b K = K (impl_langford.ret b).1 (impl_langford.ret b).2 := fun _ _ => rfl
theorem impl_langford.inj : ∀ x y, impl_langford.ret x = impl_langford.ret y → x = y := by
  intro x y h
  cases h; rfl
theorem impl_langford.dc (x : Int) : dec impl_langford.ret (some (impl_langford.ret x)) = some x := dec_ret impl_langford.inj x
noncomputable def impl_langford.cx : Cx := { ty := TY, fns := [(59, impl_fits.E), (87, impl_holes.E), (88, impl_numbers.E), (89, impl_isFrom.E)], nk := [], sharp := true }
noncomputable def impl_langford.body : Code := Go.Proofs.Try.f55.body.getD .skip
def impl_langford.fl : Fn := { loops := [], joins := [], nr := 0, nb := 0, rs := [.tmp 2], pre := [], mv := [], fz := [] }
noncomputable def impl_langford.Q (a : LI) : Option R := eval impl_langford.cx impl_langford.fl [.code impl_langford.body] (start 33 (impl_langford.s0 a))
noncomputable def impl_langford.X (a : LI) : Option (Int) := dec impl_langford.ret (impl_langford.Q a)
theorem impl_langford.fns : FnsOk Go.Proofs.Try.prog impl_langford.cx := show FnsL _ _ from (fns_cons impl_fits.ok (fns_cons impl_holes.ok (fns_cons impl_numbers.ok (fns_cons impl_isFrom.ok fns_nil))))
theorem impl_langford.lin : impl_langford.cx.Lin := Lin.of_fns impl_langford.fns
noncomputable def impl_langford.E : Entry := mkE [] impl_langford.pat impl_langford.X impl_langford.ap
theorem impl_langford.ok : EntOk Go.Proofs.Try.prog 55 impl_langford.E := mkE_ok (fun w args => Go.Proofs.Try.call55 args w) impl_langford.hp impl_langford.hap fun a b h => vc_of_X mixed (tyB_ok (cx := impl_langford.cx) tyOk) impl_langford.fns (fl := impl_langford.fl) Go.Proofs.Try.func55 (code := impl_langford.body) (by kernel_rfl) (n := 33) (by kernel_rfl) (by kernel_rfl) (by decide) (by decide) rfl rfl h
def impl_langford.T {α : Type} (pr : Pr) (rt : Int → Option α) (call_0 : (LI × Int) → Option (Bool)) (call_1 : LI → Option LI) (call_2 : LI → Option LI) (call_3 : (LI × Int) → Option (Int × Bool)) (row : LI) : Option α :=
  (call_0 (row, 1)).bind fun rr1 =>
    if (!(!rr1)) then
      if (!(pr.eq ((row.length : Nat) : Int) 0)) then
        (call_1 row).bind fun rr2 =>
          bif (pr.gt ((rr2.length : Nat) : Int) 0) then
            rt 0
          else
            (call_2 row).bind fun rr3 =>
              if (pr.inR 0 rr3.length) then
                if (pr.nlt 0 rr3.length) then
                  pr.fi (pr.gd rr3 0 0) fun y1 => (call_3 (row, y1)).bind fun rr4 =>
                    bif (!rr4.2) then
                      rt 0
                    else
                      pr.fi (pr.gd rr3 0 0) fun y0 => rt y0
                else
                  none
              else
                none
      else
        rt 0
    else
      rt 0
theorem impl_langford.Q_eq (row : LI) : impl_langford.Q row = impl_langford.T Pr.std (fun b => some (impl_langford.ret b)) impl_fits.X impl_holes.X impl_numbers.X impl_isFrom.X row := (eval_seg impl_langford.lin 1000000 _ _).trans (by kernel_rfl)
theorem impl_langford.X_eq (row : LI) : impl_langford.X row = impl_langford.T Pr.std some impl_fits.X impl_holes.X impl_numbers.X impl_isFrom.X row := by
  show dec impl_langford.ret (impl_langford.Q row) = _
  rw [impl_langford.Q_eq]
  simp only [impl_langford.T, std_fi, std_fb, std_fl, std_fll, std_flll, std_flb, std_fh, dec_ite, dec_cond, dec_bind, dec_elim, dec_none, impl_langford.dc]
  try rfl
theorem impl_langford.T_mono {α : Type} {rt : (Int) → Option α} {call_0 call_0_ : (LI × Int) → Option (Bool)} (hcall_0 : ∀ x, Le (call_0 x) (call_0_ x)) {call_1 call_1_ : LI → Option LI} (hcall_1 : ∀ x, Le (call_1 x) (call_1_ x)) {call_2 call_2_ : LI → Option LI} (hcall_2 : ∀ x, Le (call_2 x) (call_2_ x)) {call_3 call_3_ : (LI × Int) → Option (Int × Bool)} (hcall_3 : ∀ x, Le (call_3 x) (call_3_ x)) {row : LI} : Le (impl_langford.T Pr.std rt call_0 call_1 call_2 call_3 row) (impl_langford.T Pr.std rt call_0_ call_1_ call_2_ call_3_ row) := by
  unfold impl_langford.T
  exact (Le.bind (hcall_0 _) (fun rr1 => (Le.ite (Le.ite (Le.bind (hcall_1 _) (fun rr2 => (Le.cond Le.rfl' (Le.bind (hcall_2 _) (fun rr3 => (Le.ite (Le.ite (Le.fi fun _ => (Le.bind (hcall_3 _) (fun rr4 => (Le.cond Le.rfl' Le.rfl')))) Le.rfl') Le.rfl')))))) Le.rfl') Le.rfl')))
noncomputable def impl_langford.C (fu : Nat) (a : LI) : Option (Int) := impl_langford.T Pr.quick some (impl_fits.C fu) (impl_holes.C fu) (impl_numbers.C fu) (impl_isFrom.C fu) a
theorem impl_langford.C_ok (fu : Nat) (hfu : fu ≤ 100000) (a : LI) : Le (impl_langford.C fu a) (impl_langford.X a) := by
  show Le (impl_langford.T Pr.quick some (impl_fits.C fu) (impl_holes.C fu) (impl_numbers.C fu) (impl_isFrom.C fu) a) _
  rw [Pr.quick_eq, impl_langford.X_eq]
  exact impl_langford.T_mono (fun x => impl_fits.C_ok fu hfu x) (fun x => impl_holes.C_ok fu hfu x) (fun x => impl_numbers.C_ok fu hfu x) (fun x => impl_isFrom.C_ok fu hfu x)
/-! ### loop.example/g01232/impl.IsLangford -/
def impl_IsLangford.s0 (a : LI) : St := { slots := [.sl (.int .i64) a], rows := [], boxes := [] }
def impl_IsLangford.pat : St → Option LI
  | { slots := [.sl (.int .i64) row], rows := [], boxes := [], gd := [] } => some row
  | _ => none
theorem impl_IsLangford.hp : ∀ st a, impl_IsLangford.pat st = some a → st = impl_IsLangford.s0 a := by
  intro st a h
  unfold impl_IsLangford.pat at h
  split at h
  · cases h; rfl
  · cases h
def impl_IsLangford.ret (r : Bool × Bool) : R := ({ slots := [], rows := [], boxes := [] }, [.bool r.1, .bool r.2])
def impl_IsLangford.ap (b : Bool × Bool) (K : St → List V → Option R) : Option R := K (impl_IsLangford.ret b).1 (impl_IsLangford.ret b).2
theorem impl_IsLangford.hap : ∀ b K, impl_IsLangford.ap b K = K (impl_IsLangford.ret b).1 (impl_IsLangford.ret b).2 := fun _ _ => rfl
theorem impl_IsLangford.inj : ∀ x y, impl_IsLangford.ret x = impl_IsLangford.ret y → x = y := by
  intro x y h
  obtain ⟨x1, x2⟩ := x; obtain ⟨y1, y2⟩ := y; cases h; rfl
theorem impl_IsLangford.dc (x : Bool × Bool) : dec impl_IsLangford.ret (some (impl_IsLangford.ret x)) = some x := dec_ret impl_IsLangford.inj x
noncomputable def impl_IsLangford.cx : Cx := { ty := TY, fns := [(54, impl_isPairs.E), (55, impl_langford.E)], nk := [], sharp := true }
noncomputable def impl_IsLangford.body : Code := Go.Proofs.Try.f16.body.getD .skip
def impl_IsLangford.fl : Fn := { loops := [], joins := [], nr := 0, nb := 0, rs := [.tmp 2, .tmp 3], pre := [], mv := [], fz := [] }
noncomputable def impl_IsLangford.Q (a : LI) : Option R := eval impl_IsLangford.cx impl_IsLangford.fl [.code impl_IsLangford.body] (start 10 (impl_IsLangford.s0 a))
noncomputable def impl_IsLangford.X (a : LI) : Option (Bool × Bool) := dec impl_IsLangford.ret (impl_IsLangford.Q a)
theorem impl_IsLangford.fns : FnsOk Go.Proofs.Try.prog impl_IsLangford.cx := show FnsL _ _ from (fns_cons impl_isPairs.ok (fns_cons impl_langford.ok fns_nil))
theorem impl_IsLangford.lin : impl_IsLangford.cx.Lin := Lin.of_fns impl_IsLangford.fns
noncomputable def impl_IsLangford.E : Entry := mkE [] impl_IsLangford.pat impl_IsLangford.X impl_IsLangford.ap
theorem impl_IsLangford.ok : EntOk Go.Proofs.Try.prog 16 impl_IsLangford.E := mkE_ok (fun w args => Go.Proofs.Try.call16 args w) impl_IsLangford.hp impl_IsLangford.hap fun a b h => vc_of_X mixed (tyB_ok (cx := impl_IsLangford.cx) tyOk) impl_IsLangford.fns (fl := impl_IsLangford.fl) Go.Proofs.Try.func16 (code := impl_IsLangford.body) (by kernel_rfl) (n := 10) (by kernel_rfl) (by kernel_rfl) (by decide) (by decide) rfl rfl h
def impl_IsLangford.T {α : Type} (pr : Pr) (rt : (Bool × Bool) → Option α) (call_0 : LI → Option (Bool)) (call_1 : LI → Option (Int)) (row : LI) : Option α :=
  (call_0 row).bind fun rr1 =>
    bif (!rr1) then
      rt (false, false)
    else
      (call_1 row).bind fun rr2 =>
        pr.fb (pr.gt rr2 0) fun y0 => rt (y0, true)
theorem impl_IsLangford.Q_eq (row : LI) : impl_IsLangford.Q row = impl_IsLangford.T Pr.std (fun b => some (impl_IsLangford.ret b)) impl_isPairs.X impl_langford.X row := (eval_seg impl_IsLangford.lin 1000000 _ _).trans (by kernel_rfl)
theorem impl_IsLangford.X_eq (row : LI) : impl_IsLangford.X row = impl_IsLangford.T Pr.std some impl_isPairs.X impl_langford.X row := by
  show dec impl_IsLangford.ret (impl_IsLangford.Q row) = _
  rw [impl_IsLangford.Q_eq]
  simp only [impl_IsLangford.T, std_fi, std_fb, std_fl, std_fll, std_flll, std_flb, std_fh, dec_ite, dec_cond, dec_bind, dec_elim, dec_none, impl_IsLangford.dc]
  try rfl
theorem impl_IsLangford.T_mono {α : Type} {rt : (Bool × Bool) → Option α} {call_0 call_0_ : LI → Option (Bool)} (hcall_0 : ∀ x, Le (call_0 x) (call_0_ x)) {call_1 call_1_ : LI → Option (Int)} (hcall_1 : ∀ x, Le (call_1 x) (call_1_ x)) {row : LI} : Le (impl_IsLangford.T Pr.std rt call_0 call_1 row) (impl_IsLangford.T Pr.std rt call_0_ call_1_ row) := by
  unfold impl_IsLangford.T
  exact (Le.bind (hcall_0 _) (fun rr1 => (Le.cond Le.rfl' (Le.bind (hcall_1 _) (fun rr2 => Le.rfl')))))
noncomputable def impl_IsLangford.C (fu : Nat) (a : LI) : Option (Bool × Bool) := impl_IsLangford.T Pr.quick some (impl_isPairs.C fu) (impl_langford.C fu) a
theorem impl_IsLangford.C_ok (fu : Nat) (hfu : fu ≤ 100000) (a : LI) : Le (impl_IsLangford.C fu a) (impl_IsLangford.X a) := by
  show Le (impl_IsLangford.T Pr.quick some (impl_isPairs.C fu) (impl_langford.C fu) a) _
  rw [Pr.quick_eq, impl_IsLangford.X_eq]
  exact impl_IsLangford.T_mono (fun x => impl_isPairs.C_ok fu hfu x) (fun x => impl_langford.C_ok fu hfu x)
/-! ### loop.example/g01232/impl.LeastOfLangford -/
def impl_LeastOfLangford.s0 (a : LI) : St := { slots := [.sl (.int .i64) a], rows := [], boxes := [] }
def impl_LeastOfLangford.pat : St → Option LI
  | { slots := [.sl (.int .i64) row], rows := [], boxes := [], gd := [] } => some row
  | _ => none
theorem impl_LeastOfLangford.hp : ∀ st a, impl_LeastOfLangford.pat st = some a → st = impl_LeastOfLangford.s0 a := by
  intro st a h
  unfold impl_LeastOfLangford.pat at h
  split at h
  · cases h; rfl
  · cases h
def impl_LeastOfLangford.ret (r : Int × Bool) : R := ({ slots := [], rows := [], boxes := [] }, [.int .i64 r.1, .bool r.2])
def impl_LeastOfLangford.ap (b : Int × Bool) (K : St → List V → Option R) : Option R := K (impl_LeastOfLangford.ret b).1 (impl_LeastOfLangford.ret b).2
theorem impl_LeastOfLangford.hap : ∀ b K, impl_LeastOfLangford.ap b K = K (impl_LeastOfLangford.ret b).1 (impl_LeastOfLangford.ret b).2 := fun _ _ => rfl
theorem impl_LeastOfLangford.inj : ∀ x y, impl_LeastOfLangford.ret x = impl_LeastOfLangford.ret y → x = y := by
  intro x y h
  obtain ⟨x1, x2⟩ := x; obtain ⟨y1, y2⟩ := y; cases h; rfl
theorem impl_LeastOfLangford.dc (x : Int × Bool) : dec impl_LeastOfLangford.ret (some (impl_LeastOfLangford.ret x)) = some x := dec_ret impl_LeastOfLangford.inj x
noncomputable def impl_LeastOfLangford.cx : Cx := { ty := TY, fns := [(55, impl_langford.E)], nk := [], sharp := true }
noncomputable def impl_LeastOfLangford.body : Code := Go.Proofs.Try.f17.body.getD .skip
def impl_LeastOfLangford.fl : Fn := { loops := [], joins := [], nr := 0, nb := 0, rs := [.tmp 2, .tmp 3], pre := [], mv := [], fz := [] }
noncomputable def impl_LeastOfLangford.Q (a : LI) : Option R := eval impl_LeastOfLangford.cx impl_LeastOfLangford.fl [.code impl_LeastOfLangford.body] (start 10 (impl_LeastOfLangford.s0 a))
noncomputable def impl_LeastOfLangford.X (a : LI) : Option (Int × Bool) := dec impl_LeastOfLangford.ret (impl_LeastOfLangford.Q a)
theorem impl_LeastOfLangford.fns : FnsOk Go.Proofs.Try.prog impl_LeastOfLangford.cx := show FnsL _ _ from (fns_cons impl_langford.ok fns_nil)
theorem impl_LeastOfLangford.lin : impl_LeastOfLangford.cx.Lin := Lin.of_fns impl_LeastOfLangford.fns
noncomputable def impl_LeastOfLangford.E : Entry := mkE [] impl_LeastOfLangford.pat impl_LeastOfLangford.X impl_LeastOfLangford.ap
theorem impl_LeastOfLangford.ok : EntOk Go.Proofs.Try.prog 17 impl_LeastOfLangford.E := mkE_ok (fun w args => Go.Proofs.Try.call17 args w) impl_LeastOfLangford.hp impl_LeastOfLangford.hap fun a b h => vc_of_X mixed (tyB_ok (cx := impl_LeastOfLangford.cx) tyOk) impl_LeastOfLangford.fns (fl := impl_LeastOfLangford.fl) Go.Proofs.Try.func17 (code := impl_LeastOfLangford.body) (by kernel_rfl) (n := 10) (by kernel_rfl) (by kernel_rfl) (by decide) (by decide) rfl rfl h
def impl_LeastOfLangford.T {α : Type} (pr : Pr) (rt : (Int × Bool) → Option α) (call_0 : LI → Option (Int)) (row : LI) : Option α :=
  (call_0 row).bind fun rr1 =>
    pr.fi rr1 fun y0 => pr.fb (pr.gt rr1 0) fun y1 => rt (y0, y1)
theorem impl_LeastOfLangford.Q_eq (row : LI) : impl_LeastOfLangford.Q row = impl_LeastOfLangford.T Pr.std (fun b => some (impl_LeastOfLangford.ret b)) impl_langford.X row := (eval_seg impl_LeastOfLangford.lin 1000000 _ _).trans (by kernel_rfl)
theorem impl_LeastOfLangford.X_eq (row : LI) : impl_LeastOfLangford.X row = impl_LeastOfLangford.T Pr.std some impl_langford.X row := by
  show dec impl_LeastOfLangford.ret (impl_LeastOfLangford.Q row) = _
  rw [impl_LeastOfLangford.Q_eq]
  simp only [impl_LeastOfLangford.T, std_fi, std_fb, std_fl, std_fll, std_flll, std_flb, std_fh, dec_ite, dec_cond, dec_bind, dec_elim, dec_none, impl_LeastOfLangford.dc]
  try rfl
theorem impl_LeastOfLangford.T_mono {α : Type} {rt : (Int × Bool) → Option α} {call_0 call_0_ : LI → Option (Int)} (hcall_0 : ∀ x, Le (call_0 x) (call_0_ x)) {row : LI} : Le (impl_LeastOfLangford.T Pr.std rt call_0 row) (impl_LeastOfLangford.T Pr.std rt call_0_ row) := by
  unfold impl_LeastOfLangford.T
  exact (Le.bind (hcall_0 _) (fun rr1 => Le.rfl'))
noncomputable def impl_LeastOfLangford.C (fu : Nat) (a : LI) : Option (Int × Bool) := impl_LeastOfLangford.T Pr.quick some (impl_langford.C fu) a
theorem impl_LeastOfLangford.C_ok (fu : Nat) (hfu : fu ≤ 100000) (a : LI) : Le (impl_LeastOfLangford.C fu a) (impl_LeastOfLangford.X a) := by
  show Le (impl_LeastOfLangford.T Pr.quick some (impl_langford.C fu) a) _
  rw [Pr.quick_eq, impl_LeastOfLangford.X_eq]
  exact impl_LeastOfLangford.T_mono (fun x => impl_langford.C_ok fu hfu x)
/-! ### loop.example/g01232/laws.jLess -/
def laws_jLess.s0 (a : LI × LI) : St := { slots := [.sl (.int .i64) a.1, .sl (.int .i64) a.2], rows := [], boxes := [] }
def laws_jLess.pat : St → Option (LI × LI)
  | { slots := [.sl (.int .i64) a, .sl (.int .i64) b], rows := [], boxes := [], gd := [] } => some (a, b)
  | _ => none
theorem laws_jLess.hp : ∀ st a, laws_jLess.pat st = some a → st = laws_jLess.s0 a := by
  intro st a h
  unfold laws_jLess.pat at h
  split at h
  · cases h; rfl
  · cases h
def laws_jLess.ret (r : Bool) : R := ({ slots := [], rows := [], boxes := [] }, [.bool r])
def laws_jLess.ap (b : Bool) (K : St → List V → Option R) : Option R := K (laws_jLess.ret b).1 (laws_jLess.ret b).2
theorem laws_jLess.hap : ∀ b K, laws_jLess.ap b K = K (laws_jLess.ret b).1 (laws_jLess.ret b).2 := fun _ _ => rfl
theorem laws_jLess.inj : ∀ x y, laws_jLess.ret x = laws_jLess.ret y → x = y := by
  intro x y h
  cases h; rfl
theorem laws_jLess.dc (x : Bool) : dec laws_jLess.ret (some (laws_jLess.ret x)) = some x := dec_ret laws_jLess.inj x
noncomputable def laws_jLess.cx : Cx := { ty := TY, fns := [], nk := [], sharp := true }
noncomputable def laws_jLess.body : Code := Go.Proofs.Try.f18.body.getD .skip
def laws_jLess.fl : Fn := { loops := [(2, [(0, none), (1, none), (5, none)])], joins := [], nr := 0, nb := 0, rs := [.tmp 4], pre := [], mv := [], fz := [] }
noncomputable def laws_jLess.Q (a : LI × LI) : Option R := eval laws_jLess.cx laws_jLess.fl [.code laws_jLess.body] (start 41 (laws_jLess.s0 a))
noncomputable def laws_jLess.X (a : LI × LI) : Option (Bool) := dec laws_jLess.ret (laws_jLess.Q a)
def laws_jLess.sL2 (a b : LI) (i : Int) : St := { slots := [.sl (.int .i64) a, .sl (.int .i64) b, D, D, D, .int .i64 i, D, D, D, D, D, D, D, D, D, D, D, D, D, D, D, D, D, D, D, D, D, D, D, D, D, D, D, D, D, D, D, D, D, D, D], rows := [], boxes := [] }
noncomputable def laws_jLess.tL2 : List It := (findL 2 laws_jLess.body []).getD []
noncomputable def laws_jLess.QL2 (a b : LI) (i : Int) : Option R := eval laws_jLess.cx laws_jLess.fl laws_jLess.tL2 (laws_jLess.sL2 a b i)
noncomputable def laws_jLess.XL2 (a b : LI) (i : Int) : Option (Bool) := dec laws_jLess.ret (laws_jLess.QL2 a b i)
theorem laws_jLess.fns : FnsOk Go.Proofs.Try.prog laws_jLess.cx := show FnsL _ _ from fns_nil
theorem laws_jLess.lin : laws_jLess.cx.Lin := Lin.of_fns laws_jLess.fns
noncomputable def laws_jLess.E : Entry := mkE [] laws_jLess.pat laws_jLess.X laws_jLess.ap
theorem laws_jLess.ok : EntOk Go.Proofs.Try.prog 18 laws_jLess.E := mkE_ok (fun w args => Go.Proofs.Try.call18 args w) laws_jLess.hp laws_jLess.hap fun a b h => vc_of_X mixed (tyB_ok (cx := laws_jLess.cx) tyOk) laws_jLess.fns (fl := laws_jLess.fl) Go.Proofs.Try.func18 (code := laws_jLess.body) (by kernel_rfl) (n := 41) (by kernel_rfl) (by kernel_rfl) (by decide) (by decide) rfl rfl h
def laws_jLess.T {α : Type} (pr : Pr) (rt : Bool → Option α) (kL2 : LI → LI → Int → Option α) (a b : LI) : Option α :=
  kL2 a b 0
theorem laws_jLess.Q_eq (a b : LI) : laws_jLess.Q (a, b) = laws_jLess.T Pr.std (fun b => some (laws_jLess.ret b)) (laws_jLess.QL2) a b := (eval_seg laws_jLess.lin 1000000 _ _).trans (by kernel_rfl)
theorem laws_jLess.X_eq (a b : LI) : laws_jLess.X (a, b) = laws_jLess.T Pr.std some (laws_jLess.XL2) a b := by
  show dec laws_jLess.ret (laws_jLess.Q (a, b)) = _
  rw [laws_jLess.Q_eq]
  simp only [laws_jLess.T, std_fi, std_fb, std_fl, std_fll, std_flll, std_flb, std_fh, dec_ite, dec_cond, dec_bind, dec_elim, dec_none, laws_jLess.dc]
  try rfl
theorem laws_jLess.T_mono {α : Type} {rt : (Bool) → Option α} {kL2 kL2_ : LI → LI → Int → Option α} (hkL2 : ∀ x0 x1 x2, Le (kL2 x0 x1 x2) (kL2_ x0 x1 x2)) {a b : LI} : Le (laws_jLess.T Pr.std rt kL2 a b) (laws_jLess.T Pr.std rt kL2_ a b) := by
  unfold laws_jLess.T
  exact (hkL2 _ _ _)
def laws_jLess.TL2 {α : Type} (pr : Pr) (rt : Bool → Option α) (kL2 : LI → LI → Int → Option α) (a b : LI) (i : Int) : Option α :=
  if (pr.lt i ((a.length : Nat) : Int)) then
    bif (pr.lt i ((b.length : Nat) : Int)) then
      if (pr.inR i a.length) then
        if (pr.inR i b.length) then
          bif (pr.ne (pr.gd a ((i).toNat) 0) (pr.gd b ((i).toNat) 0)) then
            if (pr.inR i a.length) then
              if (pr.inR i b.length) then
                pr.fb (pr.lt (pr.gd a ((i).toNat) 0) (pr.gd b ((i).toNat) 0)) fun y0 => rt y0
              else
                none
            else
              none
          else
            pr.fi (pr.wr .i64 (i + 1)) fun y2 => kL2 a b y2
        else
          none
      else
        none
    else
      pr.fb (pr.lt ((a.length : Nat) : Int) ((b.length : Nat) : Int)) fun y0 => rt y0
  else
    pr.fb (pr.lt ((a.length : Nat) : Int) ((b.length : Nat) : Int)) fun y0 => rt y0
theorem laws_jLess.QL2_eq (a b : LI) (i : Int) : laws_jLess.QL2 a b i = laws_jLess.TL2 Pr.std (fun b => some (laws_jLess.ret b)) (laws_jLess.QL2) a b i := (eval_seg laws_jLess.lin 1000000 _ _).trans (by kernel_rfl)
theorem laws_jLess.XL2_eq (a b : LI) (i : Int) : laws_jLess.XL2 a b i = laws_jLess.TL2 Pr.std some (laws_jLess.XL2) a b i := by
  show dec laws_jLess.ret (laws_jLess.QL2 a b i) = _
  rw [laws_jLess.QL2_eq]
  simp only [laws_jLess.TL2, std_fi, std_fb, std_fl, std_fll, std_flll, std_flb, std_fh, dec_ite, dec_cond, dec_bind, dec_elim, dec_none, laws_jLess.dc]
  try rfl
theorem laws_jLess.TL2_mono {α : Type} {rt : (Bool) → Option α} {kL2 kL2_ : LI → LI → Int → Option α} (hkL2 : ∀ x0 x1 x2, Le (kL2 x0 x1 x2) (kL2_ x0 x1 x2)) {a b : LI} {i : Int} : Le (laws_jLess.TL2 Pr.std rt kL2 a b i) (laws_jLess.TL2 Pr.std rt kL2_ a b i) := by
  unfold laws_jLess.TL2
  exact (Le.ite (Le.cond (Le.ite (Le.ite (Le.cond (Le.ite (Le.ite Le.rfl' Le.rfl') Le.rfl') (Le.fi fun _ => (hkL2 _ _ _))) Le.rfl') Le.rfl') Le.rfl') Le.rfl')
noncomputable def laws_jLess.Cs (fu : Nat) : (LI → LI → Int → Option (Bool)) := @Nat.rec (fun _ => (LI → LI → Int → Option (Bool))) (fun _ _ _ => none) (fun fu pv => fun a b i => laws_jLess.TL2 Pr.quick some (pv) a b i) fu
noncomputable def laws_jLess.CL2 (fu : Nat) : LI → LI → Int → Option (Bool) := (laws_jLess.Cs fu)
noncomputable def laws_jLess.C (fu : Nat) (a : LI × LI) : Option (Bool) := laws_jLess.T Pr.quick some (laws_jLess.CL2 fu) a.1 a.2
theorem laws_jLess.C_okc : ∀ fu, fu ≤ 100000 → (∀ a b i, Le (laws_jLess.CL2 fu a b i) (laws_jLess.XL2 a b i))
  | 0, _ => by
    refine ?_
    all_goals (intros; exact Le.none)
  | fu + 1, hfu => by
    have ih := laws_jLess.C_okc fu (by omega)
    refine ?_
    · intro a b i
      show Le (laws_jLess.TL2 Pr.quick some (laws_jLess.CL2 fu) a b i) _
      rw [Pr.quick_eq, laws_jLess.XL2_eq]
      exact laws_jLess.TL2_mono (ih)
theorem laws_jLess.C_ok (fu : Nat) (hfu : fu ≤ 100000) (a : LI × LI) : Le (laws_jLess.C fu a) (laws_jLess.X a) := by
  obtain ⟨a, b⟩ := a
  show Le (laws_jLess.T Pr.quick some (laws_jLess.CL2 fu) a b) _
  rw [Pr.quick_eq, laws_jLess.X_eq]
  exact laws_jLess.T_mono ((laws_jLess.C_okc fu hfu))
/-! ### loop.example/g01232/laws.jBack -/
def laws_jBack.s0 (a : LI) : St := { slots := [.sl (.int .i64) a], rows := [], boxes := [] }
def laws_jBack.pat : St → Option LI
  | { slots := [.sl (.int .i64) a], rows := [], boxes := [], gd := [] } => some a
  | _ => none
theorem laws_jBack.hp : ∀ st a, laws_jBack.pat st = some a → st = laws_jBack.s0 a := by
  intro st a h
  unfold laws_jBack.pat at h
  split at h
  · cases h; rfl
  · cases h
def laws_jBack.ret (r : LI) : R := ({ slots := [], rows := [(0, ⟨.int .i64, r⟩)], boxes := [] }, [.row 0])
def laws_jBack.ap (b : LI) (K : St → List V → Option R) : Option R := K (laws_jBack.ret b).1 (laws_jBack.ret b).2
theorem laws_jBack.hap : ∀ b K, laws_jBack.ap b K = K (laws_jBack.ret b).1 (laws_jBack.ret b).2 := fun _ _ => rfl
theorem laws_jBack.inj : ∀ x y, laws_jBack.ret x = laws_jBack.ret y → x = y := by
  intro x y h
  cases h; rfl
theorem laws_jBack.dc (x : LI) : dec laws_jBack.ret (some (laws_jBack.ret x)) = some x := dec_ret laws_jBack.inj x
noncomputable def laws_jBack.cx : Cx := { ty := TY, fns := [], nk := [], sharp := true }
noncomputable def laws_jBack.body : Code := Go.Proofs.Try.f20.body.getD .skip
def laws_jBack.fl : Fn := { loops := [(3, [(0, none), (3, some (.int .i64)), (4, none)])], joins := [], nr := 0, nb := 0, rs := [.tmp 2], pre := [(2, [some (.int .i64, false)])], mv := [], fz := [] }
noncomputable def laws_jBack.Q (a : LI) : Option R := eval laws_jBack.cx laws_jBack.fl [.code laws_jBack.body] (start 20 (laws_jBack.s0 a))
noncomputable def laws_jBack.X (a : LI) : Option LI := dec laws_jBack.ret (laws_jBack.Q a)
def laws_jBack.sL3 (a : LI) (i : Int) (out : LI) : St := { slots := [.sl (.int .i64) a, D, D, .row 1000192, .int .i64 i, D, D, D, D, D, D, D, D, D, D, D, D, D, D, D], rows := [(1000192, ⟨.int .i64, out⟩)], boxes := [] }
noncomputable def laws_jBack.tL3 : List It := (findL 3 laws_jBack.body []).getD []
noncomputable def laws_jBack.QL3 (a : LI) (i : Int) (out : LI) : Option R := eval laws_jBack.cx laws_jBack.fl laws_jBack.tL3 (laws_jBack.sL3 a i out)
noncomputable def laws_jBack.XL3 (a : LI) (i : Int) (out : LI) : Option LI := dec laws_jBack.ret (laws_jBack.QL3 a i out)
theorem laws_jBack.fns : FnsOk Go.Proofs.Try.prog laws_jBack.cx := show FnsL _ _ from fns_nil
theorem laws_jBack.lin : laws_jBack.cx.Lin := Lin.of_fns laws_jBack.fns
noncomputable def laws_jBack.E : Entry := mkE [] laws_jBack.pat laws_jBack.X laws_jBack.ap
theorem laws_jBack.ok : EntOk Go.Proofs.Try.prog 20 laws_jBack.E := mkE_ok (fun w args => Go.Proofs.Try.call20 args w) laws_jBack.hp laws_jBack.hap fun a b h => vc_of_X mixed (tyB_ok (cx := laws_jBack.cx) tyOk) laws_jBack.fns (fl := laws_jBack.fl) Go.Proofs.Try.func20 (code := laws_jBack.body) (by kernel_rfl) (n := 20) (by kernel_rfl) (by kernel_rfl) (by decide) (by decide) rfl rfl h
def laws_jBack.T {α : Type} (pr : Pr) (rt : LI → Option α) (kL3 : LI → Int → LI → Option α) (a : LI) : Option α :=
  pr.fi (pr.wr .i64 (((a.length : Nat) : Int) - 1)) fun y1 => kL3 a y1 []
theorem laws_jBack.Q_eq (a : LI) : laws_jBack.Q a = laws_jBack.T Pr.std (fun b => some (laws_jBack.ret b)) (laws_jBack.QL3) a := (eval_seg laws_jBack.lin 1000000 _ _).trans (by kernel_rfl)
theorem laws_jBack.X_eq (a : LI) : laws_jBack.X a = laws_jBack.T Pr.std some (laws_jBack.XL3) a := by
  show dec laws_jBack.ret (laws_jBack.Q a) = _
  rw [laws_jBack.Q_eq]
  simp only [laws_jBack.T, std_fi, std_fb, std_fl, std_fll, std_flll, std_flb, std_fh, dec_ite, dec_cond, dec_bind, dec_elim, dec_none, laws_jBack.dc]
  try rfl
theorem laws_jBack.T_mono {α : Type} {rt : LI → Option α} {kL3 kL3_ : LI → Int → LI → Option α} (hkL3 : ∀ x0 x1 x2, Le (kL3 x0 x1 x2) (kL3_ x0 x1 x2)) {a : LI} : Le (laws_jBack.T Pr.std rt kL3 a) (laws_jBack.T Pr.std rt kL3_ a) := by
  unfold laws_jBack.T
  exact (Le.fi fun _ => (hkL3 _ _ _))
def laws_jBack.TL3 {α : Type} (pr : Pr) (rt : LI → Option α) (kL3 : LI → Int → LI → Option α) (a : LI) (i : Int) (out : LI) : Option α :=
  bif (pr.ge i 0) then
    if (pr.inR i a.length) then
      if out.length + 1 < 8796093022208 then
        pr.fi (pr.wr .i64 (i - 1)) fun y1 => pr.fl (out ++ [(pr.gd a ((i).toNat) 0)]) fun y2 => kL3 a y1 y2
      else
        none
    else
      none
  else
    rt out
theorem laws_jBack.QL3_eq (a : LI) (i : Int) (out : LI) : laws_jBack.QL3 a i out = laws_jBack.TL3 Pr.std (fun b => some (laws_jBack.ret b)) (laws_jBack.QL3) a i out := (eval_seg laws_jBack.lin 1000000 _ _).trans (by kernel_rfl)
theorem laws_jBack.XL3_eq (a : LI) (i : Int) (out : LI) : laws_jBack.XL3 a i out = laws_jBack.TL3 Pr.std some (laws_jBack.XL3) a i out := by
  show dec laws_jBack.ret (laws_jBack.QL3 a i out) = _
  rw [laws_jBack.QL3_eq]
  simp only [laws_jBack.TL3, std_fi, std_fb, std_fl, std_fll, std_flll, std_flb, std_fh, dec_ite, dec_cond, dec_bind, dec_elim, dec_none, laws_jBack.dc]
  try rfl
theorem laws_jBack.TL3_mono {α : Type} {rt : LI → Option α} {kL3 kL3_ : LI → Int → LI → Option α} (hkL3 : ∀ x0 x1 x2, Le (kL3 x0 x1 x2) (kL3_ x0 x1 x2)) {a : LI} {i : Int} {out : LI} : Le (laws_jBack.TL3 Pr.std rt kL3 a i out) (laws_jBack.TL3 Pr.std rt kL3_ a i out) := by
  unfold laws_jBack.TL3
  exact (Le.cond (Le.ite (Le.ite (Le.fi fun _ => (Le.fl fun _ => (hkL3 _ _ _))) Le.rfl') Le.rfl') Le.rfl')
noncomputable def laws_jBack.Cs (fu : Nat) : (LI → Int → LI → Option LI) := @Nat.rec (fun _ => (LI → Int → LI → Option LI)) (fun _ _ _ => none) (fun fu pv => fun a i out => laws_jBack.TL3 Pr.quick some (pv) a i out) fu
noncomputable def laws_jBack.CL3 (fu : Nat) : LI → Int → LI → Option LI := (laws_jBack.Cs fu)
noncomputable def laws_jBack.C (fu : Nat) (a : LI) : Option LI := laws_jBack.T Pr.quick some (laws_jBack.CL3 fu) a
theorem laws_jBack.C_okc : ∀ fu, fu ≤ 100000 → (∀ a i out, Le (laws_jBack.CL3 fu a i out) (laws_jBack.XL3 a i out))
  | 0, _ => by
    refine ?_
    all_goals (intros; exact Le.none)
  | fu + 1, hfu => by
    have ih := laws_jBack.C_okc fu (by omega)
    refine ?_
    · intro a i out
      show Le (laws_jBack.TL3 Pr.quick some (laws_jBack.CL3 fu) a i out) _
      rw [Pr.quick_eq, laws_jBack.XL3_eq]
      exact laws_jBack.TL3_mono (ih)
theorem laws_jBack.C_ok (fu : Nat) (hfu : fu ≤ 100000) (a : LI) : Le (laws_jBack.C fu a) (laws_jBack.X a) := by
  show Le (laws_jBack.T Pr.quick some (laws_jBack.CL3 fu) a) _
  rw [Pr.quick_eq, laws_jBack.X_eq]
  exact laws_jBack.T_mono ((laws_jBack.C_okc fu hfu))
/-! ### loop.example/g01232/laws.jIn -/
def laws_jIn.s0 (a : LLI × LI) : St := { slots := [.sl (.sl (.int .i64)) a.1, .sl (.int .i64) a.2], rows := [], boxes := [] }
def laws_jIn.pat : St → Option (LLI × LI)
  | { slots := [.sl (.sl (.int .i64)) list, .sl (.int .i64) row], rows := [], boxes := [], gd := [] } => some (list, row)
  | _ => none
theorem laws_jIn.hp : ∀ st a, laws_jIn.pat st = some a → st = laws_jIn.s0 a := by
  intro st a h
  unfold laws_jIn.pat at h
  split at h
  · cases h; rfl
  · cases h
def laws_jIn.ret (r : Bool) : R := ({ slots := [], rows := [], boxes := [] }, [.bool r])
def laws_jIn.ap (b : Bool) (K : St → List V → Option R) : Option R := K (laws_jIn.ret b).1 (laws_jIn.ret b).2
theorem laws_jIn.hap : ∀ b K, laws_jIn.ap b K = K (laws_jIn.ret b).1 (laws_jIn.ret b).2 := fun _ _ => rfl
theorem laws_jIn.inj : ∀ x y, laws_jIn.ret x = laws_jIn.ret y → x = y := by
  intro x y h
  cases h; rfl
theorem laws_jIn.dc (x : Bool) : dec laws_jIn.ret (some (laws_jIn.ret x)) = some x := dec_ret laws_jIn.inj x
noncomputable def laws_jIn.cx : Cx := { ty := TY, fns := [(15, laws_jSame.E)], nk := [], sharp := true }
noncomputable def laws_jIn.body : Code := Go.Proofs.Try.f19.body.getD .skip
def laws_jIn.fl : Fn := { loops := [(2, [(1, none), (7, none), (8, none), (9, none)])], joins := [], nr := 0, nb := 0, rs := [.tmp 4], pre := [], mv := [], fz := [] }
noncomputable def laws_jIn.Q (a : LLI × LI) : Option R := eval laws_jIn.cx laws_jIn.fl [.code laws_jIn.body] (start 17 (laws_jIn.s0 a))
noncomputable def laws_jIn.X (a : LLI × LI) : Option (Bool) := dec laws_jIn.ret (laws_jIn.Q a)
def laws_jIn.sL2 (row : LI) (t7 : LLI) (t8 t9 : Int) : St := { slots := [D, .sl (.int .i64) row, D, D, D, D, D, .sl (.sl (.int .i64)) t7, .int .i64 t8, .int .i64 t9, D, D, D, D, D, D, D], rows := [], boxes := [] }
noncomputable def laws_jIn.tL2 : List It := (findL 2 laws_jIn.body []).getD []
noncomputable def laws_jIn.QL2 (row : LI) (t7 : LLI) (t8 t9 : Int) : Option R := eval laws_jIn.cx laws_jIn.fl laws_jIn.tL2 (laws_jIn.sL2 row t7 t8 t9)
noncomputable def laws_jIn.XL2 (row : LI) (t7 : LLI) (t8 t9 : Int) : Option (Bool) := dec laws_jIn.ret (laws_jIn.QL2 row t7 t8 t9)
theorem laws_jIn.fns : FnsOk Go.Proofs.Try.prog laws_jIn.cx := show FnsL _ _ from (fns_cons laws_jSame.ok fns_nil)
theorem laws_jIn.lin : laws_jIn.cx.Lin := Lin.of_fns laws_jIn.fns
noncomputable def laws_jIn.E : Entry := mkE [] laws_jIn.pat laws_jIn.X laws_jIn.ap
theorem laws_jIn.ok : EntOk Go.Proofs.Try.prog 19 laws_jIn.E := mkE_ok (fun w args => Go.Proofs.Try.call19 args w) laws_jIn.hp laws_jIn.hap fun a b h => vc_of_X mixed (tyB_ok (cx := laws_jIn.cx) tyOk) laws_jIn.fns (fl := laws_jIn.fl) Go.Proofs.Try.func19 (code := laws_jIn.body) (by kernel_rfl) (n := 17) (by kernel_rfl) (by kernel_rfl) (by decide) (by decide) rfl rfl h
def laws_jIn.T {α : Type} (pr : Pr) (rt : Bool → Option α) (kL2 : LI → LLI → Int → Int → Option α) (list : LLI) (row : LI) : Option α :=
  pr.fi ((list.length : Nat) : Int) fun y2 => kL2 row list y2 0
theorem laws_jIn.Q_eq (list : LLI) (row : LI) : laws_jIn.Q (list, row) = laws_jIn.T Pr.std (fun b => some (laws_jIn.ret b)) (laws_jIn.QL2) list row := (eval_seg laws_jIn.lin 1000000 _ _).trans (by kernel_rfl)
theorem laws_jIn.X_eq (list : LLI) (row : LI) : laws_jIn.X (list, row) = laws_jIn.T Pr.std some (laws_jIn.XL2) list row := by
  show dec laws_jIn.ret (laws_jIn.Q (list, row)) = _
  rw [laws_jIn.Q_eq]
  simp only [laws_jIn.T, std_fi, std_fb, std_fl, std_fll, std_flll, std_flb, std_fh, dec_ite, dec_cond, dec_bind, dec_elim, dec_none, laws_jIn.dc]
  try rfl
theorem laws_jIn.T_mono {α : Type} {rt : (Bool) → Option α} {kL2 kL2_ : LI → LLI → Int → Int → Option α} (hkL2 : ∀ x0 x1 x2 x3, Le (kL2 x0 x1 x2 x3) (kL2_ x0 x1 x2 x3)) {list : LLI} {row : LI} : Le (laws_jIn.T Pr.std rt kL2 list row) (laws_jIn.T Pr.std rt kL2_ list row) := by
  unfold laws_jIn.T
  exact (Le.fi fun _ => (hkL2 _ _ _ _))
def laws_jIn.TL2 {α : Type} (pr : Pr) (rt : Bool → Option α) (kL2 : LI → LLI → Int → Int → Option α) (call_0 : (LI × LI) → Option (Bool)) (row : LI) (t7 : LLI) (t8 t9 : Int) : Option α :=
  bif (pr.lt t9 t8) then
    if (pr.inR t9 t7.length) then
      pr.fl (pr.gd t7 ((t9).toNat) []) fun y0 => (call_0 (y0, row)).bind fun rr1 =>
        bif rr1 then
          rt true
        else
          pr.fi (pr.wr .i64 (t9 + 1)) fun y3 => kL2 row t7 t8 y3
    else
      none
  else
    rt false
theorem laws_jIn.QL2_eq (row : LI) (t7 : LLI) (t8 t9 : Int) : laws_jIn.QL2 row t7 t8 t9 = laws_jIn.TL2 Pr.std (fun b => some (laws_jIn.ret b)) (laws_jIn.QL2) laws_jSame.X row t7 t8 t9 := (eval_seg laws_jIn.lin 1000000 _ _).trans (by kernel_rfl)
theorem laws_jIn.XL2_eq (row : LI) (t7 : LLI) (t8 t9 : Int) : laws_jIn.XL2 row t7 t8 t9 = laws_jIn.TL2 Pr.std some (laws_jIn.XL2) laws_jSame.X row t7 t8 t9 := by
  show dec laws_jIn.ret (laws_jIn.QL2 row t7 t8 t9) = _
  rw [laws_jIn.QL2_eq]
  simp only [laws_jIn.TL2, std_fi, std_fb, std_fl, std_fll, std_flll, std_flb, std_fh, dec_ite, dec_cond, dec_bind, dec_elim, dec_none, laws_jIn.dc]
  try rfl
theorem laws_jIn.TL2_mono {α : Type} {rt : (Bool) → Option α} {kL2 kL2_ : LI → LLI → Int → Int → Option α} (hkL2 : ∀ x0 x1 x2 x3, Le (kL2 x0 x1 x2 x3) (kL2_ x0 x1 x2 x3)) {call_0 call_0_ : (LI × LI) → Option (Bool)} (hcall_0 : ∀ x, Le (call_0 x) (call_0_ x)) {row : LI} {t7 : LLI} {t8 t9 : Int} : Le (laws_jIn.TL2 Pr.std rt kL2 call_0 row t7 t8 t9) (laws_jIn.TL2 Pr.std rt kL2_ call_0_ row t7 t8 t9) := by
  unfold laws_jIn.TL2
  exact (Le.cond (Le.ite (Le.fl fun _ => (Le.bind (hcall_0 _) (fun rr1 => (Le.cond Le.rfl' (Le.fi fun _ => (hkL2 _ _ _ _)))))) Le.rfl') Le.rfl')
noncomputable def laws_jIn.Cs (fu : Nat) : (LI → LLI → Int → Int → Option (Bool)) := @Nat.rec (fun _ => (LI → LLI → Int → Int → Option (Bool))) (fun _ _ _ _ => none) (fun fu pv => fun row t7 t8 t9 => laws_jIn.TL2 Pr.quick some (pv) (laws_jSame.C fu) row t7 t8 t9) fu
noncomputable def laws_jIn.CL2 (fu : Nat) : LI → LLI → Int → Int → Option (Bool) := (laws_jIn.Cs fu)
noncomputable def laws_jIn.C (fu : Nat) (a : LLI × LI) : Option (Bool) := laws_jIn.T Pr.quick some (laws_jIn.CL2 fu) a.1 a.2
theorem laws_jIn.C_okc : ∀ fu, fu ≤ 100000 → (∀ row t7 t8 t9, Le (laws_jIn.CL2 fu row t7 t8 t9) (laws_jIn.XL2 row t7 t8 t9))
  | 0, _ => by
    refine ?_
    all_goals (intros; exact Le.none)
  | fu + 1, hfu => by
    have ih := laws_jIn.C_okc fu (by omega)
    refine ?_
    · intro row t7 t8 t9
      show Le (laws_jIn.TL2 Pr.quick some (laws_jIn.CL2 fu) (laws_jSame.C fu) row t7 t8 t9) _
      rw [Pr.quick_eq, laws_jIn.XL2_eq]
      exact laws_jIn.TL2_mono (ih) (fun x => laws_jSame.C_ok fu (by omega) x)
theorem laws_jIn.C_ok (fu : Nat) (hfu : fu ≤ 100000) (a : LLI × LI) : Le (laws_jIn.C fu a) (laws_jIn.X a) := by
  obtain ⟨list, row⟩ := a
  show Le (laws_jIn.T Pr.quick some (laws_jIn.CL2 fu) list row) _
  rw [Pr.quick_eq, laws_jIn.X_eq]
  exact laws_jIn.T_mono ((laws_jIn.C_okc fu hfu))
end Go.VS
