/- printed by gen.py: a part of the walk through the program. No condition. -/
import Derived.Test.YtnibmainjgcmaaaG9
set_option linter.unusedVariables false
set_option linter.unusedSimpArgs false
set_option maxRecDepth 100000
namespace Go.VS
/-! ### loop.example/g01232/impl.isPairs -/
def impl_isPairs.s0 (a : LI) : St := { slots := [.sl (.int .i64) a], rows := [], boxes := [] }
def impl_isPairs.pat : St → Option LI
  | { slots := [.sl (.int .i64) row], rows := [], boxes := [], gd := [] } => some row
  | _ => none
theorem impl_isPairs.hp : ∀ st a, impl_isPairs.pat st = some a → st = impl_isPairs.s0 a := by
  intro st a h
  unfold impl_isPairs.pat at h
  split at h
  · cases h; rfl
  · cases h
def impl_isPairs.ret (r : Bool) : R := ({ slots := [], rows := [], boxes := [] }, [.bool r])
def impl_isPairs.ap (b : Bool) (K : St → List V → Option R) : Option R := K (impl_isPairs.ret b).1 (impl_isPairs.ret b).2
theorem impl_isPairs.hap : ∀ b K, impl_isPairs.ap b K = K (impl_isPairs.ret b).1 (impl_isPairs.ret b).2 := fun _ _ => rfl
theorem impl_isPairs.inj : ∀ x y, impl_isPairs.ret x = impl_isPairs.ret y → x = y := by
  intro x y h
  cases h; rfl
theorem impl_isPairs.dc (x : Bool) : dec impl_isPairs.ret (some (impl_isPairs.ret x)) = some x := dec_ret impl_isPairs.inj x
noncomputable def impl_isPairs.cx : Cx := { ty := TY, fns := [(56, impl_IsRow.E), (86, impl_pairs.E)], nk := [(1003, [some (.int .i64), some (.int .i64), some (.int .i64), some (.int .i64), some (.int .i64), some (.int .i64), some (.int .i64), some (.int .i64), some (.int .i64), some (.int .i64), some (.int .i64), some (.int .i64), some (.int .i64), some (.int .i64), some (.int .i64), some (.int .i64), some (.int .i64), some (.int .i64), some (.int .i64), some (.int .i64), some (.int .i64)])], sharp := true }
noncomputable def impl_isPairs.body : Code := Go.Proofs.Try.f54.body.getD .skip
def impl_isPairs.fl : Fn := { loops := [], joins := [], nr := 0, nb := 0, rs := [.tmp 2], pre := [], mv := [], fz := [] }
noncomputable def impl_isPairs.Q (a : LI) : Option R := eval impl_isPairs.cx impl_isPairs.fl [.code impl_isPairs.body] (start 14 (impl_isPairs.s0 a))
noncomputable def impl_isPairs.X (a : LI) : Option (Bool) := dec impl_isPairs.ret (impl_isPairs.Q a)
theorem impl_isPairs.fns : FnsOk Go.Proofs.Try.prog impl_isPairs.cx := show FnsL _ _ from (fns_cons impl_IsRow.ok (fns_cons impl_pairs.ok fns_nil))
theorem impl_isPairs.lin : impl_isPairs.cx.Lin := Lin.of_fns impl_isPairs.fns
noncomputable def impl_isPairs.E : Entry := mkE [] impl_isPairs.pat impl_isPairs.X impl_isPairs.ap
theorem impl_isPairs.ok : EntOk Go.Proofs.Try.prog 54 impl_isPairs.E := mkE_ok (fun w args => Go.Proofs.Try.call54 args w) impl_isPairs.hp impl_isPairs.hap fun a b h => vc_of_X mixed (tyB_ok (cx := impl_isPairs.cx) tyOk) impl_isPairs.fns (fl := impl_isPairs.fl) Go.Proofs.Try.func54 (code := impl_isPairs.body) (by kernel_rfl) (n := 14) (by kernel_rfl) (by kernel_rfl) (by decide) (by decide) rfl rfl h
def impl_isPairs.T {α : Type} (pr : Pr) (rt : Bool → Option α) (call_0 : LI → Option (Bool)) (call_1 : LI → Option (LI × LI × LI × LI × LI × LI × LI × LI × LI × LI × LI × LI × LI × LI × LI × LI × LI × LI × LI × LI × LI × Bool)) (row : LI) : Option α :=
  (call_0 row).bind fun rr1 =>
    bif (!rr1) then
      rt false
    else
      (call_1 row).bind fun rr2 =>
        pr.fb rr2.2.2.2.2.2.2.2.2.2.2.2.2.2.2.2.2.2.2.2.2.2 fun y0 => rt y0
theorem impl_isPairs.Q_eq (row : LI) : impl_isPairs.Q row = impl_isPairs.T Pr.std (fun b => some (impl_isPairs.ret b)) impl_IsRow.X impl_pairs.X row := (eval_seg impl_isPairs.lin 1000000 _ _).trans (by kernel_rfl)
theorem impl_isPairs.X_eq (row : LI) : impl_isPairs.X row = impl_isPairs.T Pr.std some impl_IsRow.X impl_pairs.X row := by
  show dec impl_isPairs.ret (impl_isPairs.Q row) = _
  rw [impl_isPairs.Q_eq]
  simp only [impl_isPairs.T, std_fi, std_fb, std_fl, std_fll, std_flll, std_flb, std_fh, dec_ite, dec_cond, dec_bind, dec_elim, dec_none, impl_isPairs.dc]
  try rfl
theorem impl_isPairs.T_mono {α : Type} {rt : (Bool) → Option α} {call_0 call_0_ : LI → Option (Bool)} (hcall_0 : ∀ x, Le (call_0 x) (call_0_ x)) {call_1 call_1_ : LI → Option (LI × LI × LI × LI × LI × LI × LI × LI × LI × LI × LI × LI × LI × LI × LI × LI × LI × LI × LI × LI × LI × Bool)} (hcall_1 : ∀ x, Le (call_1 x) (call_1_ x)) {row : LI} : Le (impl_isPairs.T Pr.std rt call_0 call_1 row) (impl_isPairs.T Pr.std rt call_0_ call_1_ row) := by
  unfold impl_isPairs.T
  exact (Le.bind (hcall_0 _) (fun rr1 => (Le.cond Le.rfl' (Le.bind (hcall_1 _) (fun rr2 => Le.rfl')))))
noncomputable def impl_isPairs.C (fu : Nat) (a : LI) : Option (Bool) := impl_isPairs.T Pr.quick some (impl_IsRow.C fu) (impl_pairs.C fu) a
theorem impl_isPairs.C_ok (fu : Nat) (hfu : fu ≤ 100000) (a : LI) : Le (impl_isPairs.C fu a) (impl_isPairs.X a) := by
  show Le (impl_isPairs.T Pr.quick some (impl_IsRow.C fu) (impl_pairs.C fu) a) _
  rw [Pr.quick_eq, impl_isPairs.X_eq]
  exact impl_isPairs.T_mono (fun x => impl_IsRow.C_ok fu hfu x) (fun x => impl_pairs.C_ok fu hfu x)
/-! ### loop.example/g01232/impl.fits -/
def impl_fits.s0 (a : LI × Int) : St := { slots := [.sl (.int .i64) a.1, .int .i64 a.2], rows := [], boxes := [] }
def impl_fits.pat : St → Option (LI × Int)
  | { slots := [.sl (.int .i64) row, .int .i64 shift], rows := [], boxes := [], gd := [] } => some (row, shift)
  | _ => none
theorem impl_fits.hp : ∀ st a, impl_fits.pat st = some a → st = impl_fits.s0 a := by
  intro st a h
  unfold impl_fits.pat at h
  split at h
  · cases h; rfl
  · cases h
def impl_fits.ret (r : Bool) : R := ({ slots := [], rows := [], boxes := [] }, [.bool r])
def impl_fits.ap (b : Bool) (K : St → List V → Option R) : Option R := K (impl_fits.ret b).1 (impl_fits.ret b).2
theorem impl_fits.hap : ∀ b K, impl_fits.ap b K = K (impl_fits.ret b).1 (impl_fits.ret b).2 := fun _ _ => rfl
theorem impl_fits.inj : ∀ x y, impl_fits.ret x = impl_fits.ret y → x = y := by
  intro x y h
  cases h; rfl
theorem impl_fits.dc (x : Bool) : dec impl_fits.ret (some (impl_fits.ret x)) = some x := dec_ret impl_fits.inj x
noncomputable def impl_fits.cx : Cx := { ty := TY, fns := [(54, impl_isPairs.E), (86, impl_pairs.E)], nk := [(1005, [some (.int .i64), some (.int .i64), some (.int .i64), some (.int .i64), some (.int .i64), some (.int .i64), some (.int .i64), some (.int .i64), some (.int .i64), some (.int .i64), some (.int .i64), some (.int .i64), some (.int .i64), some (.int .i64), some (.int .i64), some (.int .i64), some (.int .i64), some (.int .i64), some (.int .i64), some (.int .i64), some (.int .i64)])], sharp := true }
noncomputable def impl_fits.body : Code := Go.Proofs.Try.f59.body.getD .skip
def impl_fits.fl : Fn := { loops := [(5, [(1, none), (17, none), (18, none)])], joins := [], nr := 0, nb := 0, rs := [.tmp 4], pre := [], mv := [], fz := [] }
noncomputable def impl_fits.Q (a : LI × Int) : Option R := eval impl_fits.cx impl_fits.fl [.code impl_fits.body] (start 39 (impl_fits.s0 a))
noncomputable def impl_fits.X (a : LI × Int) : Option (Bool) := dec impl_fits.ret (impl_fits.Q a)
def impl_fits.sL5 (v0 : Int) (t170 t171 t172 t173 t174 t175 t176 t177 t178 t179 v11 v12 v13 v14 v15 v16 v17 v18 v19 v20 v21 : LI) (t18 : Int) : St := { slots := [D, .int .i64 v0, D, D, D, D, D, D, D, D, D, D, D, D, D, D, D, .agg [.sl (.int .i64) t170, .sl (.int .i64) t171, .sl (.int .i64) t172, .sl (.int .i64) t173, .sl (.int .i64) t174, .sl (.int .i64) t175, .sl (.int .i64) t176, .sl (.int .i64) t177, .sl (.int .i64) t178, .sl (.int .i64) t179, .sl (.int .i64) v11, .sl (.int .i64) v12, .sl (.int .i64) v13, .sl (.int .i64) v14, .sl (.int .i64) v15, .sl (.int .i64) v16, .sl (.int .i64) v17, .sl (.int .i64) v18, .sl (.int .i64) v19, .sl (.int .i64) v20, .sl (.int .i64) v21], .int .i64 t18, D, D, D, D, D, D, D, D, D, D, D, D, D, D, D, D, D, D, D, D], rows := [], boxes := [] }
noncomputable def impl_fits.tL5 : List It := (findL 5 impl_fits.body []).getD []
noncomputable def impl_fits.QL5 (v0 : Int) (t170 t171 t172 t173 t174 t175 t176 t177 t178 t179 v11 v12 v13 v14 v15 v16 v17 v18 v19 v20 v21 : LI) (t18 : Int) : Option R := eval impl_fits.cx impl_fits.fl impl_fits.tL5 (impl_fits.sL5 v0 t170 t171 t172 t173 t174 t175 t176 t177 t178 t179 v11 v12 v13 v14 v15 v16 v17 v18 v19 v20 v21 t18)
noncomputable def impl_fits.XL5 (v0 : Int) (t170 t171 t172 t173 t174 t175 t176 t177 t178 t179 v11 v12 v13 v14 v15 v16 v17 v18 v19 v20 v21 : LI) (t18 : Int) : Option (Bool) := dec impl_fits.ret (impl_fits.QL5 v0 t170 t171 t172 t173 t174 t175 t176 t177 t178 t179 v11 v12 v13 v14 v15 v16 v17 v18 v19 v20 v21 t18)
theorem impl_fits.fns : FnsOk Go.Proofs.Try.prog impl_fits.cx := show FnsL _ _ from (fns_cons impl_isPairs.ok (fns_cons impl_pairs.ok fns_nil))
theorem impl_fits.lin : impl_fits.cx.Lin := Lin.of_fns impl_fits.fns
noncomputable def impl_fits.E : Entry := mkE [] impl_fits.pat impl_fits.X impl_fits.ap
theorem impl_fits.ok : EntOk Go.Proofs.Try.prog 59 impl_fits.E := mkE_ok (fun w args => Go.Proofs.Try.call59 args w) impl_fits.hp impl_fits.hap fun a b h => vc_of_X mixed (tyB_ok (cx := impl_fits.cx) tyOk) impl_fits.fns (fl := impl_fits.fl) Go.Proofs.Try.func59 (code := impl_fits.body) (by kernel_rfl) (n := 39) (by kernel_rfl) (by kernel_rfl) (by decide) (by decide) rfl rfl h
def impl_fits.T {α : Type} (pr : Pr) (rt : Bool → Option α) (kL5 : Int → LI → LI → LI → LI → LI → LI → LI → LI → LI → LI → LI → LI → LI → LI → LI → LI → LI → LI → LI → LI → LI → Int → Option α) (call_0 : LI → Option (Bool)) (call_1 : LI → Option (LI × LI × LI × LI × LI × LI × LI × LI × LI × LI × LI × LI × LI × LI × LI × LI × LI × LI × LI × LI × LI × Bool)) (row : LI) (shift : Int) : Option α :=
  (call_0 row).bind fun rr1 =>
    bif (!rr1) then
      rt false
    else
      (call_1 row).bind fun rr2 =>
        pr.fh rr2.1 fun y1 => pr.fh rr2.2.1 fun y2 => pr.fh rr2.2.2.1 fun y3 => pr.fh rr2.2.2.2.1 fun y4 => pr.fh rr2.2.2.2.2.1 fun y5 => pr.fh rr2.2.2.2.2.2.1 fun y6 => pr.fh rr2.2.2.2.2.2.2.1 fun y7 => pr.fh rr2.2.2.2.2.2.2.2.1 fun y8 => pr.fh rr2.2.2.2.2.2.2.2.2.1 fun y9 => pr.fh rr2.2.2.2.2.2.2.2.2.2.1 fun y10 => pr.fh rr2.2.2.2.2.2.2.2.2.2.2.1 fun y11 => pr.fh rr2.2.2.2.2.2.2.2.2.2.2.2.1 fun y12 => pr.fh rr2.2.2.2.2.2.2.2.2.2.2.2.2.1 fun y13 => pr.fh rr2.2.2.2.2.2.2.2.2.2.2.2.2.2.1 fun y14 => pr.fh rr2.2.2.2.2.2.2.2.2.2.2.2.2.2.2.1 fun y15 => pr.fh rr2.2.2.2.2.2.2.2.2.2.2.2.2.2.2.2.1 fun y16 => pr.fh rr2.2.2.2.2.2.2.2.2.2.2.2.2.2.2.2.2.1 fun y17 => pr.fh rr2.2.2.2.2.2.2.2.2.2.2.2.2.2.2.2.2.2.1 fun y18 => pr.fh rr2.2.2.2.2.2.2.2.2.2.2.2.2.2.2.2.2.2.2.1 fun y19 => pr.fh rr2.2.2.2.2.2.2.2.2.2.2.2.2.2.2.2.2.2.2.2.1 fun y20 => pr.fh rr2.2.2.2.2.2.2.2.2.2.2.2.2.2.2.2.2.2.2.2.2.1 fun y21 => kL5 shift y1 y2 y3 y4 y5 y6 y7 y8 y9 y10 y11 y12 y13 y14 y15 y16 y17 y18 y19 y20 y21 0
theorem impl_fits.Q_eq (row : LI) (shift : Int) : impl_fits.Q (row, shift) = impl_fits.T Pr.std (fun b => some (impl_fits.ret b)) (impl_fits.QL5) impl_isPairs.X impl_pairs.X row shift := (eval_seg impl_fits.lin 1000000 _ _).trans (by kernel_rfl)
theorem impl_fits.X_eq (row : LI) (shift : Int) : impl_fits.X (row, shift) = impl_fits.T Pr.std some (impl_fits.XL5) impl_isPairs.X impl_pairs.X row shift := by
  show dec impl_fits.ret (impl_fits.Q (row, shift)) = _
  rw [impl_fits.Q_eq]
  simp only [impl_fits.T, std_fi, std_fb, std_fl, std_fll, std_flll, std_flb, std_fh, dec_ite, dec_cond, dec_bind, dec_elim, dec_none, impl_fits.dc]
  try rfl
theorem impl_fits.T_mono {α : Type} {rt : (Bool) → Option α} {kL5 kL5_ : Int → LI → LI → LI → LI → LI → LI → LI → LI → LI → LI → LI → LI → LI → LI → LI → LI → LI → LI → LI → LI → LI → Int → Option α} (hkL5 : ∀ x0 x1 x2 x3 x4 x5 x6 x7 x8 x9 x10 x11 x12 x13 x14 x15 x16 x17 x18 x19 x20 x21 x22, Le (kL5 x0 x1 x2 x3 x4 x5 x6 x7 x8 x9 x10 x11 x12 x13 x14 x15 x16 x17 x18 x19 x20 x21 x22) (kL5_ x0 x1 x2 x3 x4 x5 x6 x7 x8 x9 x10 x11 x12 x13 x14 x15 x16 x17 x18 x19 x20 x21 x22)) {call_0 call_0_ : LI → Option (Bool)} (hcall_0 : ∀ x, Le (call_0 x) (call_0_ x)) {call_1 call_1_ : LI → Option (LI × LI × LI × LI × LI × LI × LI × LI × LI × LI × LI × LI × LI × LI × LI × LI × LI × LI × LI × LI × LI × Bool)} (hcall_1 : ∀ x, Le (call_1 x) (call_1_ x)) {row : LI} {shift : Int} : Le (impl_fits.T Pr.std rt kL5 call_0 call_1 row shift) (impl_fits.T Pr.std rt kL5_ call_0_ call_1_ row shift) := by
  unfold impl_fits.T
  exact (Le.bind (hcall_0 _) (fun rr1 => (Le.cond Le.rfl' (Le.bind (hcall_1 _) (fun rr2 => (Le.fh fun _ => (Le.fh fun _ => (Le.fh fun _ => (Le.fh fun _ => (Le.fh fun _ => (Le.fh fun _ => (Le.fh fun _ => (Le.fh fun _ => (Le.fh fun _ => (Le.fh fun _ => (Le.fh fun _ => (Le.fh fun _ => (Le.fh fun _ => (Le.fh fun _ => (Le.fh fun _ => (Le.fh fun _ => (Le.fh fun _ => (Le.fh fun _ => (Le.fh fun _ => (Le.fh fun _ => (Le.fh fun _ => (hkL5 _ _ _ _ _ _ _ _ _ _ _ _ _ _ _ _ _ _ _ _ _ _ _)))))))))))))))))))))))))))
def impl_fits.TL5 {α : Type} (pr : Pr) (rt : Bool → Option α) (kL5 : Int → LI → LI → LI → LI → LI → LI → LI → LI → LI → LI → LI → LI → LI → LI → LI → LI → LI → LI → LI → LI → LI → Int → Option α) (v0 : Int) (t170 t171 t172 t173 t174 t175 t176 t177 t178 t179 v11 v12 v13 v14 v15 v16 v17 v18 v19 v20 v21 : LI) (t18 : Int) : Option α :=
  bif (pr.lt t18 21) then
    if (pr.inR t18 21) then
      if (pr.eq (((pr.gd [t170, t171, t172, t173, t174, t175, t176, t177, t178, t179, v11, v12, v13, v14, v15, v16, v17, v18, v19, v20, v21] (t18).toNat []).length : Nat) : Int) 2) then
        if (pr.inR 1 ((pr.gd [t170, t171, t172, t173, t174, t175, t176, t177, t178, t179, v11, v12, v13, v14, v15, v16, v17, v18, v19, v20, v21] (t18).toNat []).length)) then
          if (pr.inR 0 ((pr.gd [t170, t171, t172, t173, t174, t175, t176, t177, t178, t179, v11, v12, v13, v14, v15, v16, v17, v18, v19, v20, v21] (t18).toNat []).length)) then
            bif (pr.ne (pr.wr .i64 ((pr.gd (pr.gd [t170, t171, t172, t173, t174, t175, t176, t177, t178, t179, v11, v12, v13, v14, v15, v16, v17, v18, v19, v20, v21] (t18).toNat []) 1 0) - (pr.gd (pr.gd [t170, t171, t172, t173, t174, t175, t176, t177, t178, t179, v11, v12, v13, v14, v15, v16, v17, v18, v19, v20, v21] (t18).toNat []) 0 0))) (pr.wr .i64 (t18 + v0))) then
              rt false
            else
              pr.fi (pr.wr .i64 (t18 + 1)) fun y22 => kL5 v0 t170 t171 t172 t173 t174 t175 t176 t177 t178 t179 v11 v12 v13 v14 v15 v16 v17 v18 v19 v20 v21 y22
          else
            none
        else
          none
      else
        pr.fi (pr.wr .i64 (t18 + 1)) fun y22 => kL5 v0 t170 t171 t172 t173 t174 t175 t176 t177 t178 t179 v11 v12 v13 v14 v15 v16 v17 v18 v19 v20 v21 y22
    else
      none
  else
    rt true
theorem impl_fits.QL5_eq (v0 : Int) (t170 t171 t172 t173 t174 t175 t176 t177 t178 t179 v11 v12 v13 v14 v15 v16 v17 v18 v19 v20 v21 : LI) (t18 : Int) : impl_fits.QL5 v0 t170 t171 t172 t173 t174 t175 t176 t177 t178 t179 v11 v12 v13 v14 v15 v16 v17 v18 v19 v20 v21 t18 = impl_fits.TL5 Pr.std (fun b => some (impl_fits.ret b)) (impl_fits.QL5) v0 t170 t171 t172 t173 t174 t175 t176 t177 t178 t179 v11 v12 v13 v14 v15 v16 v17 v18 v19 v20 v21 t18 := (eval_seg impl_fits.lin 1000000 _ _).trans (by kernel_rfl)
theorem impl_fits.XL5_eq (v0 : Int) (t170 t171 t172 t173 t174 t175 t176 t177 t178 t179 v11 v12 v13 v14 v15 v16 v17 v18 v19 v20 v21 : LI) (t18 : Int) : impl_fits.XL5 v0 t170 t171 t172 t173 t174 t175 t176 t177 t178 t179 v11 v12 v13 v14 v15 v16 v17 v18 v19 v20 v21 t18 = impl_fits.TL5 Pr.std some (impl_fits.XL5) v0 t170 t171 t172 t173 t174 t175 t176 t177 t178 t179 v11 v12 v13 v14 v15 v16 v17 v18 v19 v20 v21 t18 := by
  show dec impl_fits.ret (impl_fits.QL5 v0 t170 t171 t172 t173 t174 t175 t176 t177 t178 t179 v11 v12 v13 v14 v15 v16 v17 v18 v19 v20 v21 t18) = _
  rw [impl_fits.QL5_eq]
  simp only [impl_fits.TL5, std_fi, std_fb, std_fl, std_fll, std_flll, std_flb, std_fh, dec_ite, dec_cond, dec_bind, dec_elim, dec_none, impl_fits.dc]
  try rfl
theorem impl_fits.TL5_mono {α : Type} {rt : (Bool) → Option α} {kL5 kL5_ : Int → LI → LI → LI → LI → LI → LI → LI → LI → LI → LI → LI → LI → LI → LI → LI → LI → LI → LI → LI → LI → LI → Int → Option α} (hkL5 : ∀ x0 x1 x2 x3 x4 x5 x6 x7 x8 x9 x10 x11 x12 x13 x14 x15 x16 x17 x18 x19 x20 x21 x22, Le (kL5 x0 x1 x2 x3 x4 x5 x6 x7 x8 x9 x10 x11 x12 x13 x14 x15 x16 x17 x18 x19 x20 x21 x22) (kL5_ x0 x1 x2 x3 x4 x5 x6 x7 x8 x9 x10 x11 x12 x13 x14 x15 x16 x17 x18 x19 x20 x21 x22)) {v0 : Int} {t170 t171 t172 t173 t174 t175 t176 t177 t178 t179 v11 v12 v13 v14 v15 v16 v17 v18 v19 v20 v21 : LI} {t18 : Int} : Le (impl_fits.TL5 Pr.std rt kL5 v0 t170 t171 t172 t173 t174 t175 t176 t177 t178 t179 v11 v12 v13 v14 v15 v16 v17 v18 v19 v20 v21 t18) (impl_fits.TL5 Pr.std rt kL5_ v0 t170 t171 t172 t173 t174 t175 t176 t177 t178 t179 v11 v12 v13 v14 v15 v16 v17 v18 v19 v20 v21 t18) := by
  unfold impl_fits.TL5
  exact (Le.cond (Le.ite (Le.ite (Le.ite (Le.ite (Le.cond Le.rfl' (Le.fi fun _ => (hkL5 _ _ _ _ _ _ _ _ _ _ _ _ _ _ _ _ _ _ _ _ _ _ _))) Le.rfl') Le.rfl') (Le.fi fun _ => (hkL5 _ _ _ _ _ _ _ _ _ _ _ _ _ _ _ _ _ _ _ _ _ _ _))) Le.rfl') Le.rfl')
noncomputable def impl_fits.Cs (fu : Nat) : (Int → LI → LI → LI → LI → LI → LI → LI → LI → LI → LI → LI → LI → LI → LI → LI → LI → LI → LI → LI → LI → LI → Int → Option (Bool)) := @Nat.rec (fun _ => (Int → LI → LI → LI → LI → LI → LI → LI → LI → LI → LI → LI → LI → LI → LI → LI → LI → LI → LI → LI → LI → LI → Int → Option (Bool))) (fun _ _ _ _ _ _ _ _ _ _ _ _ _ _ _ _ _ _ _ _ _ _ _ => none) (fun fu pv => fun v0 t170 t171 t172 t173 t174 t175 t176 t177 t178 t179 v11 v12 v13 v14 v15 v16 v17 v18 v19 v20 v21 t18 => impl_fits.TL5 Pr.quick some (pv) v0 t170 t171 t172 t173 t174 t175 t176 t177 t178 t179 v11 v12 v13 v14 v15 v16 v17 v18 v19 v20 v21 t18) fu
noncomputable def impl_fits.CL5 (fu : Nat) : Int → LI → LI → LI → LI → LI → LI → LI → LI → LI → LI → LI → LI → LI → LI → LI → LI → LI → LI → LI → LI → LI → Int → Option (Bool) := (impl_fits.Cs fu)
noncomputable def impl_fits.C (fu : Nat) (a : LI × Int) : Option (Bool) := impl_fits.T Pr.quick some (impl_fits.CL5 fu) (impl_isPairs.C fu) (impl_pairs.C fu) a.1 a.2
theorem impl_fits.C_okc : ∀ fu, fu ≤ 100000 → (∀ v0 t170 t171 t172 t173 t174 t175 t176 t177 t178 t179 v11 v12 v13 v14 v15 v16 v17 v18 v19 v20 v21 t18, Le (impl_fits.CL5 fu v0 t170 t171 t172 t173 t174 t175 t176 t177 t178 t179 v11 v12 v13 v14 v15 v16 v17 v18 v19 v20 v21 t18) (impl_fits.XL5 v0 t170 t171 t172 t173 t174 t175 t176 t177 t178 t179 v11 v12 v13 v14 v15 v16 v17 v18 v19 v20 v21 t18))
  | 0, _ => by
    refine ?_
    all_goals (intros; exact Le.none)
  | fu + 1, hfu => by
    have ih := impl_fits.C_okc fu (by omega)
    refine ?_
    · intro v0 t170 t171 t172 t173 t174 t175 t176 t177 t178 t179 v11 v12 v13 v14 v15 v16 v17 v18 v19 v20 v21 t18
      show Le (impl_fits.TL5 Pr.quick some (impl_fits.CL5 fu) v0 t170 t171 t172 t173 t174 t175 t176 t177 t178 t179 v11 v12 v13 v14 v15 v16 v17 v18 v19 v20 v21 t18) _
      rw [Pr.quick_eq, impl_fits.XL5_eq]
      exact impl_fits.TL5_mono (ih)
theorem impl_fits.C_ok (fu : Nat) (hfu : fu ≤ 100000) (a : LI × Int) : Le (impl_fits.C fu a) (impl_fits.X a) := by
  obtain ⟨row, shift⟩ := a
  show Le (impl_fits.T Pr.quick some (impl_fits.CL5 fu) (impl_isPairs.C fu) (impl_pairs.C fu) row shift) _
  rw [Pr.quick_eq, impl_fits.X_eq]
  exact impl_fits.T_mono ((impl_fits.C_okc fu hfu)) (fun x => impl_isPairs.C_ok fu hfu x) (fun x => impl_pairs.C_ok fu hfu x)
/-! ### loop.example/g01232/impl.holes -/
def impl_holes.s0 (a : LI) : St := { slots := [.sl (.int .i64) a], rows := [], boxes := [] }
def impl_holes.pat : St → Option LI
  | { slots := [.sl (.int .i64) row], rows := [], boxes := [], gd := [] } => some row
  | _ => none
theorem impl_holes.hp : ∀ st a, impl_holes.pat st = some a → st = impl_holes.s0 a := by
  intro st a h
  unfold impl_holes.pat at h
  split at h
  · cases h; rfl
  · cases h
def impl_holes.ret (r : LI) : R := ({ slots := [], rows := [(0, ⟨.int .i64, r⟩)], boxes := [] }, [.row 0])
def impl_holes.ap (b : LI) (K : St → List V → Option R) : Option R := K (impl_holes.ret b).1 (impl_holes.ret b).2
theorem impl_holes.hap : ∀ b K, impl_holes.ap b K = K (impl_holes.ret b).1 (impl_holes.ret b).2 := fun _ _ => rfl
theorem impl_holes.inj : ∀ x y, impl_holes.ret x = impl_holes.ret y → x = y := by
  intro x y h
  cases h; rfl
theorem impl_holes.dc (x : LI) : dec impl_holes.ret (some (impl_holes.ret x)) = some x := dec_ret impl_holes.inj x
noncomputable def impl_holes.cx : Cx := { ty := TY, fns := [], nk := [], sharp := true }
noncomputable def impl_holes.body : Code := Go.Proofs.Try.f87.body.getD .skip
def impl_holes.fl : Fn := { loops := [(3, [(3, some (.int .i64)), (6, none), (7, none), (8, none)])], joins := [], nr := 0, nb := 0, rs := [.tmp 2], pre := [(2, [some (.int .i64, false)])], mv := [], fz := [] }
noncomputable def impl_holes.Q (a : LI) : Option R := eval impl_holes.cx impl_holes.fl [.code impl_holes.body] (start 21 (impl_holes.s0 a))
noncomputable def impl_holes.X (a : LI) : Option LI := dec impl_holes.ret (impl_holes.Q a)
def impl_holes.sL3 (t6 : LI) (t7 t8 : Int) (out : LI) : St := { slots := [D, D, D, .row 1000192, D, D, .sl (.int .i64) t6, .int .i64 t7, .int .i64 t8, D, D, D, D, D, D, D, D, D, D, D, D], rows := [(1000192, ⟨.int .i64, out⟩)], boxes := [] }
noncomputable def impl_holes.tL3 : List It := (findL 3 impl_holes.body []).getD []
noncomputable def impl_holes.QL3 (t6 : LI) (t7 t8 : Int) (out : LI) : Option R := eval impl_holes.cx impl_holes.fl impl_holes.tL3 (impl_holes.sL3 t6 t7 t8 out)
noncomputable def impl_holes.XL3 (t6 : LI) (t7 t8 : Int) (out : LI) : Option LI := dec impl_holes.ret (impl_holes.QL3 t6 t7 t8 out)
theorem impl_holes.fns : FnsOk Go.Proofs.Try.prog impl_holes.cx := show FnsL _ _ from fns_nil
theorem impl_holes.lin : impl_holes.cx.Lin := Lin.of_fns impl_holes.fns
noncomputable def impl_holes.E : Entry := mkE [] impl_holes.pat impl_holes.X impl_holes.ap
theorem impl_holes.ok : EntOk Go.Proofs.Try.prog 87 impl_holes.E := mkE_ok (fun w args => Go.Proofs.Try.call87 args w) impl_holes.hp impl_holes.hap fun a b h => vc_of_X mixed (tyB_ok (cx := impl_holes.cx) tyOk) impl_holes.fns (fl := impl_holes.fl) Go.Proofs.Try.func87 (code := impl_holes.body) (by kernel_rfl) (n := 21) (by kernel_rfl) (by kernel_rfl) (by decide) (by decide) rfl rfl h
def impl_holes.T {α : Type} (pr : Pr) (rt : LI → Option α) (kL3 : LI → Int → Int → LI → Option α) (row : LI) : Option α :=
  pr.fi ((row.length : Nat) : Int) fun y1 => kL3 row y1 0 []
theorem impl_holes.Q_eq (row : LI) : impl_holes.Q row = impl_holes.T Pr.std (fun b => some (impl_holes.ret b)) (impl_holes.QL3) row := (eval_seg impl_holes.lin 1000000 _ _).trans (by kernel_rfl)
theorem impl_holes.X_eq (row : LI) : impl_holes.X row = impl_holes.T Pr.std some (impl_holes.XL3) row := by
  show dec impl_holes.ret (impl_holes.Q row) = _
  rw [impl_holes.Q_eq]
  simp only [impl_holes.T, std_fi, std_fb, std_fl, std_fll, std_flll, std_flb, std_fh, dec_ite, dec_cond, dec_bind, dec_elim, dec_none, impl_holes.dc]
  try rfl
theorem impl_holes.T_mono {α : Type} {rt : LI → Option α} {kL3 kL3_ : LI → Int → Int → LI → Option α} (hkL3 : ∀ x0 x1 x2 x3, Le (kL3 x0 x1 x2 x3) (kL3_ x0 x1 x2 x3)) {row : LI} : Le (impl_holes.T Pr.std rt kL3 row) (impl_holes.T Pr.std rt kL3_ row) := by
  unfold impl_holes.T
  exact (Le.fi fun _ => (hkL3 _ _ _ _))
def impl_holes.TL3 {α : Type} (pr : Pr) (rt : LI → Option α) (kL3 : LI → Int → Int → LI → Option α) (t6 : LI) (t7 t8 : Int) (out : LI) : Option α :=
  bif (pr.lt t8 t7) then
    if (pr.inR t8 t6.length) then
      bif (pr.eq (pr.gd t6 ((t8).toNat) 0) 0) then
        if out.length + 1 < 8796093022208 then
          pr.fi (pr.wr .i64 (t8 + 1)) fun y2 => pr.fl (out ++ [t8]) fun y3 => kL3 t6 t7 y2 y3
        else
          none
      else
        pr.fi (pr.wr .i64 (t8 + 1)) fun y2 => kL3 t6 t7 y2 out
    else
      none
  else
    rt out
theorem impl_holes.QL3_eq (t6 : LI) (t7 t8 : Int) (out : LI) : impl_holes.QL3 t6 t7 t8 out = impl_holes.TL3 Pr.std (fun b => some (impl_holes.ret b)) (impl_holes.QL3) t6 t7 t8 out := (eval_seg impl_holes.lin 1000000 _ _).trans (by kernel_rfl)
theorem impl_holes.XL3_eq (t6 : LI) (t7 t8 : Int) (out : LI) : impl_holes.XL3 t6 t7 t8 out = impl_holes.TL3 Pr.std some (impl_holes.XL3) t6 t7 t8 out := by
  show dec impl_holes.ret (impl_holes.QL3 t6 t7 t8 out) = _
  rw [impl_holes.QL3_eq]
  simp only [impl_holes.TL3, std_fi, std_fb, std_fl, std_fll, std_flll, std_flb, std_fh, dec_ite, dec_cond, dec_bind, dec_elim, dec_none, impl_holes.dc]
  try rfl
theorem impl_holes.TL3_mono {α : Type} {rt : LI → Option α} {kL3 kL3_ : LI → Int → Int → LI → Option α} (hkL3 : ∀ x0 x1 x2 x3, Le (kL3 x0 x1 x2 x3) (kL3_ x0 x1 x2 x3)) {t6 : LI} {t7 t8 : Int} {out : LI} : Le (impl_holes.TL3 Pr.std rt kL3 t6 t7 t8 out) (impl_holes.TL3 Pr.std rt kL3_ t6 t7 t8 out) := by
  unfold impl_holes.TL3
  exact (Le.cond (Le.ite (Le.cond (Le.ite (Le.fi fun _ => (Le.fl fun _ => (hkL3 _ _ _ _))) Le.rfl') (Le.fi fun _ => (hkL3 _ _ _ _))) Le.rfl') Le.rfl')
noncomputable def impl_holes.Cs (fu : Nat) : (LI → Int → Int → LI → Option LI) := @Nat.rec (fun _ => (LI → Int → Int → LI → Option LI)) (fun _ _ _ _ => none) (fun fu pv => fun t6 t7 t8 out => impl_holes.TL3 Pr.quick some (pv) t6 t7 t8 out) fu
noncomputable def impl_holes.CL3 (fu : Nat) : LI → Int → Int → LI → Option LI := (impl_holes.Cs fu)
noncomputable def impl_holes.C (fu : Nat) (a : LI) : Option LI := impl_holes.T Pr.quick some (impl_holes.CL3 fu) a
theorem impl_holes.C_okc : ∀ fu, fu ≤ 100000 → (∀ t6 t7 t8 out, Le (impl_holes.CL3 fu t6 t7 t8 out) (impl_holes.XL3 t6 t7 t8 out))
  | 0, _ => by
    refine ?_
    all_goals (intros; exact Le.none)
  | fu + 1, hfu => by
    have ih := impl_holes.C_okc fu (by omega)
    refine ?_
    · intro t6 t7 t8 out
      show Le (impl_holes.TL3 Pr.quick some (impl_holes.CL3 fu) t6 t7 t8 out) _
      rw [Pr.quick_eq, impl_holes.XL3_eq]
      exact impl_holes.TL3_mono (ih)
theorem impl_holes.C_ok (fu : Nat) (hfu : fu ≤ 100000) (a : LI) : Le (impl_holes.C fu a) (impl_holes.X a) := by
  show Le (impl_holes.T Pr.quick some (impl_holes.CL3 fu) a) _
  rw [Pr.quick_eq, impl_holes.X_eq]
  exact impl_holes.T_mono ((impl_holes.C_okc fu hfu))
/-! ### slices.Contains[[]int,int] -/
def slices_Contains_int_int.s0 (a : LI × Int) : St := { slots := [.sl (.int .i64) a.1, .int .i64 a.2], rows := [], boxes := [] }
def slices_Contains_int_int.pat : St → Option (LI × Int)
  | { slots := [.sl (.int .i64) s, .int .i64 v], rows := [], boxes := [], gd := [] } => some (s, v)
  | _ => none
theorem slices_Contains_int_int.hp : ∀ st a, slices_Contains_int_int.pat st = some a → st = slices_Contains_int_int.s0 a := by
  intro st a h
  unfold slices_Contains_int_int.pat at h
  split at h
  · cases h; rfl
  · cases h
def slices_Contains_int_int.ret (r : Bool) : R := ({ slots := [], rows := [], boxes := [] }, [.bool r])
def slices_Contains_int_int.ap (b : Bool) (K : St → List V → Option R) : Option R := K (slices_Contains_int_int.ret b).1 (slices_Contains_int_int.ret b).2
theorem slices_Contains_int_int.hap : ∀ b K, slices_Contains_int_int.ap b K = K (slices_Contains_int_int.ret b).1 (slices_Contains_int_int.ret b).2 := fun _ _ => rfl
theorem slices_Contains_int_int.inj : ∀ x y, slices_Contains_int_int.ret x = slices_Contains_int_int.ret y → x = y := by
  intro x y h
  cases h; rfl
theorem slices_Contains_int_int.dc (x : Bool) : dec slices_Contains_int_int.ret (some (slices_Contains_int_int.ret x)) = some x := dec_ret slices_Contains_int_int.inj x
noncomputable def slices_Contains_int_int.cx : Cx := { ty := TY, fns := [(102, slices_Index_int_int.E)], nk := [], sharp := true }
noncomputable def slices_Contains_int_int.body : Code := Go.Proofs.Try.f91.body.getD .skip
def slices_Contains_int_int.fl : Fn := { loops := [], joins := [], nr := 0, nb := 0, rs := [.tmp 4], pre := [], mv := [], fz := [] }
noncomputable def slices_Contains_int_int.Q (a : LI × Int) : Option R := eval slices_Contains_int_int.cx slices_Contains_int_int.fl [.code slices_Contains_int_int.body] (start 9 (slices_Contains_int_int.s0 a))
noncomputable def slices_Contains_int_int.X (a : LI × Int) : Option (Bool) := dec slices_Contains_int_int.ret (slices_Contains_int_int.Q a)
theorem slices_Contains_int_int.fns : FnsOk Go.Proofs.Try.prog slices_Contains_int_int.cx := show FnsL _ _ from (fns_cons slices_Index_int_int.ok fns_nil)
theorem slices_Contains_int_int.lin : slices_Contains_int_int.cx.Lin := Lin.of_fns slices_Contains_int_int.fns
noncomputable def slices_Contains_int_int.E : Entry := mkE [] slices_Contains_int_int.pat slices_Contains_int_int.X slices_Contains_int_int.ap
theorem slices_Contains_int_int.ok : EntOk Go.Proofs.Try.prog 91 slices_Contains_int_int.E := mkE_ok (fun w args => Go.Proofs.Try.call91 args w) slices_Contains_int_int.hp slices_Contains_int_int.hap fun a b h => vc_of_X mixed (tyB_ok (cx := slices_Contains_int_int.cx) tyOk) slices_Contains_int_int.fns (fl := slices_Contains_int_int.fl) Go.Proofs.Try.func91 (code := slices_Contains_int_int.body) (by kernel_rfl) (n := 9) (by kernel_rfl) (by kernel_rfl) (by decide) (by decide) rfl rfl h
def slices_Contains_int_int.T {α : Type} (pr : Pr) (rt : Bool → Option α) (call_0 : (LI × Int) → Option (Int)) (s : LI) (v : Int) : Option α :=
  (call_0 (s, v)).bind fun rr1 =>
    pr.fb (pr.ge rr1 0) fun y0 => rt y0
theorem slices_Contains_int_int.Q_eq (s : LI) (v : Int) : slices_Contains_int_int.Q (s, v) = slices_Contains_int_int.T Pr.std (fun b => some (slices_Contains_int_int.ret b)) slices_Index_int_int.X s v := (eval_seg slices_Contains_int_int.lin 1000000 _ _).trans (by kernel_rfl)
theorem slices_Contains_int_int.X_eq (s : LI) (v : Int) : slices_Contains_int_int.X (s, v) = slices_Contains_int_int.T Pr.std some slices_Index_int_int.X s v := by
  show dec slices_Contains_int_int.ret (slices_Contains_int_int.Q (s, v)) = _
  rw [slices_Contains_int_int.Q_eq]
  simp only [slices_Contains_int_int.T, std_fi, std_fb, std_fl, std_fll, std_flll, std_flb, std_fh, dec_ite, dec_cond, dec_bind, dec_elim, dec_none, slices_Contains_int_int.dc]
  try rfl
theorem slices_Contains_int_int.T_mono {α : Type} {rt : (Bool) → Option α} {call_0 call_0_ : (LI × Int) → Option (Int)} (hcall_0 : ∀ x, Le (call_0 x) (call_0_ x)) {s : LI} {v : Int} : Le (slices_Contains_int_int.T Pr.std rt call_0 s v) (slices_Contains_int_int.T Pr.std rt call_0_ s v) := by
  unfold slices_Contains_int_int.T
  exact (Le.bind (hcall_0 _) (fun rr1 => Le.rfl'))
noncomputable def slices_Contains_int_int.C (fu : Nat) (a : LI × Int) : Option (Bool) := slices_Contains_int_int.T Pr.quick some (slices_Index_int_int.C fu) a.1 a.2
theorem slices_Contains_int_int.C_ok (fu : Nat) (hfu : fu ≤ 100000) (a : LI × Int) : Le (slices_Contains_int_int.C fu a) (slices_Contains_int_int.X a) := by
  obtain ⟨s, v⟩ := a
  show Le (slices_Contains_int_int.T Pr.quick some (slices_Index_int_int.C fu) s v) _
  rw [Pr.quick_eq, slices_Contains_int_int.X_eq]
  exact slices_Contains_int_int.T_mono (fun x => slices_Index_int_int.C_ok fu hfu x)
/-! ### loop.example/g01232/impl.numbers -/
def impl_numbers.s0 (a : LI) : St := { slots := [.sl (.int .i64) a], rows := [], boxes := [] }
def impl_numbers.pat : St → Option LI
  | { slots := [.sl (.int .i64) row], rows := [], boxes := [], gd := [] } => some row
  | _ => none
theorem impl_numbers.hp : ∀ st a, impl_numbers.pat st = some a → st = impl_numbers.s0 a := by
  intro st a h
  unfold impl_numbers.pat at h
  split at h
  · cases h; rfl
  · cases h
def impl_numbers.ret (r : LI) : R := ({ slots := [], rows := [(0, ⟨.int .i64, r⟩)], boxes := [] }, [.row 0])
def impl_numbers.ap (b : LI) (K : St → List V → Option R) : Option R := K (impl_numbers.ret b).1 (impl_numbers.ret b).2
theorem impl_numbers.hap : ∀ b K, impl_numbers.ap b K = K (impl_numbers.ret b).1 (impl_numbers.ret b).2 := fun _ _ => rfl
theorem impl_numbers.inj : ∀ x y, impl_numbers.ret x = impl_numbers.ret y → x = y := by
  intro x y h
  cases h; rfl
theorem impl_numbers.dc (x : LI) : dec impl_numbers.ret (some (impl_numbers.ret x)) = some x := dec_ret impl_numbers.inj x
noncomputable def impl_numbers.cx : Cx := { ty := TY, fns := [(91, slices_Contains_int_int.E)], nk := [], sharp := true }
noncomputable def impl_numbers.body : Code := Go.Proofs.Try.f88.body.getD .skip
def impl_numbers.fl : Fn := { loops := [(3, [(0, none), (3, some (.int .i64)), (4, none)])], joins := [], nr := 0, nb := 0, rs := [.tmp 2], pre := [(2, [some (.int .i64, false)])], mv := [], fz := [] }
noncomputable def impl_numbers.Q (a : LI) : Option R := eval impl_numbers.cx impl_numbers.fl [.code impl_numbers.body] (start 17 (impl_numbers.s0 a))
noncomputable def impl_numbers.X (a : LI) : Option LI := dec impl_numbers.ret (impl_numbers.Q a)
def impl_numbers.sL3 (row : LI) (n : Int) (out : LI) : St := { slots := [.sl (.int .i64) row, D, D, .row 1000192, .int .i64 n, D, D, D, D, D, D, D, D, D, D, D, D], rows := [(1000192, ⟨.int .i64, out⟩)], boxes := [] }
noncomputable def impl_numbers.tL3 : List It := (findL 3 impl_numbers.body []).getD []
noncomputable def impl_numbers.QL3 (row : LI) (n : Int) (out : LI) : Option R := eval impl_numbers.cx impl_numbers.fl impl_numbers.tL3 (impl_numbers.sL3 row n out)
noncomputable def impl_numbers.XL3 (row : LI) (n : Int) (out : LI) : Option LI := dec impl_numbers.ret (impl_numbers.QL3 row n out)
theorem impl_numbers.fns : FnsOk Go.Proofs.Try.prog impl_numbers.cx := show FnsL _ _ from (fns_cons slices_Contains_int_int.ok fns_nil)
theorem impl_numbers.lin : impl_numbers.cx.Lin := Lin.of_fns impl_numbers.fns
noncomputable def impl_numbers.E : Entry := mkE [] impl_numbers.pat impl_numbers.X impl_numbers.ap
theorem impl_numbers.ok : EntOk Go.Proofs.Try.prog 88 impl_numbers.E := mkE_ok (fun w args => Go.Proofs.Try.call88 args w) impl_numbers.hp impl_numbers.hap fun a b h => vc_of_X mixed (tyB_ok (cx := impl_numbers.cx) tyOk) impl_numbers.fns (fl := impl_numbers.fl) Go.Proofs.Try.func88 (code := impl_numbers.body) (by kernel_rfl) (n := 17) (by kernel_rfl) (by kernel_rfl) (by decide) (by decide) rfl rfl h
def impl_numbers.T {α : Type} (pr : Pr) (rt : LI → Option α) (kL3 : LI → Int → LI → Option α) (row : LI) : Option α :=
  kL3 row 1 []
theorem impl_numbers.Q_eq (row : LI) : impl_numbers.Q row = impl_numbers.T Pr.std (fun b => some (impl_numbers.ret b)) (impl_numbers.QL3) row := (eval_seg impl_numbers.lin 1000000 _ _).trans (by kernel_rfl)
theorem impl_numbers.X_eq (row : LI) : impl_numbers.X row = impl_numbers.T Pr.std some (impl_numbers.XL3) row := by
  show dec impl_numbers.ret (impl_numbers.Q row) = _
  rw [impl_numbers.Q_eq]
  simp only [impl_numbers.T, std_fi, std_fb, std_fl, std_fll, std_flll, std_flb, std_fh, dec_ite, dec_cond, dec_bind, dec_elim, dec_none, impl_numbers.dc]
  try rfl
theorem impl_numbers.T_mono {α : Type} {rt : LI → Option α} {kL3 kL3_ : LI → Int → LI → Option α} (hkL3 : ∀ x0 x1 x2, Le (kL3 x0 x1 x2) (kL3_ x0 x1 x2)) {row : LI} : Le (impl_numbers.T Pr.std rt kL3 row) (impl_numbers.T Pr.std rt kL3_ row) := by
  unfold impl_numbers.T
  exact (hkL3 _ _ _)
def impl_numbers.TL3 {α : Type} (pr : Pr) (rt : LI → Option α) (kL3 : LI → Int → LI → Option α) (call_0 : (LI × Int) → Option (Bool)) (row : LI) (n : Int) (out : LI) : Option α :=
  bif (pr.le n 20) then
    (call_0 (row, n)).bind fun rr1 =>
      bif rr1 then
        if out.length + 1 < 8796093022208 then
          pr.fi (pr.wr .i64 (n + 1)) fun y1 => pr.fl (out ++ [n]) fun y2 => kL3 row y1 y2
        else
          none
      else
        pr.fi (pr.wr .i64 (n + 1)) fun y1 => kL3 row y1 out
  else
    rt out
theorem impl_numbers.QL3_eq (row : LI) (n : Int) (out : LI) : impl_numbers.QL3 row n out = impl_numbers.TL3 Pr.std (fun b => some (impl_numbers.ret b)) (impl_numbers.QL3) slices_Contains_int_int.X row n out := (eval_seg impl_numbers.lin 1000000 _ _).trans (by kernel_rfl)
theorem impl_numbers.XL3_eq (row : LI) (n : Int) (out : LI) : impl_numbers.XL3 row n out = impl_numbers.TL3 Pr.std some (impl_numbers.XL3) slices_Contains_int_int.X row n out := by
  show dec impl_numbers.ret (impl_numbers.QL3 row n out) = _
  rw [impl_numbers.QL3_eq]
  simp only [impl_numbers.TL3, std_fi, std_fb, std_fl, std_fll, std_flll, std_flb, std_fh, dec_ite, dec_cond, dec_bind, dec_elim, dec_none, impl_numbers.dc]
  try rfl
theorem impl_numbers.TL3_mono {α : Type} {rt : LI → Option α} {kL3 kL3_ : LI → Int → LI → Option α} (hkL3 : ∀ x0 x1 x2, Le (kL3 x0 x1 x2) (kL3_ x0 x1 x2)) {call_0 call_0_ : (LI × Int) → Option (Bool)} (hcall_0 : ∀ x, Le (call_0 x) (call_0_ x)) {row : LI} {n : Int} {out : LI} : Le (impl_numbers.TL3 Pr.std rt kL3 call_0 row n out) (impl_numbers.TL3 Pr.std rt kL3_ call_0_ row n out) := by
  unfold impl_numbers.TL3
  exact (Le.cond (Le.bind (hcall_0 _) (fun rr1 => (Le.cond (Le.ite (Le.fi fun _ => (Le.fl fun _ => (hkL3 _ _ _))) Le.rfl') (Le.fi fun _ => (hkL3 _ _ _))))) Le.rfl')
noncomputable def impl_numbers.Cs (fu : Nat) : (LI → Int → LI → Option LI) := @Nat.rec (fun _ => (LI → Int → LI → Option LI)) (fun _ _ _ => none) (fun fu pv => fun row n out => impl_numbers.TL3 Pr.quick some (pv) (slices_Contains_int_int.C fu) row n out) fu
noncomputable def impl_numbers.CL3 (fu : Nat) : LI → Int → LI → Option LI := (impl_numbers.Cs fu)
noncomputable def impl_numbers.C (fu : Nat) (a : LI) : Option LI := impl_numbers.T Pr.quick some (impl_numbers.CL3 fu) a
theorem impl_numbers.C_okc : ∀ fu, fu ≤ 100000 → (∀ row n out, Le (impl_numbers.CL3 fu row n out) (impl_numbers.XL3 row n out))
  | 0, _ => by
    refine ?_
    all_goals (intros; exact Le.none)
  | fu + 1, hfu => by
    have ih := impl_numbers.C_okc fu (by omega)
    refine ?_
    · intro row n out
      show Le (impl_numbers.TL3 Pr.quick some (impl_numbers.CL3 fu) (slices_Contains_int_int.C fu) row n out) _
      rw [Pr.quick_eq, impl_numbers.XL3_eq]
      exact impl_numbers.TL3_mono (ih) (fun x => slices_Contains_int_int.C_ok fu (by omega) x)
theorem impl_numbers.C_ok (fu : Nat) (hfu : fu ≤ 100000) (a : LI) : Le (impl_numbers.C fu a) (impl_numbers.X a) := by
  show Le (impl_numbers.T Pr.quick some (impl_numbers.CL3 fu) a) _
  rw [Pr.quick_eq, impl_numbers.X_eq]
  exact impl_numbers.T_mono ((impl_numbers.C_okc fu hfu))
end Go.VS
