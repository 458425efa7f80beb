/- printed by gen.py: a part of the walk through the program. No condition. -/
import Derived.Test.YtnibmainjgcmaaaG0
set_option linter.unusedVariables false
set_option linter.unusedSimpArgs false
set_option maxRecDepth 100000
namespace Go.VS
/-! ### loop.example/g01232/impl.langfordKind -/
def impl_langfordKind.s0 (a : Int × Int) : St := { slots := [.int .i64 a.1, .int .i64 a.2], rows := [], boxes := [] }
def impl_langfordKind.pat : St → Option (Int × Int)
  | { slots := [.int .i64 n, .int .i64 d], rows := [], boxes := [], gd := [] } => some (n, d)
  | _ => none
theorem impl_langfordKind.hp : ∀ st a, impl_langfordKind.pat st = some a → st = impl_langfordKind.s0 a := by
  intro st a h
  unfold impl_langfordKind.pat at h
  split at h
  · cases h; rfl
  · cases h
def impl_langfordKind.ret (r : Int × Int) : R := ({ slots := [], rows := [], boxes := [(0, [.int .i64 r.1]), (1, [.int .i64 r.2])] }, [.clo 78 [] [.ptr 0 0, .ptr 1 0]])
def impl_langfordKind.ap (b : Int × Int) (K : St → List V → Option R) : Option R := K (impl_langfordKind.ret b).1 (impl_langfordKind.ret b).2
theorem impl_langfordKind.hap : ∀ b K, impl_langfordKind.ap b K = K (impl_langfordKind.ret b).1 (impl_langfordKind.ret b).2 := fun _ _ => rfl
theorem impl_langfordKind.inj : ∀ x y, impl_langfordKind.ret x = impl_langfordKind.ret y → x = y := by
  intro x y h
  obtain ⟨x1, x2⟩ := x; obtain ⟨y1, y2⟩ := y; cases h; rfl
theorem impl_langfordKind.dc (x : Int × Int) : dec impl_langfordKind.ret (some (impl_langfordKind.ret x)) = some x := dec_ret impl_langfordKind.inj x
noncomputable def impl_langfordKind.cx : Cx := { ty := TY, fns := [], nk := [], sharp := true }
noncomputable def impl_langfordKind.body : Code := Go.Proofs.Try.f46.body.getD .skip
def impl_langfordKind.fl : Fn := { loops := [], joins := [], nr := 0, nb := 0, rs := [.tmp 4], pre := [], mv := [], fz := [] }
noncomputable def impl_langfordKind.Q (a : Int × Int) : Option R := eval impl_langfordKind.cx impl_langfordKind.fl [.code impl_langfordKind.body] (start 6 (impl_langfordKind.s0 a))
noncomputable def impl_langfordKind.X (a : Int × Int) : Option (Int × Int) := dec impl_langfordKind.ret (impl_langfordKind.Q a)
theorem impl_langfordKind.fns : FnsOk Go.Proofs.Try.prog impl_langfordKind.cx := show FnsL _ _ from fns_nil
theorem impl_langfordKind.lin : impl_langfordKind.cx.Lin := Lin.of_fns impl_langfordKind.fns
noncomputable def impl_langfordKind.E : Entry := mkE [] impl_langfordKind.pat impl_langfordKind.X impl_langfordKind.ap
theorem impl_langfordKind.ok : EntOk Go.Proofs.Try.prog 46 impl_langfordKind.E := mkE_ok (fun w args => Go.Proofs.Try.call46 args w) impl_langfordKind.hp impl_langfordKind.hap fun a b h => vc_of_X mixed (tyB_ok (cx := impl_langfordKind.cx) tyOk) impl_langfordKind.fns (fl := impl_langfordKind.fl) Go.Proofs.Try.func46 (code := impl_langfordKind.body) (by kernel_rfl) (n := 6) (by kernel_rfl) (by kernel_rfl) (by decide) (by decide) rfl rfl h
def impl_langfordKind.T {α : Type} (pr : Pr) (rt : (Int × Int) → Option α) (n d : Int) : Option α :=
  rt (n, d)
theorem impl_langfordKind.Q_eq (n d : Int) : impl_langfordKind.Q (n, d) = impl_langfordKind.T Pr.std (fun b => some (impl_langfordKind.ret b)) n d := (eval_seg impl_langfordKind.lin 1000000 _ _).trans (by kernel_rfl)
theorem impl_langfordKind.X_eq (n d : Int) : impl_langfordKind.X (n, d) = impl_langfordKind.T Pr.std some n d := by
  show dec impl_langfordKind.ret (impl_langfordKind.Q (n, d)) = _
  rw [impl_langfordKind.Q_eq]
  simp only [impl_langfordKind.T, std_fi, std_fb, std_fl, std_fll, std_flll, std_flb, std_fh, dec_ite, dec_cond, dec_bind, dec_elim, dec_none, impl_langfordKind.dc]
  try rfl
theorem impl_langfordKind.T_mono {α : Type} {rt : (Int × Int) → Option α} {n d : Int} : Le (impl_langfordKind.T Pr.std rt n d) (impl_langfordKind.T Pr.std rt n d) := by
  unfold impl_langfordKind.T
  exact Le.rfl'
noncomputable def impl_langfordKind.C (fu : Nat) (a : Int × Int) : Option (Int × Int) := impl_langfordKind.T Pr.quick some a.1 a.2
theorem impl_langfordKind.C_ok (fu : Nat) (hfu : fu ≤ 100000) (a : Int × Int) : Le (impl_langfordKind.C fu a) (impl_langfordKind.X a) := by
  obtain ⟨n, d⟩ := a
  show Le (impl_langfordKind.T Pr.quick some n d) _
  rw [Pr.quick_eq, impl_langfordKind.X_eq]
  exact impl_langfordKind.T_mono
/-! ### slices.Index[[]int,int] -/
def slices_Index_int_int.s0 (a : LI × Int) : St := { slots := [.sl (.int .i64) a.1, .int .i64 a.2], rows := [], boxes := [] }
def slices_Index_int_int.pat : St → Option (LI × Int)
  | { slots := [.sl (.int .i64) s, .int .i64 v], rows := [], boxes := [], gd := [] } => some (s, v)
  | _ => none
theorem slices_Index_int_int.hp : ∀ st a, slices_Index_int_int.pat st = some a → st = slices_Index_int_int.s0 a := by
  intro st a h
  unfold slices_Index_int_int.pat at h
  split at h
  · cases h; rfl
  · cases h
def slices_Index_int_int.ret (r : Int) : R := ({ slots := [], rows := [], boxes := [] }, [.int .i64 r])
def slices_Index_int_int.ap (b : Int) (K : St → List V → Option R) : Option R := K (slices_Index_int_int.ret b).1 (slices_Index_int_int.ret b).2
theorem slices_Index_int_int.hap : ∀ b K, slices_Index_int_int.ap b K = K (slices_Index_int_int.ret b).1 (slices_Index_int_int.ret b).2 := fun _ _ => rfl
theorem slices_Index_int_int.inj : ∀ x y, slices_Index_int_int.ret x = slices_Index_int_int.ret y → x = y := by
  intro x y h
  cases h; rfl
theorem slices_Index_int_int.dc (x : Int) : dec slices_Index_int_int.ret (some (slices_Index_int_int.ret x)) = some x := dec_ret slices_Index_int_int.inj x
noncomputable def slices_Index_int_int.cx : Cx := { ty := TY, fns := [], nk := [], sharp := true }
noncomputable def slices_Index_int_int.body : Code := Go.Proofs.Try.f102.body.getD .skip
def slices_Index_int_int.fl : Fn := { loops := [(2, [(0, none), (1, none), (7, none), (8, none)])], joins := [], nr := 0, nb := 0, rs := [.tmp 4], pre := [], mv := [], fz := [] }
noncomputable def slices_Index_int_int.Q (a : LI × Int) : Option R := eval slices_Index_int_int.cx slices_Index_int_int.fl [.code slices_Index_int_int.body] (start 19 (slices_Index_int_int.s0 a))
noncomputable def slices_Index_int_int.X (a : LI × Int) : Option (Int) := dec slices_Index_int_int.ret (slices_Index_int_int.Q a)
def slices_Index_int_int.sL2 (s : LI) (v t7 t8 : Int) : St := { slots := [.sl (.int .i64) s, .int .i64 v, D, D, D, D, D, .int .i64 t7, .int .i64 t8, D, D, D, D, D, D, D, D, D, D], rows := [], boxes := [] }
noncomputable def slices_Index_int_int.tL2 : List It := (findL 2 slices_Index_int_int.body []).getD []
noncomputable def slices_Index_int_int.QL2 (s : LI) (v t7 t8 : Int) : Option R := eval slices_Index_int_int.cx slices_Index_int_int.fl slices_Index_int_int.tL2 (slices_Index_int_int.sL2 s v t7 t8)
noncomputable def slices_Index_int_int.XL2 (s : LI) (v t7 t8 : Int) : Option (Int) := dec slices_Index_int_int.ret (slices_Index_int_int.QL2 s v t7 t8)
theorem slices_Index_int_int.fns : FnsOk Go.Proofs.Try.prog slices_Index_int_int.cx := show FnsL _ _ from fns_nil
theorem slices_Index_int_int.lin : slices_Index_int_int.cx.Lin := Lin.of_fns slices_Index_int_int.fns
noncomputable def slices_Index_int_int.E : Entry := mkE [] slices_Index_int_int.pat slices_Index_int_int.X slices_Index_int_int.ap
theorem slices_Index_int_int.ok : EntOk Go.Proofs.Try.prog 102 slices_Index_int_int.E := mkE_ok (fun w args => Go.Proofs.Try.call102 args w) slices_Index_int_int.hp slices_Index_int_int.hap fun a b h => vc_of_X mixed (tyB_ok (cx := slices_Index_int_int.cx) tyOk) slices_Index_int_int.fns (fl := slices_Index_int_int.fl) Go.Proofs.Try.func102 (code := slices_Index_int_int.body) (by kernel_rfl) (n := 19) (by kernel_rfl) (by kernel_rfl) (by decide) (by decide) rfl rfl h
def slices_Index_int_int.T {α : Type} (pr : Pr) (rt : Int → Option α) (kL2 : LI → Int → Int → Int → Option α) (s : LI) (v : Int) : Option α :=
  pr.fi ((s.length : Nat) : Int) fun y2 => kL2 s v y2 0
theorem slices_Index_int_int.Q_eq (s : LI) (v : Int) : slices_Index_int_int.Q (s, v) = slices_Index_int_int.T Pr.std (fun b => some (slices_Index_int_int.ret b)) (slices_Index_int_int.QL2) s v := (eval_seg slices_Index_int_int.lin 1000000 _ _).trans (by kernel_rfl)
theorem slices_Index_int_int.X_eq (s : LI) (v : Int) : slices_Index_int_int.X (s, v) = slices_Index_int_int.T Pr.std some (slices_Index_int_int.XL2) s v := by
  show dec slices_Index_int_int.ret (slices_Index_int_int.Q (s, v)) = _
  rw [slices_Index_int_int.Q_eq]
  simp only [slices_Index_int_int.T, std_fi, std_fb, std_fl, std_fll, std_flll, std_flb, std_fh, dec_ite, dec_cond, dec_bind, dec_elim, dec_none, slices_Index_int_int.dc]
  try rfl
theorem slices_Index_int_int.T_mono {α : Type} {rt : (Int) → Option α} {kL2 kL2_ : LI → Int → Int → Int → Option α} (hkL2 : ∀ x0 x1 x2 x3, Le (kL2 x0 x1 x2 x3) (kL2_ x0 x1 x2 x3)) {s : LI} {v : Int} : Le (slices_Index_int_int.T Pr.std rt kL2 s v) (slices_Index_int_int.T Pr.std rt kL2_ s v) := by
  unfold slices_Index_int_int.T
  exact (Le.fi fun _ => (hkL2 _ _ _ _))
def slices_Index_int_int.TL2 {α : Type} (pr : Pr) (rt : Int → Option α) (kL2 : LI → Int → Int → Int → Option α) (s : LI) (v t7 t8 : Int) : Option α :=
  bif (pr.lt t8 t7) then
    if (pr.inR t8 s.length) then
      bif (pr.eq v (pr.gd s ((t8).toNat) 0)) then
        rt t8
      else
        pr.fi (pr.wr .i64 (t8 + 1)) fun y3 => kL2 s v t7 y3
    else
      none
  else
    rt (-1)
theorem slices_Index_int_int.QL2_eq (s : LI) (v t7 t8 : Int) : slices_Index_int_int.QL2 s v t7 t8 = slices_Index_int_int.TL2 Pr.std (fun b => some (slices_Index_int_int.ret b)) (slices_Index_int_int.QL2) s v t7 t8 := (eval_seg slices_Index_int_int.lin 1000000 _ _).trans (by kernel_rfl)
theorem slices_Index_int_int.XL2_eq (s : LI) (v t7 t8 : Int) : slices_Index_int_int.XL2 s v t7 t8 = slices_Index_int_int.TL2 Pr.std some (slices_Index_int_int.XL2) s v t7 t8 := by
  show dec slices_Index_int_int.ret (slices_Index_int_int.QL2 s v t7 t8) = _
  rw [slices_Index_int_int.QL2_eq]
  simp only [slices_Index_int_int.TL2, std_fi, std_fb, std_fl, std_fll, std_flll, std_flb, std_fh, dec_ite, dec_cond, dec_bind, dec_elim, dec_none, slices_Index_int_int.dc]
  try rfl
theorem slices_Index_int_int.TL2_mono {α : Type} {rt : (Int) → Option α} {kL2 kL2_ : LI → Int → Int → Int → Option α} (hkL2 : ∀ x0 x1 x2 x3, Le (kL2 x0 x1 x2 x3) (kL2_ x0 x1 x2 x3)) {s : LI} {v t7 t8 : Int} : Le (slices_Index_int_int.TL2 Pr.std rt kL2 s v t7 t8) (slices_Index_int_int.TL2 Pr.std rt kL2_ s v t7 t8) := by
  unfold slices_Index_int_int.TL2
  exact (Le.cond (Le.ite (Le.cond Le.rfl' (Le.fi fun _ => (hkL2 _ _ _ _))) Le.rfl') Le.rfl')
noncomputable def slices_Index_int_int.Cs (fu : Nat) : (LI → Int → Int → Int → Option (Int)) := @Nat.rec (fun _ => (LI → Int → Int → Int → Option (Int))) (fun _ _ _ _ => none) (fun fu pv => fun s v t7 t8 => slices_Index_int_int.TL2 Pr.quick some (pv) s v t7 t8) fu
noncomputable def slices_Index_int_int.CL2 (fu : Nat) : LI → Int → Int → Int → Option (Int) := (slices_Index_int_int.Cs fu)
noncomputable def slices_Index_int_int.C (fu : Nat) (a : LI × Int) : Option (Int) := slices_Index_int_int.T Pr.quick some (slices_Index_int_int.CL2 fu) a.1 a.2
theorem slices_Index_int_int.C_okc : ∀ fu, fu ≤ 100000 → (∀ s v t7 t8, Le (slices_Index_int_int.CL2 fu s v t7 t8) (slices_Index_int_int.XL2 s v t7 t8))
  | 0, _ => by
    refine ?_
    all_goals (intros; exact Le.none)
  | fu + 1, hfu => by
    have ih := slices_Index_int_int.C_okc fu (by omega)
    refine ?_
    · intro s v t7 t8
      show Le (slices_Index_int_int.TL2 Pr.quick some (slices_Index_int_int.CL2 fu) s v t7 t8) _
      rw [Pr.quick_eq, slices_Index_int_int.XL2_eq]
      exact slices_Index_int_int.TL2_mono (ih)
theorem slices_Index_int_int.C_ok (fu : Nat) (hfu : fu ≤ 100000) (a : LI × Int) : Le (slices_Index_int_int.C fu a) (slices_Index_int_int.X a) := by
  obtain ⟨s, v⟩ := a
  show Le (slices_Index_int_int.T Pr.quick some (slices_Index_int_int.CL2 fu) s v) _
  rw [Pr.quick_eq, slices_Index_int_int.X_eq]
  exact slices_Index_int_int.T_mono ((slices_Index_int_int.C_okc fu hfu))
/-! ### (loop.example/g01232/impl.kind).count$1 -/
def impl_kind_count_1.s0 (a : LI × Int) : St := { slots := [.sl (.int .i64) a.1, .ptr 0 0], rows := [], boxes := [(0, [.int .i64 a.2])] }
def impl_kind_count_1.pat : St → Option (LI × Int)
  | { slots := [.sl (.int .i64) row, .ptr 0 0], rows := [], boxes := [(0, [.int .i64 t1])], gd := [] } => some (row, t1)
  | _ => none
theorem impl_kind_count_1.hp : ∀ st a, impl_kind_count_1.pat st = some a → st = impl_kind_count_1.s0 a := by
  intro st a h
  unfold impl_kind_count_1.pat at h
  split at h
  · cases h; rfl
  · cases h
def impl_kind_count_1.ret (r : Bool × Int) : R := ({ slots := [], rows := [], boxes := [(0, [.int .i64 r.2])] }, [.bool r.1])
def impl_kind_count_1.ap (b : Bool × Int) (K : St → List V → Option R) : Option R := K (impl_kind_count_1.ret b).1 (impl_kind_count_1.ret b).2
theorem impl_kind_count_1.hap : ∀ b K, impl_kind_count_1.ap b K = K (impl_kind_count_1.ret b).1 (impl_kind_count_1.ret b).2 := fun _ _ => rfl
theorem impl_kind_count_1.inj : ∀ x y, impl_kind_count_1.ret x = impl_kind_count_1.ret y → x = y := by
  intro x y h
  obtain ⟨x1, x2⟩ := x; obtain ⟨y1, y2⟩ := y; cases h; rfl
theorem impl_kind_count_1.dc (x : Bool × Int) : dec impl_kind_count_1.ret (some (impl_kind_count_1.ret x)) = some x := dec_ret impl_kind_count_1.inj x
noncomputable def impl_kind_count_1.cx : Cx := { ty := TY, fns := [], nk := [], sharp := true }
noncomputable def impl_kind_count_1.body : Code := Go.Proofs.Try.f80.body.getD .skip
def impl_kind_count_1.fl : Fn := { loops := [], joins := [], nr := 0, nb := 1, rs := [.tmp 3], pre := [], mv := [], fz := [] }
noncomputable def impl_kind_count_1.Q (a : LI × Int) : Option R := eval impl_kind_count_1.cx impl_kind_count_1.fl [.code impl_kind_count_1.body] (start 6 (impl_kind_count_1.s0 a))
noncomputable def impl_kind_count_1.X (a : LI × Int) : Option (Bool × Int) := dec impl_kind_count_1.ret (impl_kind_count_1.Q a)
theorem impl_kind_count_1.fns : FnsOk Go.Proofs.Try.prog impl_kind_count_1.cx := show FnsL _ _ from fns_nil
theorem impl_kind_count_1.lin : impl_kind_count_1.cx.Lin := Lin.of_fns impl_kind_count_1.fns
noncomputable def impl_kind_count_1.E : Entry := mkE [[], [true]] impl_kind_count_1.pat impl_kind_count_1.X impl_kind_count_1.ap
theorem impl_kind_count_1.ok : EntOk Go.Proofs.Try.prog 80 impl_kind_count_1.E := mkE_ok (fun w args => Go.Proofs.Try.call80 args w) impl_kind_count_1.hp impl_kind_count_1.hap fun a b h => vc_of_X mixed (tyB_ok (cx := impl_kind_count_1.cx) tyOk) impl_kind_count_1.fns (fl := impl_kind_count_1.fl) Go.Proofs.Try.func80 (code := impl_kind_count_1.body) (by kernel_rfl) (n := 6) (by kernel_rfl) (by kernel_rfl) (by decide) (by decide) rfl rfl h
def impl_kind_count_1.T {α : Type} (pr : Pr) (rt : (Bool × Int) → Option α) (row : LI) (t1 : Int) : Option α :=
  pr.fi (pr.wr .i64 (t1 + 1)) fun y1 => rt (false, y1)
theorem impl_kind_count_1.Q_eq (row : LI) (t1 : Int) : impl_kind_count_1.Q (row, t1) = impl_kind_count_1.T Pr.std (fun b => some (impl_kind_count_1.ret b)) row t1 := (eval_seg impl_kind_count_1.lin 1000000 _ _).trans (by kernel_rfl)
theorem impl_kind_count_1.X_eq (row : LI) (t1 : Int) : impl_kind_count_1.X (row, t1) = impl_kind_count_1.T Pr.std some row t1 := by
  show dec impl_kind_count_1.ret (impl_kind_count_1.Q (row, t1)) = _
  rw [impl_kind_count_1.Q_eq]
  simp only [impl_kind_count_1.T, std_fi, std_fb, std_fl, std_fll, std_flll, std_flb, std_fh, dec_ite, dec_cond, dec_bind, dec_elim, dec_none, impl_kind_count_1.dc]
  try rfl
theorem impl_kind_count_1.T_mono {α : Type} {rt : (Bool × Int) → Option α} {row : LI} {t1 : Int} : Le (impl_kind_count_1.T Pr.std rt row t1) (impl_kind_count_1.T Pr.std rt row t1) := by
  unfold impl_kind_count_1.T
  exact Le.rfl'
noncomputable def impl_kind_count_1.C (fu : Nat) (a : LI × Int) : Option (Bool × Int) := impl_kind_count_1.T Pr.quick some a.1 a.2
theorem impl_kind_count_1.C_ok (fu : Nat) (hfu : fu ≤ 100000) (a : LI × Int) : Le (impl_kind_count_1.C fu a) (impl_kind_count_1.X a) := by
  obtain ⟨row, t1⟩ := a
  show Le (impl_kind_count_1.T Pr.quick some row t1) _
  rw [Pr.quick_eq, impl_kind_count_1.X_eq]
  exact impl_kind_count_1.T_mono
/-! ### loop.example/g01232/impl.fill -/
def impl_fill.s0 (a : LI × Int × LI × LI × Int) : St := { slots := [.row 0, .sl (.int .i64) a.1, .row 1, .int .i64 a.2.1, .clo 80 [] [.ptr 0 0]], rows := [(0, ⟨.int .i64, a.2.2.1⟩), (1, ⟨.int .i64, a.2.2.2.1⟩)], boxes := [(0, [.int .i64 a.2.2.2.2])] }
def impl_fill.pat : St → Option (LI × Int × LI × LI × Int)
  | { slots := [.row 0, .sl (.int .i64) told, .row 1, .int .i64 shift, .clo 80 [] [.ptr 0 0]], rows := [(0, ⟨.int .i64, row⟩), (1, ⟨.int .i64, left⟩)], boxes := [(0, [.int .i64 eachc0])], gd := [] } => some (told, shift, row, left, eachc0)
  | _ => none
theorem impl_fill.hp : ∀ st a, impl_fill.pat st = some a → st = impl_fill.s0 a := by
  intro st a h
  unfold impl_fill.pat at h
  split at h
  · cases h; rfl
  · cases h
def impl_fill.ret (r : Bool × LI × LI × Int) : R := ({ slots := [], rows := [(0, ⟨.int .i64, r.2.1⟩), (1, ⟨.int .i64, r.2.2.1⟩)], boxes := [(0, [.int .i64 r.2.2.2])] }, [.bool r.1])
def impl_fill.ap (b : Bool × LI × LI × Int) (K : St → List V → Option R) : Option R := K (impl_fill.ret b).1 (impl_fill.ret b).2
theorem impl_fill.hap : ∀ b K, impl_fill.ap b K = K (impl_fill.ret b).1 (impl_fill.ret b).2 := fun _ _ => rfl
theorem impl_fill.inj : ∀ x y, impl_fill.ret x = impl_fill.ret y → x = y := by
  intro x y h
  obtain ⟨x1, x2, x3, x4⟩ := x; obtain ⟨y1, y2, y3, y4⟩ := y; cases h; rfl
theorem impl_fill.dc (x : Bool × LI × LI × Int) : dec impl_fill.ret (some (impl_fill.ret x)) = some x := dec_ret impl_fill.inj x
def impl_fill.Ed (X : (LI × Int × LI × LI × Int) → Option (Bool × LI × LI × Int)) : Entry := mkE [[true], [], [true], [], [true]] impl_fill.pat X impl_fill.ap
noncomputable def impl_fill.cx (X : (LI × Int × LI × LI × Int) → Option (Bool × LI × LI × Int)) : Cx := { ty := TY, fns := [(102, slices_Index_int_int.E), (80, impl_kind_count_1.E), (99, impl_fill.Ed X)], nk := [], sharp := true }
noncomputable def impl_fill.body : Code := Go.Proofs.Try.f99.body.getD .skip
def impl_fill.fl : Fn := { loops := [(5, [(0, none), (1, none), (2, none), (3, none), (4, none), (11, none), (23, none), (24, none), (25, none)])], joins := [(9, [(0, none), (1, none), (2, none), (3, none), (4, none), (11, none), (12, none), (13, none), (14, none), (23, none), (24, none), (25, none)]), (16, [(0, none), (1, none), (2, none), (3, none), (4, none), (11, none), (23, none), (24, none), (25, none)])], nr := 2, nb := 1, rs := [.tmp 10], pre := [], mv := [], fz := [] }
noncomputable def impl_fill.X : Nat → (LI × Int × LI × LI × Int) → Option (Bool × LI × LI × Int)
  | 0 => fun _ => none
  | dep + 1 => fun a => dec impl_fill.ret (eval (impl_fill.cx (impl_fill.X dep)) impl_fill.fl [.code impl_fill.body] (start 109 (impl_fill.s0 a)))
noncomputable def impl_fill.XX : (LI × Int × LI × LI × Int) → Option (Bool × LI × LI × Int) := impl_fill.X 100000
noncomputable def impl_fill.Q (dep : Nat) (a : LI × Int × LI × LI × Int) : Option R := eval (impl_fill.cx (impl_fill.X dep)) impl_fill.fl [.code impl_fill.body] (start 109 (impl_fill.s0 a))
def impl_fill.sL5 (told : LI) (shift at0 t24 t25 : Int) (row left : LI) (eachc0 : Int) : St := { slots := [.row 0, .sl (.int .i64) told, .row 1, .int .i64 shift, .clo 80 [] [.ptr 0 0], D, D, D, D, D, D, .int .i64 at0, D, D, D, D, D, D, D, D, D, D, D, .row 1, .int .i64 t24, .int .i64 t25, D, D, D, D, D, D, D, D, D, D, D, D, D, D, D, D, D, D, D, D, D, D, D, D, D, D, D, D, D, D, D, D, D, D, D, D, D, D, D, D, D, D, D, D, D, D, D, D, D, D, D, D, D, D, D, D, D, D, D, D, D, D, D, D, D, D, D, D, D, D, D, D, D, D, D, D, D, D, D, D, D, D, D], rows := [(0, ⟨.int .i64, row⟩), (1, ⟨.int .i64, left⟩)], boxes := [(0, [.int .i64 eachc0])] }
noncomputable def impl_fill.tL5 : List It := (findL 5 impl_fill.body []).getD []
noncomputable def impl_fill.QL5 (dep : Nat) (told : LI) (shift at0 t24 t25 : Int) (row left : LI) (eachc0 : Int) : Option R := eval (impl_fill.cx (impl_fill.X dep)) impl_fill.fl impl_fill.tL5 (impl_fill.sL5 told shift at0 t24 t25 row left eachc0)
noncomputable def impl_fill.XL5 (dep : Nat) (told : LI) (shift at0 t24 t25 : Int) (row left : LI) (eachc0 : Int) : Option (Bool × LI × LI × Int) := dec impl_fill.ret (impl_fill.QL5 dep told shift at0 t24 t25 row left eachc0)
def impl_fill.sJ16 (told : LI) (shift at0 t24 t25 : Int) (row left : LI) (eachc0 : Int) : St := { slots := [.row 0, .sl (.int .i64) told, .row 1, .int .i64 shift, .clo 80 [] [.ptr 0 0], D, D, D, D, D, D, .int .i64 at0, D, D, D, D, D, D, D, D, D, D, D, .row 1, .int .i64 t24, .int .i64 t25, D, D, D, D, D, D, D, D, D, D, D, D, D, D, D, D, D, D, D, D, D, D, D, D, D, D, D, D, D, D, D, D, D, D, D, D, D, D, D, D, D, D, D, D, D, D, D, D, D, D, D, D, D, D, D, D, D, D, D, D, D, D, D, D, D, D, D, D, D, D, D, D, D, D, D, D, D, D, D, D, D, D, D], rows := [(0, ⟨.int .i64, row⟩), (1, ⟨.int .i64, left⟩)], boxes := [(0, [.int .i64 eachc0])] }
noncomputable def impl_fill.tJ16 : List It := (findJ 16 impl_fill.body []).getD []
noncomputable def impl_fill.QJ16 (dep : Nat) (told : LI) (shift at0 t24 t25 : Int) (row left : LI) (eachc0 : Int) : Option R := eval (impl_fill.cx (impl_fill.X dep)) impl_fill.fl impl_fill.tJ16 (impl_fill.sJ16 told shift at0 t24 t25 row left eachc0)
noncomputable def impl_fill.XJ16 (dep : Nat) (told : LI) (shift at0 t24 t25 : Int) (row left : LI) (eachc0 : Int) : Option (Bool × LI × LI × Int) := dec impl_fill.ret (impl_fill.QJ16 dep told shift at0 t24 t25 row left eachc0)
def impl_fill.sJ9 (told : LI) (shift at0 i n to t24 t25 : Int) (row left : LI) (eachc0 : Int) : St := { slots := [.row 0, .sl (.int .i64) told, .row 1, .int .i64 shift, .clo 80 [] [.ptr 0 0], D, D, D, D, D, D, .int .i64 at0, .int .i64 i, .int .i64 n, .int .i64 to, D, D, D, D, D, D, D, D, .row 1, .int .i64 t24, .int .i64 t25, D, D, D, D, D, D, D, D, D, D, D, D, D, D, D, D, D, D, D, D, D, D, D, D, D, D, D, D, D, D, D, D, D, D, D, D, D, D, D, D, D, D, D, D, D, D, D, D, D, D, D, D, D, D, D, D, D, D, D, D, D, D, D, D, D, D, D, D, D, D, D, D, D, D, D, D, D, D, D, D, D, D, D], rows := [(0, ⟨.int .i64, row⟩), (1, ⟨.int .i64, left⟩)], boxes := [(0, [.int .i64 eachc0])] }
noncomputable def impl_fill.tJ9 : List It := (findJ 9 impl_fill.body []).getD []
noncomputable def impl_fill.QJ9 (dep : Nat) (told : LI) (shift at0 i n to t24 t25 : Int) (row left : LI) (eachc0 : Int) : Option R := eval (impl_fill.cx (impl_fill.X dep)) impl_fill.fl impl_fill.tJ9 (impl_fill.sJ9 told shift at0 i n to t24 t25 row left eachc0)
noncomputable def impl_fill.XJ9 (dep : Nat) (told : LI) (shift at0 i n to t24 t25 : Int) (row left : LI) (eachc0 : Int) : Option (Bool × LI × LI × Int) := dec impl_fill.ret (impl_fill.QJ9 dep told shift at0 i n to t24 t25 row left eachc0)
theorem impl_fill.okd : ∀ dep, EntOk Go.Proofs.Try.prog 99 (impl_fill.Ed (impl_fill.X dep))
  | 0 => mkE_ok (fun w args => Go.Proofs.Try.call99 args w) impl_fill.hp impl_fill.hap fun a b h => by cases h
  | dep + 1 => mkE_ok (fun w args => Go.Proofs.Try.call99 args w) impl_fill.hp impl_fill.hap fun a b h => vc_of_X (cx := (impl_fill.cx (impl_fill.X dep))) (fl := impl_fill.fl) mixed (tyB_ok (cx := (impl_fill.cx (impl_fill.X dep))) tyOk) (show FnsL _ _ from (fns_cons slices_Index_int_int.ok (fns_cons impl_kind_count_1.ok (fns_cons (impl_fill.okd dep) fns_nil)))) Go.Proofs.Try.func99 (code := impl_fill.body) (by kernel_rfl) (n := 109) (by kernel_rfl) (by kernel_rfl) (by decide) (by decide) rfl rfl h
noncomputable def impl_fill.E : Entry := impl_fill.Ed impl_fill.XX
theorem impl_fill.ok : EntOk Go.Proofs.Try.prog 99 impl_fill.E := impl_fill.okd _
theorem impl_fill.lin (dep : Nat) : (impl_fill.cx (impl_fill.X dep)).Lin := Lin.of_fns (P := Go.Proofs.Try.prog) (show FnsL _ _ from (fns_cons slices_Index_int_int.ok (fns_cons impl_kind_count_1.ok (fns_cons (impl_fill.okd dep) fns_nil))))
def impl_fill.T {α : Type} (pr : Pr) (rt : (Bool × LI × LI × Int) → Option α) (kL5 : LI → Int → Int → Int → Int → LI → LI → Int → Option α) (call_0 : (LI × Int) → Option (Int)) (call_1 : (LI × Int) → Option (Bool × Int)) (told : LI) (shift : Int) (row left : LI) (eachc0 : Int) : Option α :=
  (call_0 (row, (-1))).bind fun rr1 =>
    bif (pr.lt rr1 0) then
      (call_1 (row, eachc0)).bind fun rr2 =>
        pr.fb rr2.1 fun y0 => pr.fi rr2.2 fun y3 => rt (y0, row, left, y3)
    else
      pr.fi rr1 fun y2 => pr.fi ((left.length : Nat) : Int) fun y3 => kL5 told shift y2 y3 0 row left eachc0
theorem impl_fill.Q_eq (dep : Nat) (told : LI) (shift : Int) (row left : LI) (eachc0 : Int) : impl_fill.Q dep (told, shift, row, left, eachc0) = impl_fill.T Pr.std (fun b => some (impl_fill.ret b)) (impl_fill.QL5 dep) slices_Index_int_int.X impl_kind_count_1.X told shift row left eachc0 := (eval_seg (impl_fill.lin dep) 1000000 _ _).trans (by kernel_rfl)
theorem impl_fill.X_eq (dep : Nat) (told : LI) (shift : Int) (row left : LI) (eachc0 : Int) : impl_fill.X (dep + 1) (told, shift, row, left, eachc0) = impl_fill.T Pr.std some (impl_fill.XL5 dep) slices_Index_int_int.X impl_kind_count_1.X told shift row left eachc0 := by
  show dec impl_fill.ret (impl_fill.Q dep (told, shift, row, left, eachc0)) = _
  rw [impl_fill.Q_eq]
  simp only [impl_fill.T, std_fi, std_fb, std_fl, std_fll, std_flll, std_flb, std_fh, dec_ite, dec_cond, dec_bind, dec_elim, dec_none, impl_fill.dc]
  try rfl
theorem impl_fill.T_mono {α : Type} {rt : (Bool × LI × LI × Int) → Option α} {kL5 kL5_ : LI → Int → Int → Int → Int → LI → LI → Int → Option α} (hkL5 : ∀ x0 x1 x2 x3 x4 x5 x6 x7, Le (kL5 x0 x1 x2 x3 x4 x5 x6 x7) (kL5_ x0 x1 x2 x3 x4 x5 x6 x7)) {call_0 call_0_ : (LI × Int) → Option (Int)} (hcall_0 : ∀ x, Le (call_0 x) (call_0_ x)) {call_1 call_1_ : (LI × Int) → Option (Bool × Int)} (hcall_1 : ∀ x, Le (call_1 x) (call_1_ x)) {told : LI} {shift : Int} {row left : LI} {eachc0 : Int} : Le (impl_fill.T Pr.std rt kL5 call_0 call_1 told shift row left eachc0) (impl_fill.T Pr.std rt kL5_ call_0_ call_1_ told shift row left eachc0) := by
  unfold impl_fill.T
  exact (Le.bind (hcall_0 _) (fun rr1 => (Le.cond (Le.bind (hcall_1 _) (fun rr2 => Le.rfl')) (Le.fi fun _ => (Le.fi fun _ => (hkL5 _ _ _ _ _ _ _ _))))))
def impl_fill.TL5 {α : Type} (pr : Pr) (rt : (Bool × LI × LI × Int) → Option α) (kJ16 : LI → Int → Int → Int → Int → LI → LI → Int → Option α) (kJ9 : LI → Int → Int → Int → Int → Int → Int → Int → LI → LI → Int → Option α) (told : LI) (shift at0 t24 t25 : Int) (row left : LI) (eachc0 : Int) : Option α :=
  bif (pr.lt t25 t24) then
    if (pr.inR t25 left.length) then
      if (pr.nlt ((t25).toNat) left.length) then
        if (!(pr.eq (pr.gd left ((t25).toNat) 0) 0)) then
          if (!(pr.ge (pr.wr .i64 ((pr.wr .i64 (at0 + (pr.gd left ((t25).toNat) 0))) + shift)) ((row.length : Nat) : Int))) then
            if (pr.inR (pr.wr .i64 ((pr.wr .i64 (at0 + (pr.gd left ((t25).toNat) 0))) + shift)) row.length) then
              if (pr.nlt (((pr.wr .i64 ((pr.wr .i64 (at0 + (pr.gd left ((t25).toNat) 0))) + shift))).toNat) row.length) then
                if (!(pr.ne (pr.gd row (((pr.wr .i64 ((pr.wr .i64 (at0 + (pr.gd left ((t25).toNat) 0))) + shift))).toNat) 0) (-1))) then
                  if (pr.inR at0 told.length) then
                    if (pr.ne (pr.gd told ((at0).toNat) 0) 0) then
                      if (pr.inR at0 told.length) then
                        if (!(pr.ne (pr.gd told ((at0).toNat) 0) (pr.gd left ((t25).toNat) 0))) then
                          if (pr.inR (pr.wr .i64 ((pr.wr .i64 (at0 + (pr.gd left ((t25).toNat) 0))) + shift)) told.length) then
                            if (pr.ne (pr.gd told (((pr.wr .i64 ((pr.wr .i64 (at0 + (pr.gd left ((t25).toNat) 0))) + shift))).toNat) 0) 0) then
                              if (pr.inR (pr.wr .i64 ((pr.wr .i64 (at0 + (pr.gd left ((t25).toNat) 0))) + shift)) told.length) then
                                bif (pr.ne (pr.gd told (((pr.wr .i64 ((pr.wr .i64 (at0 + (pr.gd left ((t25).toNat) 0))) + shift))).toNat) 0) (pr.gd left ((t25).toNat) 0)) then
                                  kJ16 told shift at0 t24 t25 row left eachc0
                                else
                                  pr.fi (pr.gd left ((t25).toNat) 0) fun y4 => pr.fi (pr.wr .i64 ((pr.wr .i64 (at0 + (pr.gd left ((t25).toNat) 0))) + shift)) fun y5 => kJ9 told shift at0 t25 y4 y5 t24 t25 row left eachc0
                              else
                                none
                            else
                              pr.fi (pr.gd left ((t25).toNat) 0) fun y4 => pr.fi (pr.wr .i64 ((pr.wr .i64 (at0 + (pr.gd left ((t25).toNat) 0))) + shift)) fun y5 => kJ9 told shift at0 t25 y4 y5 t24 t25 row left eachc0
                          else
                            none
                        else
                          kJ16 told shift at0 t24 t25 row left eachc0
                      else
                        none
                    else
                      if (pr.inR (pr.wr .i64 ((pr.wr .i64 (at0 + (pr.gd left ((t25).toNat) 0))) + shift)) told.length) then
                        if (pr.ne (pr.gd told (((pr.wr .i64 ((pr.wr .i64 (at0 + (pr.gd left ((t25).toNat) 0))) + shift))).toNat) 0) 0) then
                          if (pr.inR (pr.wr .i64 ((pr.wr .i64 (at0 + (pr.gd left ((t25).toNat) 0))) + shift)) told.length) then
                            bif (pr.ne (pr.gd told (((pr.wr .i64 ((pr.wr .i64 (at0 + (pr.gd left ((t25).toNat) 0))) + shift))).toNat) 0) (pr.gd left ((t25).toNat) 0)) then
                              kJ16 told shift at0 t24 t25 row left eachc0
                            else
                              pr.fi (pr.gd left ((t25).toNat) 0) fun y4 => pr.fi (pr.wr .i64 ((pr.wr .i64 (at0 + (pr.gd left ((t25).toNat) 0))) + shift)) fun y5 => kJ9 told shift at0 t25 y4 y5 t24 t25 row left eachc0
                          else
                            none
                        else
                          pr.fi (pr.gd left ((t25).toNat) 0) fun y4 => pr.fi (pr.wr .i64 ((pr.wr .i64 (at0 + (pr.gd left ((t25).toNat) 0))) + shift)) fun y5 => kJ9 told shift at0 t25 y4 y5 t24 t25 row left eachc0
                      else
                        none
                  else
                    none
                else
                  kJ16 told shift at0 t24 t25 row left eachc0
              else
                none
            else
              none
          else
            kJ16 told shift at0 t24 t25 row left eachc0
        else
          kJ16 told shift at0 t24 t25 row left eachc0
      else
        none
    else
      none
  else
    rt (false, row, left, eachc0)
theorem impl_fill.QL5_eq (dep : Nat) (told : LI) (shift at0 t24 t25 : Int) (row left : LI) (eachc0 : Int) : impl_fill.QL5 dep told shift at0 t24 t25 row left eachc0 = impl_fill.TL5 Pr.std (fun b => some (impl_fill.ret b)) (impl_fill.QJ16 dep) (impl_fill.QJ9 dep) told shift at0 t24 t25 row left eachc0 := (eval_seg (impl_fill.lin dep) 1000000 _ _).trans (by kernel_rfl)
theorem impl_fill.XL5_eq (dep : Nat) (told : LI) (shift at0 t24 t25 : Int) (row left : LI) (eachc0 : Int) : impl_fill.XL5 dep told shift at0 t24 t25 row left eachc0 = impl_fill.TL5 Pr.std some (impl_fill.XJ16 dep) (impl_fill.XJ9 dep) told shift at0 t24 t25 row left eachc0 := by
  show dec impl_fill.ret (impl_fill.QL5 dep told shift at0 t24 t25 row left eachc0) = _
  rw [impl_fill.QL5_eq]
  simp only [impl_fill.TL5, std_fi, std_fb, std_fl, std_fll, std_flll, std_flb, std_fh, dec_ite, dec_cond, dec_bind, dec_elim, dec_none, impl_fill.dc]
  try rfl
theorem impl_fill.TL5_mono {α : Type} {rt : (Bool × LI × LI × Int) → Option α} {kJ16 kJ16_ : LI → Int → Int → Int → Int → LI → LI → Int → Option α} (hkJ16 : ∀ x0 x1 x2 x3 x4 x5 x6 x7, Le (kJ16 x0 x1 x2 x3 x4 x5 x6 x7) (kJ16_ x0 x1 x2 x3 x4 x5 x6 x7)) {kJ9 kJ9_ : LI → Int → Int → Int → Int → Int → Int → Int → LI → LI → Int → Option α} (hkJ9 : ∀ x0 x1 x2 x3 x4 x5 x6 x7 x8 x9 x10, Le (kJ9 x0 x1 x2 x3 x4 x5 x6 x7 x8 x9 x10) (kJ9_ x0 x1 x2 x3 x4 x5 x6 x7 x8 x9 x10)) {told : LI} {shift at0 t24 t25 : Int} {row left : LI} {eachc0 : Int} : Le (impl_fill.TL5 Pr.std rt kJ16 kJ9 told shift at0 t24 t25 row left eachc0) (impl_fill.TL5 Pr.std rt kJ16_ kJ9_ told shift at0 t24 t25 row left eachc0) := by
  unfold impl_fill.TL5
  exact (Le.cond (Le.ite (Le.ite (Le.ite (Le.ite (Le.ite (Le.ite (Le.ite (Le.ite (Le.ite (Le.ite (Le.ite (Le.ite (Le.ite (Le.ite (Le.cond (hkJ16 _ _ _ _ _ _ _ _) (Le.fi fun _ => (Le.fi fun _ => (hkJ9 _ _ _ _ _ _ _ _ _ _ _)))) Le.rfl') (Le.fi fun _ => (Le.fi fun _ => (hkJ9 _ _ _ _ _ _ _ _ _ _ _)))) Le.rfl') (hkJ16 _ _ _ _ _ _ _ _)) Le.rfl') (Le.ite (Le.ite (Le.ite (Le.cond (hkJ16 _ _ _ _ _ _ _ _) (Le.fi fun _ => (Le.fi fun _ => (hkJ9 _ _ _ _ _ _ _ _ _ _ _)))) Le.rfl') (Le.fi fun _ => (Le.fi fun _ => (hkJ9 _ _ _ _ _ _ _ _ _ _ _)))) Le.rfl')) Le.rfl') (hkJ16 _ _ _ _ _ _ _ _)) Le.rfl') Le.rfl') (hkJ16 _ _ _ _ _ _ _ _)) (hkJ16 _ _ _ _ _ _ _ _)) Le.rfl') Le.rfl') Le.rfl')
def impl_fill.TJ16 {α : Type} (pr : Pr) (rt : (Bool × LI × LI × Int) → Option α) (kL5 : LI → Int → Int → Int → Int → LI → LI → Int → Option α) (told : LI) (shift at0 t24 t25 : Int) (row left : LI) (eachc0 : Int) : Option α :=
  pr.fi (pr.wr .i64 (t25 + 1)) fun y4 => kL5 told shift at0 t24 y4 row left eachc0
theorem impl_fill.QJ16_eq (dep : Nat) (told : LI) (shift at0 t24 t25 : Int) (row left : LI) (eachc0 : Int) : impl_fill.QJ16 dep told shift at0 t24 t25 row left eachc0 = impl_fill.TJ16 Pr.std (fun b => some (impl_fill.ret b)) (impl_fill.QL5 dep) told shift at0 t24 t25 row left eachc0 := (eval_seg (impl_fill.lin dep) 1000000 _ _).trans (by kernel_rfl)
theorem impl_fill.XJ16_eq (dep : Nat) (told : LI) (shift at0 t24 t25 : Int) (row left : LI) (eachc0 : Int) : impl_fill.XJ16 dep told shift at0 t24 t25 row left eachc0 = impl_fill.TJ16 Pr.std some (impl_fill.XL5 dep) told shift at0 t24 t25 row left eachc0 := by
  show dec impl_fill.ret (impl_fill.QJ16 dep told shift at0 t24 t25 row left eachc0) = _
  rw [impl_fill.QJ16_eq]
  simp only [impl_fill.TJ16, std_fi, std_fb, std_fl, std_fll, std_flll, std_flb, std_fh, dec_ite, dec_cond, dec_bind, dec_elim, dec_none, impl_fill.dc]
  try rfl
theorem impl_fill.TJ16_mono {α : Type} {rt : (Bool × LI × LI × Int) → Option α} {kL5 kL5_ : LI → Int → Int → Int → Int → LI → LI → Int → Option α} (hkL5 : ∀ x0 x1 x2 x3 x4 x5 x6 x7, Le (kL5 x0 x1 x2 x3 x4 x5 x6 x7) (kL5_ x0 x1 x2 x3 x4 x5 x6 x7)) {told : LI} {shift at0 t24 t25 : Int} {row left : LI} {eachc0 : Int} : Le (impl_fill.TJ16 Pr.std rt kL5 told shift at0 t24 t25 row left eachc0) (impl_fill.TJ16 Pr.std rt kL5_ told shift at0 t24 t25 row left eachc0) := by
  unfold impl_fill.TJ16
  exact (Le.fi fun _ => (hkL5 _ _ _ _ _ _ _ _))
def impl_fill.TJ9 {α : Type} (pr : Pr) (rt : (Bool × LI × LI × Int) → Option α) (kJ16 : LI → Int → Int → Int → Int → LI → LI → Int → Option α) (self : (LI × Int × LI × LI × Int) → Option (Bool × LI × LI × Int)) (told : LI) (shift at0 i n to t24 t25 : Int) (row left : LI) (eachc0 : Int) : Option α :=
  if (pr.inR at0 row.length) then
    if ((pr.nlt ((at0).toNat) row.length) && true) then
      if (pr.inR to ((pr.st row ((at0).toNat) n).length)) then
        if ((pr.nlt ((to).toNat) (pr.st row ((at0).toNat) n).length) && true) then
          if (pr.inR i left.length) then
            if ((pr.nlt ((i).toNat) left.length) && true) then
              pr.fl (pr.st (pr.st row ((at0).toNat) n) ((to).toNat) n) fun y2 => pr.fl (pr.st left ((i).toNat) (0 : Int)) fun y3 => (self (told, shift, y2, y3, eachc0)).bind fun rr1 =>
                if (pr.inR i rr1.2.2.1.length) then
                  if ((pr.nlt ((i).toNat) rr1.2.2.1.length) && true) then
                    if (pr.inR at0 rr1.2.1.length) then
                      if ((pr.nlt ((at0).toNat) rr1.2.1.length) && true) then
                        if (pr.inR to ((pr.st rr1.2.1 ((at0).toNat) (-1 : Int)).length)) then
                          if ((pr.nlt ((to).toNat) (pr.st rr1.2.1 ((at0).toNat) (-1 : Int)).length) && true) then
                            bif rr1.1 then
                              pr.fl (pr.st (pr.st rr1.2.1 ((at0).toNat) (-1 : Int)) ((to).toNat) (-1 : Int)) fun y1 => pr.fl (pr.st rr1.2.2.1 ((i).toNat) n) fun y2 => pr.fi rr1.2.2.2 fun y3 => rt (true, y1, y2, y3)
                            else
                              pr.fl (pr.st (pr.st rr1.2.1 ((at0).toNat) (-1 : Int)) ((to).toNat) (-1 : Int)) fun y5 => pr.fl (pr.st rr1.2.2.1 ((i).toNat) n) fun y6 => pr.fi rr1.2.2.2 fun y7 => kJ16 told shift at0 t24 t25 y5 y6 y7
                          else
                            none
                        else
                          none
                      else
                        none
                    else
                      none
                  else
                    none
                else
                  none
            else
              none
          else
            none
        else
          none
      else
        none
    else
      none
  else
    none
theorem impl_fill.QJ9_eq (dep : Nat) (told : LI) (shift at0 i n to t24 t25 : Int) (row left : LI) (eachc0 : Int) : impl_fill.QJ9 dep told shift at0 i n to t24 t25 row left eachc0 = impl_fill.TJ9 Pr.std (fun b => some (impl_fill.ret b)) (impl_fill.QJ16 dep) (impl_fill.X dep) told shift at0 i n to t24 t25 row left eachc0 := (eval_seg (impl_fill.lin dep) 1000000 _ _).trans (by kernel_rfl)
theorem impl_fill.XJ9_eq (dep : Nat) (told : LI) (shift at0 i n to t24 t25 : Int) (row left : LI) (eachc0 : Int) : impl_fill.XJ9 dep told shift at0 i n to t24 t25 row left eachc0 = impl_fill.TJ9 Pr.std some (impl_fill.XJ16 dep) (impl_fill.X dep) told shift at0 i n to t24 t25 row left eachc0 := by
  show dec impl_fill.ret (impl_fill.QJ9 dep told shift at0 i n to t24 t25 row left eachc0) = _
  rw [impl_fill.QJ9_eq]
  simp only [impl_fill.TJ9, std_fi, std_fb, std_fl, std_fll, std_flll, std_flb, std_fh, dec_ite, dec_cond, dec_bind, dec_elim, dec_none, impl_fill.dc]
  try rfl
theorem impl_fill.TJ9_mono {α : Type} {rt : (Bool × LI × LI × Int) → Option α} {kJ16 kJ16_ : LI → Int → Int → Int → Int → LI → LI → Int → Option α} (hkJ16 : ∀ x0 x1 x2 x3 x4 x5 x6 x7, Le (kJ16 x0 x1 x2 x3 x4 x5 x6 x7) (kJ16_ x0 x1 x2 x3 x4 x5 x6 x7)) {self self_ : (LI × Int × LI × LI × Int) → Option (Bool × LI × LI × Int)} (hself : ∀ x, Le (self x) (self_ x)) {told : LI} {shift at0 i n to t24 t25 : Int} {row left : LI} {eachc0 : Int} : Le (impl_fill.TJ9 Pr.std rt kJ16 self told shift at0 i n to t24 t25 row left eachc0) (impl_fill.TJ9 Pr.std rt kJ16_ self_ told shift at0 i n to t24 t25 row left eachc0) := by
  unfold impl_fill.TJ9
  exact (Le.ite (Le.ite (Le.ite (Le.ite (Le.ite (Le.ite (Le.fl fun _ => (Le.fl fun _ => (Le.bind (hself _) (fun rr1 => (Le.ite (Le.ite (Le.ite (Le.ite (Le.ite (Le.ite (Le.cond Le.rfl' (Le.fl fun _ => (Le.fl fun _ => (Le.fi fun _ => (hkJ16 _ _ _ _ _ _ _ _))))) Le.rfl') Le.rfl') Le.rfl') Le.rfl') Le.rfl') Le.rfl'))))) Le.rfl') Le.rfl') Le.rfl') Le.rfl') Le.rfl') Le.rfl')
noncomputable def impl_fill.Cs (fu : Nat) : (LI → Int → Int → Int → Int → LI → LI → Int → Option (Bool × LI × LI × Int)) × (LI → Int → Int → Int → Int → LI → LI → Int → Option (Bool × LI × LI × Int)) × (LI → Int → Int → Int → Int → Int → Int → Int → LI → LI → Int → Option (Bool × LI × LI × Int)) × ((LI × Int × LI × LI × Int) → Option (Bool × LI × LI × Int)) := @Nat.rec (fun _ => (LI → Int → Int → Int → Int → LI → LI → Int → Option (Bool × LI × LI × Int)) × (LI → Int → Int → Int → Int → LI → LI → Int → Option (Bool × LI × LI × Int)) × (LI → Int → Int → Int → Int → Int → Int → Int → LI → LI → Int → Option (Bool × LI × LI × Int)) × ((LI × Int × LI × LI × Int) → Option (Bool × LI × LI × Int))) ⟨fun _ _ _ _ _ _ _ _ => none, fun _ _ _ _ _ _ _ _ => none, fun _ _ _ _ _ _ _ _ _ _ _ => none, fun _ => none⟩ (fun fu pv => ⟨fun told shift at0 t24 t25 row left eachc0 => impl_fill.TL5 Pr.quick some (pv.2.1) (pv.2.2.1) told shift at0 t24 t25 row left eachc0, fun told shift at0 t24 t25 row left eachc0 => impl_fill.TJ16 Pr.quick some (pv.1) told shift at0 t24 t25 row left eachc0, fun told shift at0 i n to t24 t25 row left eachc0 => impl_fill.TJ9 Pr.quick some (pv.2.1) (pv.2.2.2) told shift at0 i n to t24 t25 row left eachc0, fun a => impl_fill.T Pr.quick some (pv.1) (slices_Index_int_int.C fu) (impl_kind_count_1.C fu) a.1 a.2.1 a.2.2.1 a.2.2.2.1 a.2.2.2.2⟩) fu
noncomputable def impl_fill.CL5 (fu : Nat) : LI → Int → Int → Int → Int → LI → LI → Int → Option (Bool × LI × LI × Int) := (impl_fill.Cs fu).1
noncomputable def impl_fill.CJ16 (fu : Nat) : LI → Int → Int → Int → Int → LI → LI → Int → Option (Bool × LI × LI × Int) := (impl_fill.Cs fu).2.1
noncomputable def impl_fill.CJ9 (fu : Nat) : LI → Int → Int → Int → Int → Int → Int → Int → LI → LI → Int → Option (Bool × LI × LI × Int) := (impl_fill.Cs fu).2.2.1
noncomputable def impl_fill.C (fu : Nat) : (LI × Int × LI × LI × Int) → Option (Bool × LI × LI × Int) := (impl_fill.Cs fu).2.2.2
theorem impl_fill.C_okd : ∀ fu dep, fu ≤ dep → dep ≤ 100000 → (∀ a, Le (impl_fill.C fu a) (impl_fill.X dep a)) ∧ (∀ told shift at0 t24 t25 row left eachc0, Le (impl_fill.CL5 fu told shift at0 t24 t25 row left eachc0) (impl_fill.XL5 dep told shift at0 t24 t25 row left eachc0)) ∧ (∀ told shift at0 t24 t25 row left eachc0, Le (impl_fill.CJ16 fu told shift at0 t24 t25 row left eachc0) (impl_fill.XJ16 dep told shift at0 t24 t25 row left eachc0)) ∧ (∀ told shift at0 i n to t24 t25 row left eachc0, Le (impl_fill.CJ9 fu told shift at0 i n to t24 t25 row left eachc0) (impl_fill.XJ9 dep told shift at0 i n to t24 t25 row left eachc0))
  | 0, dep, _, _ => by
    refine ⟨?_, ?_, ?_, ?_⟩
    all_goals (intros; exact Le.none)
  | fu + 1, dep, hd, hd2 => by
    obtain ⟨dep, rfl⟩ : ∃ e, dep = e + 1 := ⟨dep - 1, by omega⟩
    have ih := fun e (he : fu ≤ e) (he2 : e ≤ 100000) => impl_fill.C_okd fu e he he2
    refine ⟨?_, ?_, ?_, ?_⟩
    · intro a
      obtain ⟨told, shift, row, left, eachc0⟩ := a
      show Le (impl_fill.T Pr.quick some (impl_fill.CL5 fu) (slices_Index_int_int.C fu) (impl_kind_count_1.C fu) told shift row left eachc0) _
      rw [Pr.quick_eq, impl_fill.X_eq]
      exact impl_fill.T_mono ((ih dep (by omega) (by omega)).2.1) (fun x => slices_Index_int_int.C_ok fu (by omega) x) (fun x => impl_kind_count_1.C_ok fu (by omega) x)
    · intro told shift at0 t24 t25 row left eachc0
      show Le (impl_fill.TL5 Pr.quick some (impl_fill.CJ16 fu) (impl_fill.CJ9 fu) told shift at0 t24 t25 row left eachc0) _
      rw [Pr.quick_eq, impl_fill.XL5_eq]
      exact impl_fill.TL5_mono ((ih (dep + 1) (by omega) (by omega)).2.2.1) ((ih (dep + 1) (by omega) (by omega)).2.2.2)
    · intro told shift at0 t24 t25 row left eachc0
      show Le (impl_fill.TJ16 Pr.quick some (impl_fill.CL5 fu) told shift at0 t24 t25 row left eachc0) _
      rw [Pr.quick_eq, impl_fill.XJ16_eq]
      exact impl_fill.TJ16_mono ((ih (dep + 1) (by omega) (by omega)).2.1)
    · intro told shift at0 i n to t24 t25 row left eachc0
      show Le (impl_fill.TJ9 Pr.quick some (impl_fill.CJ16 fu) (impl_fill.C fu) told shift at0 i n to t24 t25 row left eachc0) _
      rw [Pr.quick_eq, impl_fill.XJ9_eq]
      exact impl_fill.TJ9_mono ((ih (dep + 1) (by omega) (by omega)).2.2.1) ((ih (dep + 1) (by omega) (by omega)).1)
theorem impl_fill.C_ok (fu : Nat) (hfu : fu ≤ 100000) (a : LI × Int × LI × LI × Int) : Le (impl_fill.C fu a) (impl_fill.XX a) := (impl_fill.C_okd fu 100000 hfu (Nat.le_refl _)).1 a
end Go.VS
