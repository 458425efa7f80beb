/- printed by gen.py: a part of the walk through the program. No condition. -/
import Derived.Test.YtnibmainjgcmaaaG2
set_option linter.unusedVariables false
set_option linter.unusedSimpArgs false
set_option maxRecDepth 100000
namespace Go.VS
/-! ### loop.example/g01232/impl.rows -/
def impl_rows.s0 (a : Int × Int × Int × Int × Int × Int) : St := { slots := [.int .i64 a.1, .int .i64 a.2.1, .int .i64 a.2.2.1, .int .i64 a.2.2.2.1, .int .i64 a.2.2.2.2.1, .clo 80 [] [.ptr 0 0]], rows := [], boxes := [(0, [.int .i64 a.2.2.2.2.2])] }
def impl_rows.pat : St → Option (Int × Int × Int × Int × Int × Int)
  | { slots := [.int .i64 places, .int .i64 n, .int .i64 d, .int .i64 shift, .int .i64 hole, .clo 80 [] [.ptr 0 0]], rows := [], boxes := [(0, [.int .i64 eachc0])], gd := [] } => some (places, n, d, shift, hole, eachc0)
  | _ => none
theorem impl_rows.hp : ∀ st a, impl_rows.pat st = some a → st = impl_rows.s0 a := by
  intro st a h
  unfold impl_rows.pat at h
  split at h
  · cases h; rfl
  · cases h
def impl_rows.ret (r : Int) : R := ({ slots := [], rows := [], boxes := [(0, [.int .i64 r])] }, [])
def impl_rows.ap (b : Int) (K : St → List V → Option R) : Option R := K (impl_rows.ret b).1 (impl_rows.ret b).2
theorem impl_rows.hap : ∀ b K, impl_rows.ap b K = K (impl_rows.ret b).1 (impl_rows.ret b).2 := fun _ _ => rfl
theorem impl_rows.inj : ∀ x y, impl_rows.ret x = impl_rows.ret y → x = y := by
  intro x y h
  cases h; rfl
theorem impl_rows.dc (x : Int) : dec impl_rows.ret (some (impl_rows.ret x)) = some x := dec_ret impl_rows.inj x
noncomputable def impl_rows.cx : Cx := { ty := TY, fns := [(99, impl_fill.E)], nk := [], sharp := true }
noncomputable def impl_rows.body : Code := Go.Proofs.Try.f79.body.getD .skip
def impl_rows.fl : Fn := { loops := [(2, [(0, none), (2, none), (3, none), (4, none), (5, none), (12, none), (13, none), (21, none), (22, none)]), (9, [(0, none), (2, none), (3, none), (5, none), (12, none), (13, none), (35, none), (36, none)])], joins := [], nr := 0, nb := 1, rs := [], pre := [], mv := [], fz := [] }
noncomputable def impl_rows.Q (a : Int × Int × Int × Int × Int × Int) : Option R := eval impl_rows.cx impl_rows.fl [.code impl_rows.body] (start 53 (impl_rows.s0 a))
noncomputable def impl_rows.X (a : Int × Int × Int × Int × Int × Int) : Option (Int) := dec impl_rows.ret (impl_rows.Q a)
def impl_rows.sL2 (places d shift hole t21 t22 : Int) (row left : LI) (eachc0 : Int) : St := { slots := [.int .i64 places, D, .int .i64 d, .int .i64 shift, .int .i64 hole, .clo 80 [] [.ptr 0 0], D, D, D, D, D, D, .row 1000768, .row 1000832, D, D, D, D, D, D, D, .int .i64 t21, .int .i64 t22, D, D, D, D, D, D, D, D, D, D, D, D, D, D, D, D, D, D, D, D, D, D, D, D, D, D, D, D, D, D], rows := [(1000768, ⟨.int .i64, row⟩), (1000832, ⟨.int .i64, left⟩)], boxes := [(0, [.int .i64 eachc0])] }
noncomputable def impl_rows.tL2 : List It := (findL 2 impl_rows.body []).getD []
noncomputable def impl_rows.QL2 (places d shift hole t21 t22 : Int) (row left : LI) (eachc0 : Int) : Option R := eval impl_rows.cx impl_rows.fl impl_rows.tL2 (impl_rows.sL2 places d shift hole t21 t22 row left eachc0)
noncomputable def impl_rows.XL2 (places d shift hole t21 t22 : Int) (row left : LI) (eachc0 : Int) : Option (Int) := dec impl_rows.ret (impl_rows.QL2 places d shift hole t21 t22 row left eachc0)
def impl_rows.sL9 (places d shift t35 t36 : Int) (row left : LI) (eachc0 : Int) : St := { slots := [.int .i64 places, D, .int .i64 d, .int .i64 shift, D, .clo 80 [] [.ptr 0 0], D, D, D, D, D, D, .row 1000768, .row 1000832, D, D, D, D, D, D, D, D, D, D, D, D, D, D, D, D, D, D, D, D, D, .int .i64 t35, .int .i64 t36, D, D, D, D, D, D, D, D, D, D, D, D, D, D, D, D], rows := [(1000768, ⟨.int .i64, row⟩), (1000832, ⟨.int .i64, left⟩)], boxes := [(0, [.int .i64 eachc0])] }
noncomputable def impl_rows.tL9 : List It := (findL 9 impl_rows.body []).getD []
noncomputable def impl_rows.QL9 (places d shift t35 t36 : Int) (row left : LI) (eachc0 : Int) : Option R := eval impl_rows.cx impl_rows.fl impl_rows.tL9 (impl_rows.sL9 places d shift t35 t36 row left eachc0)
noncomputable def impl_rows.XL9 (places d shift t35 t36 : Int) (row left : LI) (eachc0 : Int) : Option (Int) := dec impl_rows.ret (impl_rows.QL9 places d shift t35 t36 row left eachc0)
theorem impl_rows.fns : FnsOk Go.Proofs.Try.prog impl_rows.cx := show FnsL _ _ from (fns_cons impl_fill.ok fns_nil)
theorem impl_rows.lin : impl_rows.cx.Lin := Lin.of_fns impl_rows.fns
noncomputable def impl_rows.E : Entry := mkE [[], [], [], [], [], [true]] impl_rows.pat impl_rows.X impl_rows.ap
theorem impl_rows.ok : EntOk Go.Proofs.Try.prog 79 impl_rows.E := mkE_ok (fun w args => Go.Proofs.Try.call79 args w) impl_rows.hp impl_rows.hap fun a b h => vc_of_X mixed (tyB_ok (cx := impl_rows.cx) tyOk) impl_rows.fns (fl := impl_rows.fl) Go.Proofs.Try.func79 (code := impl_rows.body) (by kernel_rfl) (n := 53) (by kernel_rfl) (by kernel_rfl) (by decide) (by decide) rfl rfl h
def impl_rows.T {α : Type} (pr : Pr) (rt : Int → Option α) (kL2 : Int → Int → Int → Int → Int → Int → LI → LI → Int → Option α) (places n d shift hole eachc0 : Int) : Option α :=
  if (((pr.le 0 n) && (pr.le n n)) && (pr.lt n ((8796093022208 : Nat) : Int))) then
    if (((pr.le 0 places) && (pr.le places places)) && (pr.lt places ((8796093022208 : Nat) : Int))) then
      pr.fi (((List.replicate (places).toNat (0 : Int)).length : Nat) : Int) fun y4 => pr.fl (List.replicate (places).toNat (0 : Int)) fun y6 => pr.fl (List.replicate (n).toNat (0 : Int)) fun y7 => kL2 places d shift hole y4 0 y6 y7 eachc0
    else
      none
  else
    none
theorem impl_rows.Q_eq (places n d shift hole eachc0 : Int) : impl_rows.Q (places, n, d, shift, hole, eachc0) = impl_rows.T Pr.std (fun b => some (impl_rows.ret b)) (impl_rows.QL2) places n d shift hole eachc0 := (eval_seg impl_rows.lin 1000000 _ _).trans (by kernel_rfl)
theorem impl_rows.X_eq (places n d shift hole eachc0 : Int) : impl_rows.X (places, n, d, shift, hole, eachc0) = impl_rows.T Pr.std some (impl_rows.XL2) places n d shift hole eachc0 := by
  show dec impl_rows.ret (impl_rows.Q (places, n, d, shift, hole, eachc0)) = _
  rw [impl_rows.Q_eq]
  simp only [impl_rows.T, std_fi, std_fb, std_fl, std_fll, std_flll, std_flb, std_fh, dec_ite, dec_cond, dec_bind, dec_elim, dec_none, impl_rows.dc]
  try rfl
theorem impl_rows.T_mono {α : Type} {rt : (Int) → Option α} {kL2 kL2_ : Int → Int → Int → Int → Int → Int → LI → LI → Int → Option α} (hkL2 : ∀ x0 x1 x2 x3 x4 x5 x6 x7 x8, Le (kL2 x0 x1 x2 x3 x4 x5 x6 x7 x8) (kL2_ x0 x1 x2 x3 x4 x5 x6 x7 x8)) {places n d shift hole eachc0 : Int} : Le (impl_rows.T Pr.std rt kL2 places n d shift hole eachc0) (impl_rows.T Pr.std rt kL2_ places n d shift hole eachc0) := by
  unfold impl_rows.T
  exact (Le.ite (Le.ite (Le.fi fun _ => (Le.fl fun _ => (Le.fl fun _ => (hkL2 _ _ _ _ _ _ _ _ _)))) Le.rfl') Le.rfl')
def impl_rows.TL2 {α : Type} (pr : Pr) (rt : Int → Option α) (kL2 : Int → Int → Int → Int → Int → Int → LI → LI → Int → Option α) (kL9 : Int → Int → Int → Int → Int → LI → LI → Int → Option α) (places d shift hole t21 t22 : Int) (row left : LI) (eachc0 : Int) : Option α :=
  bif (pr.lt t22 t21) then
    if (pr.inR t22 row.length) then
      if ((pr.nlt ((t22).toNat) row.length) && true) then
        pr.fi (pr.wr .i64 (t22 + 1)) fun y5 => pr.fl (pr.st row ((t22).toNat) (-1 : Int)) fun y6 => kL2 places d shift hole t21 y5 y6 left eachc0
      else
        none
    else
      none
  else
    bif (pr.ge hole 0) then
      if (pr.inR hole row.length) then
        if ((pr.nlt ((hole).toNat) row.length) && true) then
          pr.fi ((left.length : Nat) : Int) fun y3 => pr.fl (pr.st row ((hole).toNat) (0 : Int)) fun y5 => kL9 places d shift y3 0 y5 left eachc0
        else
          none
      else
        none
    else
      pr.fi ((left.length : Nat) : Int) fun y3 => kL9 places d shift y3 0 row left eachc0
theorem impl_rows.QL2_eq (places d shift hole t21 t22 : Int) (row left : LI) (eachc0 : Int) : impl_rows.QL2 places d shift hole t21 t22 row left eachc0 = impl_rows.TL2 Pr.std (fun b => some (impl_rows.ret b)) (impl_rows.QL2) (impl_rows.QL9) places d shift hole t21 t22 row left eachc0 := (eval_seg impl_rows.lin 1000000 _ _).trans (by kernel_rfl)
theorem impl_rows.XL2_eq (places d shift hole t21 t22 : Int) (row left : LI) (eachc0 : Int) : impl_rows.XL2 places d shift hole t21 t22 row left eachc0 = impl_rows.TL2 Pr.std some (impl_rows.XL2) (impl_rows.XL9) places d shift hole t21 t22 row left eachc0 := by
  show dec impl_rows.ret (impl_rows.QL2 places d shift hole t21 t22 row left eachc0) = _
  rw [impl_rows.QL2_eq]
  simp only [impl_rows.TL2, std_fi, std_fb, std_fl, std_fll, std_flll, std_flb, std_fh, dec_ite, dec_cond, dec_bind, dec_elim, dec_none, impl_rows.dc]
  try rfl
theorem impl_rows.TL2_mono {α : Type} {rt : (Int) → Option α} {kL2 kL2_ : Int → Int → Int → Int → Int → Int → LI → LI → Int → Option α} (hkL2 : ∀ x0 x1 x2 x3 x4 x5 x6 x7 x8, Le (kL2 x0 x1 x2 x3 x4 x5 x6 x7 x8) (kL2_ x0 x1 x2 x3 x4 x5 x6 x7 x8)) {kL9 kL9_ : Int → Int → Int → Int → Int → LI → LI → Int → Option α} (hkL9 : ∀ x0 x1 x2 x3 x4 x5 x6 x7, Le (kL9 x0 x1 x2 x3 x4 x5 x6 x7) (kL9_ x0 x1 x2 x3 x4 x5 x6 x7)) {places d shift hole t21 t22 : Int} {row left : LI} {eachc0 : Int} : Le (impl_rows.TL2 Pr.std rt kL2 kL9 places d shift hole t21 t22 row left eachc0) (impl_rows.TL2 Pr.std rt kL2_ kL9_ places d shift hole t21 t22 row left eachc0) := by
  unfold impl_rows.TL2
  exact (Le.cond (Le.ite (Le.ite (Le.fi fun _ => (Le.fl fun _ => (hkL2 _ _ _ _ _ _ _ _ _))) Le.rfl') Le.rfl') (Le.cond (Le.ite (Le.ite (Le.fi fun _ => (Le.fl fun _ => (hkL9 _ _ _ _ _ _ _ _))) Le.rfl') Le.rfl') (Le.fi fun _ => (hkL9 _ _ _ _ _ _ _ _))))
def impl_rows.TL9 {α : Type} (pr : Pr) (rt : Int → Option α) (kL9 : Int → Int → Int → Int → Int → LI → LI → Int → Option α) (call_0 : (LI × Int × LI × LI × Int) → Option (Bool × LI × LI × Int)) (places d shift t35 t36 : Int) (row left : LI) (eachc0 : Int) : Option α :=
  bif (pr.lt t36 t35) then
    if (pr.inR t36 left.length) then
      if ((pr.nlt ((t36).toNat) left.length) && true) then
        pr.fi (pr.wr .i64 (t36 + 1)) fun y4 => pr.fl (pr.st left ((t36).toNat) (pr.wr .i64 (d + t36))) fun y6 => kL9 places d shift t35 y4 row y6 eachc0
      else
        none
    else
      none
  else
    if (((pr.le 0 places) && (pr.le places places)) && (pr.lt places ((8796093022208 : Nat) : Int))) then
      pr.fl (List.replicate (places).toNat (0 : Int)) fun y0 => (call_0 (y0, shift, row, left, eachc0)).bind fun rr1 =>
        pr.fi rr1.2.2.2 fun y0 => rt y0
    else
      none
theorem impl_rows.QL9_eq (places d shift t35 t36 : Int) (row left : LI) (eachc0 : Int) : impl_rows.QL9 places d shift t35 t36 row left eachc0 = impl_rows.TL9 Pr.std (fun b => some (impl_rows.ret b)) (impl_rows.QL9) impl_fill.XX places d shift t35 t36 row left eachc0 := (eval_seg impl_rows.lin 1000000 _ _).trans (by kernel_rfl)
theorem impl_rows.XL9_eq (places d shift t35 t36 : Int) (row left : LI) (eachc0 : Int) : impl_rows.XL9 places d shift t35 t36 row left eachc0 = impl_rows.TL9 Pr.std some (impl_rows.XL9) impl_fill.XX places d shift t35 t36 row left eachc0 := by
  show dec impl_rows.ret (impl_rows.QL9 places d shift t35 t36 row left eachc0) = _
  rw [impl_rows.QL9_eq]
  simp only [impl_rows.TL9, std_fi, std_fb, std_fl, std_fll, std_flll, std_flb, std_fh, dec_ite, dec_cond, dec_bind, dec_elim, dec_none, impl_rows.dc]
  try rfl
theorem impl_rows.TL9_mono {α : Type} {rt : (Int) → Option α} {kL9 kL9_ : Int → Int → Int → Int → Int → LI → LI → Int → Option α} (hkL9 : ∀ x0 x1 x2 x3 x4 x5 x6 x7, Le (kL9 x0 x1 x2 x3 x4 x5 x6 x7) (kL9_ x0 x1 x2 x3 x4 x5 x6 x7)) {call_0 call_0_ : (LI × Int × LI × LI × Int) → Option (Bool × LI × LI × Int)} (hcall_0 : ∀ x, Le (call_0 x) (call_0_ x)) {places d shift t35 t36 : Int} {row left : LI} {eachc0 : Int} : Le (impl_rows.TL9 Pr.std rt kL9 call_0 places d shift t35 t36 row left eachc0) (impl_rows.TL9 Pr.std rt kL9_ call_0_ places d shift t35 t36 row left eachc0) := by
  unfold impl_rows.TL9
  exact (Le.cond (Le.ite (Le.ite (Le.fi fun _ => (Le.fl fun _ => (hkL9 _ _ _ _ _ _ _ _))) Le.rfl') Le.rfl') (Le.ite (Le.fl fun _ => (Le.bind (hcall_0 _) (fun rr1 => Le.rfl'))) Le.rfl'))
noncomputable def impl_rows.Cs (fu : Nat) : (Int → Int → Int → Int → Int → Int → LI → LI → Int → Option (Int)) × (Int → Int → Int → Int → Int → LI → LI → Int → Option (Int)) := @Nat.rec (fun _ => (Int → Int → Int → Int → Int → Int → LI → LI → Int → Option (Int)) × (Int → Int → Int → Int → Int → LI → LI → Int → Option (Int))) ⟨fun _ _ _ _ _ _ _ _ _ => none, fun _ _ _ _ _ _ _ _ => none⟩ (fun fu pv => ⟨fun places d shift hole t21 t22 row left eachc0 => impl_rows.TL2 Pr.quick some (pv.1) (pv.2) places d shift hole t21 t22 row left eachc0, fun places d shift t35 t36 row left eachc0 => impl_rows.TL9 Pr.quick some (pv.2) (impl_fill.C fu) places d shift t35 t36 row left eachc0⟩) fu
noncomputable def impl_rows.CL2 (fu : Nat) : Int → Int → Int → Int → Int → Int → LI → LI → Int → Option (Int) := (impl_rows.Cs fu).1
noncomputable def impl_rows.CL9 (fu : Nat) : Int → Int → Int → Int → Int → LI → LI → Int → Option (Int) := (impl_rows.Cs fu).2
noncomputable def impl_rows.C (fu : Nat) (a : Int × Int × Int × Int × Int × Int) : Option (Int) := impl_rows.T Pr.quick some (impl_rows.CL2 fu) a.1 a.2.1 a.2.2.1 a.2.2.2.1 a.2.2.2.2.1 a.2.2.2.2.2
theorem impl_rows.C_okc : ∀ fu, fu ≤ 100000 → (∀ places d shift hole t21 t22 row left eachc0, Le (impl_rows.CL2 fu places d shift hole t21 t22 row left eachc0) (impl_rows.XL2 places d shift hole t21 t22 row left eachc0)) ∧ (∀ places d shift t35 t36 row left eachc0, Le (impl_rows.CL9 fu places d shift t35 t36 row left eachc0) (impl_rows.XL9 places d shift t35 t36 row left eachc0))
  | 0, _ => by
    refine ⟨?_, ?_⟩
    all_goals (intros; exact Le.none)
  | fu + 1, hfu => by
    have ih := impl_rows.C_okc fu (by omega)
    refine ⟨?_, ?_⟩
    · intro places d shift hole t21 t22 row left eachc0
      show Le (impl_rows.TL2 Pr.quick some (impl_rows.CL2 fu) (impl_rows.CL9 fu) places d shift hole t21 t22 row left eachc0) _
      rw [Pr.quick_eq, impl_rows.XL2_eq]
      exact impl_rows.TL2_mono (ih.1) (ih.2)
    · intro places d shift t35 t36 row left eachc0
      show Le (impl_rows.TL9 Pr.quick some (impl_rows.CL9 fu) (impl_fill.C fu) places d shift t35 t36 row left eachc0) _
      rw [Pr.quick_eq, impl_rows.XL9_eq]
      exact impl_rows.TL9_mono (ih.2) (fun x => impl_fill.C_ok fu (by omega) x)
theorem impl_rows.C_ok (fu : Nat) (hfu : fu ≤ 100000) (a : Int × Int × Int × Int × Int × Int) : Le (impl_rows.C fu a) (impl_rows.X a) := by
  obtain ⟨places, n, d, shift, hole, eachc0⟩ := a
  show Le (impl_rows.T Pr.quick some (impl_rows.CL2 fu) places n d shift hole eachc0) _
  rw [Pr.quick_eq, impl_rows.X_eq]
  exact impl_rows.T_mono ((impl_rows.C_okc fu hfu).1)
/-! ### loop.example/g01232/impl.langfordKind$1 -/
def impl_langfordKind_1.s0 (a : Int × Int × Int) : St := { slots := [.clo 80 [] [.ptr 0 0], .ptr 1 0, .ptr 2 0], rows := [], boxes := [(0, [.int .i64 a.1]), (1, [.int .i64 a.2.1]), (2, [.int .i64 a.2.2])] }
def impl_langfordKind_1.pat : St → Option (Int × Int × Int)
  | { slots := [.clo 80 [] [.ptr 0 0], .ptr 1 0, .ptr 2 0], rows := [], boxes := [(0, [.int .i64 eachc0]), (1, [.int .i64 t1]), (2, [.int .i64 t2])], gd := [] } => some (eachc0, t1, t2)
  | _ => none
theorem impl_langfordKind_1.hp : ∀ st a, impl_langfordKind_1.pat st = some a → st = impl_langfordKind_1.s0 a := by
  intro st a h
  unfold impl_langfordKind_1.pat at h
  split at h
  · cases h; rfl
  · cases h
def impl_langfordKind_1.ret (r : Int × Int × Int) : R := ({ slots := [], rows := [], boxes := [(0, [.int .i64 r.1]), (1, [.int .i64 r.2.1]), (2, [.int .i64 r.2.2])] }, [])
def impl_langfordKind_1.ap (b : Int × Int × Int) (K : St → List V → Option R) : Option R := K (impl_langfordKind_1.ret b).1 (impl_langfordKind_1.ret b).2
theorem impl_langfordKind_1.hap : ∀ b K, impl_langfordKind_1.ap b K = K (impl_langfordKind_1.ret b).1 (impl_langfordKind_1.ret b).2 := fun _ _ => rfl
theorem impl_langfordKind_1.inj : ∀ x y, impl_langfordKind_1.ret x = impl_langfordKind_1.ret y → x = y := by
  intro x y h
  obtain ⟨x1, x2, x3⟩ := x; obtain ⟨y1, y2, y3⟩ := y; cases h; rfl
theorem impl_langfordKind_1.dc (x : Int × Int × Int) : dec impl_langfordKind_1.ret (some (impl_langfordKind_1.ret x)) = some x := dec_ret impl_langfordKind_1.inj x
noncomputable def impl_langfordKind_1.cx : Cx := { ty := TY, fns := [(79, impl_rows.E)], nk := [], sharp := true }
noncomputable def impl_langfordKind_1.body : Code := Go.Proofs.Try.f78.body.getD .skip
def impl_langfordKind_1.fl : Fn := { loops := [], joins := [], nr := 0, nb := 3, rs := [], pre := [], mv := [], fz := [] }
noncomputable def impl_langfordKind_1.Q (a : Int × Int × Int) : Option R := eval impl_langfordKind_1.cx impl_langfordKind_1.fl [.code impl_langfordKind_1.body] (start 10 (impl_langfordKind_1.s0 a))
noncomputable def impl_langfordKind_1.X (a : Int × Int × Int) : Option (Int × Int × Int) := dec impl_langfordKind_1.ret (impl_langfordKind_1.Q a)
theorem impl_langfordKind_1.fns : FnsOk Go.Proofs.Try.prog impl_langfordKind_1.cx := show FnsL _ _ from (fns_cons impl_rows.ok fns_nil)
theorem impl_langfordKind_1.lin : impl_langfordKind_1.cx.Lin := Lin.of_fns impl_langfordKind_1.fns
noncomputable def impl_langfordKind_1.E : Entry := mkE [[true], [true], [true]] impl_langfordKind_1.pat impl_langfordKind_1.X impl_langfordKind_1.ap
theorem impl_langfordKind_1.ok : EntOk Go.Proofs.Try.prog 78 impl_langfordKind_1.E := mkE_ok (fun w args => Go.Proofs.Try.call78 args w) impl_langfordKind_1.hp impl_langfordKind_1.hap fun a b h => vc_of_X mixed (tyB_ok (cx := impl_langfordKind_1.cx) tyOk) impl_langfordKind_1.fns (fl := impl_langfordKind_1.fl) Go.Proofs.Try.func78 (code := impl_langfordKind_1.body) (by kernel_rfl) (n := 10) (by kernel_rfl) (by kernel_rfl) (by decide) (by decide) rfl rfl h
def impl_langfordKind_1.T {α : Type} (pr : Pr) (rt : (Int × Int × Int) → Option α) (call_0 : (Int × Int × Int × Int × Int × Int) → Option (Int)) (eachc0 t1 t2 : Int) : Option α :=
  pr.fi (pr.wr .i64 ((2 : Int) * t1)) fun y0 => (call_0 (y0, t1, t2, 1, (-1), eachc0)).bind fun rr1 =>
    pr.fi rr1 fun y0 => rt (y0, t1, t2)
theorem impl_langfordKind_1.Q_eq (eachc0 t1 t2 : Int) : impl_langfordKind_1.Q (eachc0, t1, t2) = impl_langfordKind_1.T Pr.std (fun b => some (impl_langfordKind_1.ret b)) impl_rows.X eachc0 t1 t2 := (eval_seg impl_langfordKind_1.lin 1000000 _ _).trans (by kernel_rfl)
theorem impl_langfordKind_1.X_eq (eachc0 t1 t2 : Int) : impl_langfordKind_1.X (eachc0, t1, t2) = impl_langfordKind_1.T Pr.std some impl_rows.X eachc0 t1 t2 := by
  show dec impl_langfordKind_1.ret (impl_langfordKind_1.Q (eachc0, t1, t2)) = _
  rw [impl_langfordKind_1.Q_eq]
  simp only [impl_langfordKind_1.T, std_fi, std_fb, std_fl, std_fll, std_flll, std_flb, std_fh, dec_ite, dec_cond, dec_bind, dec_elim, dec_none, impl_langfordKind_1.dc]
  try rfl
theorem impl_langfordKind_1.T_mono {α : Type} {rt : (Int × Int × Int) → Option α} {call_0 call_0_ : (Int × Int × Int × Int × Int × Int) → Option (Int)} (hcall_0 : ∀ x, Le (call_0 x) (call_0_ x)) {eachc0 t1 t2 : Int} : Le (impl_langfordKind_1.T Pr.std rt call_0 eachc0 t1 t2) (impl_langfordKind_1.T Pr.std rt call_0_ eachc0 t1 t2) := by
  unfold impl_langfordKind_1.T
  exact (Le.fi fun _ => (Le.bind (hcall_0 _) (fun rr1 => Le.rfl')))
noncomputable def impl_langfordKind_1.C (fu : Nat) (a : Int × Int × Int) : Option (Int × Int × Int) := impl_langfordKind_1.T Pr.quick some (impl_rows.C fu) a.1 a.2.1 a.2.2
theorem impl_langfordKind_1.C_ok (fu : Nat) (hfu : fu ≤ 100000) (a : Int × Int × Int) : Le (impl_langfordKind_1.C fu a) (impl_langfordKind_1.X a) := by
  obtain ⟨eachc0, t1, t2⟩ := a
  show Le (impl_langfordKind_1.T Pr.quick some (impl_rows.C fu) eachc0 t1 t2) _
  rw [Pr.quick_eq, impl_langfordKind_1.X_eq]
  exact impl_langfordKind_1.T_mono (fun x => impl_rows.C_ok fu hfu x)
/-! ### (loop.example/g01232/impl.kind).count -/
def impl_kind_count.s0 (a : Int × Int) : St := { slots := [.clo 78 [] [.ptr 0 0, .ptr 1 0]], rows := [], boxes := [(0, [.int .i64 a.1]), (1, [.int .i64 a.2])] }
def impl_kind_count.pat : St → Option (Int × Int)
  | { slots := [.clo 78 [] [.ptr 0 0, .ptr 1 0]], rows := [], boxes := [(0, [.int .i64 kc0]), (1, [.int .i64 kc1])], gd := [] } => some (kc0, kc1)
  | _ => none
theorem impl_kind_count.hp : ∀ st a, impl_kind_count.pat st = some a → st = impl_kind_count.s0 a := by
  intro st a h
  unfold impl_kind_count.pat at h
  split at h
  · cases h; rfl
  · cases h
def impl_kind_count.ret (r : Int × Int × Int) : R := ({ slots := [], rows := [], boxes := [(0, [.int .i64 r.2.1]), (1, [.int .i64 r.2.2])] }, [.int .i64 r.1])
def impl_kind_count.ap (b : Int × Int × Int) (K : St → List V → Option R) : Option R := K (impl_kind_count.ret b).1 (impl_kind_count.ret b).2
theorem impl_kind_count.hap : ∀ b K, impl_kind_count.ap b K = K (impl_kind_count.ret b).1 (impl_kind_count.ret b).2 := fun _ _ => rfl
theorem impl_kind_count.inj : ∀ x y, impl_kind_count.ret x = impl_kind_count.ret y → x = y := by
  intro x y h
  obtain ⟨x1, x2, x3⟩ := x; obtain ⟨y1, y2, y3⟩ := y; cases h; rfl
theorem impl_kind_count.dc (x : Int × Int × Int) : dec impl_kind_count.ret (some (impl_kind_count.ret x)) = some x := dec_ret impl_kind_count.inj x
noncomputable def impl_kind_count.cx : Cx := { ty := TY, fns := [(78, impl_langfordKind_1.E)], nk := [], sharp := true }
noncomputable def impl_kind_count.body : Code := Go.Proofs.Try.f47.body.getD .skip
def impl_kind_count.fl : Fn := { loops := [], joins := [], nr := 0, nb := 2, rs := [.tmp 2], pre := [], mv := [], fz := [] }
noncomputable def impl_kind_count.Q (a : Int × Int) : Option R := eval impl_kind_count.cx impl_kind_count.fl [.code impl_kind_count.body] (start 8 (impl_kind_count.s0 a))
noncomputable def impl_kind_count.X (a : Int × Int) : Option (Int × Int × Int) := dec impl_kind_count.ret (impl_kind_count.Q a)
theorem impl_kind_count.fns : FnsOk Go.Proofs.Try.prog impl_kind_count.cx := show FnsL _ _ from (fns_cons impl_langfordKind_1.ok fns_nil)
theorem impl_kind_count.lin : impl_kind_count.cx.Lin := Lin.of_fns impl_kind_count.fns
noncomputable def impl_kind_count.E : Entry := mkE [[true, true]] impl_kind_count.pat impl_kind_count.X impl_kind_count.ap
theorem impl_kind_count.ok : EntOk Go.Proofs.Try.prog 47 impl_kind_count.E := mkE_ok (fun w args => Go.Proofs.Try.call47 args w) impl_kind_count.hp impl_kind_count.hap fun a b h => vc_of_X mixed (tyB_ok (cx := impl_kind_count.cx) tyOk) impl_kind_count.fns (fl := impl_kind_count.fl) Go.Proofs.Try.func47 (code := impl_kind_count.body) (by kernel_rfl) (n := 8) (by kernel_rfl) (by kernel_rfl) (by decide) (by decide) rfl rfl h
def impl_kind_count.T {α : Type} (pr : Pr) (rt : (Int × Int × Int) → Option α) (call_0 : (Int × Int × Int) → Option (Int × Int × Int)) (kc0 kc1 : Int) : Option α :=
  (call_0 (0, kc0, kc1)).bind fun rr1 =>
    pr.fi rr1.1 fun y0 => pr.fi rr1.2.1 fun y1 => pr.fi rr1.2.2 fun y2 => rt (y0, y1, y2)
theorem impl_kind_count.Q_eq (kc0 kc1 : Int) : impl_kind_count.Q (kc0, kc1) = impl_kind_count.T Pr.std (fun b => some (impl_kind_count.ret b)) impl_langfordKind_1.X kc0 kc1 := (eval_seg impl_kind_count.lin 1000000 _ _).trans (by kernel_rfl)
theorem impl_kind_count.X_eq (kc0 kc1 : Int) : impl_kind_count.X (kc0, kc1) = impl_kind_count.T Pr.std some impl_langfordKind_1.X kc0 kc1 := by
  show dec impl_kind_count.ret (impl_kind_count.Q (kc0, kc1)) = _
  rw [impl_kind_count.Q_eq]
  simp only [impl_kind_count.T, std_fi, std_fb, std_fl, std_fll, std_flll, std_flb, std_fh, dec_ite, dec_cond, dec_bind, dec_elim, dec_none, impl_kind_count.dc]
  try rfl
theorem impl_kind_count.T_mono {α : Type} {rt : (Int × Int × Int) → Option α} {call_0 call_0_ : (Int × Int × Int) → Option (Int × Int × Int)} (hcall_0 : ∀ x, Le (call_0 x) (call_0_ x)) {kc0 kc1 : Int} : Le (impl_kind_count.T Pr.std rt call_0 kc0 kc1) (impl_kind_count.T Pr.std rt call_0_ kc0 kc1) := by
  unfold impl_kind_count.T
  exact (Le.bind (hcall_0 _) (fun rr1 => Le.rfl'))
noncomputable def impl_kind_count.C (fu : Nat) (a : Int × Int) : Option (Int × Int × Int) := impl_kind_count.T Pr.quick some (impl_langfordKind_1.C fu) a.1 a.2
theorem impl_kind_count.C_ok (fu : Nat) (hfu : fu ≤ 100000) (a : Int × Int) : Le (impl_kind_count.C fu a) (impl_kind_count.X a) := by
  obtain ⟨kc0, kc1⟩ := a
  show Le (impl_kind_count.T Pr.quick some (impl_langfordKind_1.C fu) kc0 kc1) _
  rw [Pr.quick_eq, impl_kind_count.X_eq]
  exact impl_kind_count.T_mono (fun x => impl_langfordKind_1.C_ok fu hfu x)
/-! ### loop.example/g01232/impl.CountLangford -/
def impl_CountLangford.s0 (a : Int × Int) : St := { slots := [.int .i64 a.1, .int .i64 a.2], rows := [], boxes := [] }
def impl_CountLangford.pat : St → Option (Int × Int)
  | { slots := [.int .i64 n, .int .i64 d], rows := [], boxes := [], gd := [] } => some (n, d)
  | _ => none
theorem impl_CountLangford.hp : ∀ st a, impl_CountLangford.pat st = some a → st = impl_CountLangford.s0 a := by
  intro st a h
  unfold impl_CountLangford.pat at h
  split at h
  · cases h; rfl
  · cases h
def impl_CountLangford.ret (r : Int × Bool) : R := ({ slots := [], rows := [], boxes := [] }, [.int .i64 r.1, .bool r.2])
def impl_CountLangford.ap (b : Int × Bool) (K : St → List V → Option R) : Option R := K (impl_CountLangford.ret b).1 (impl_CountLangford.ret b).2
theorem impl_CountLangford.hap : ∀ b K, impl_CountLangford.ap b K = K (impl_CountLangford.ret b).1 (impl_CountLangford.ret b).2 := fun _ _ => rfl
theorem impl_CountLangford.inj : ∀ x y, impl_CountLangford.ret x = impl_CountLangford.ret y → x = y := by
  intro x y h
  obtain ⟨x1, x2⟩ := x; obtain ⟨y1, y2⟩ := y; cases h; rfl
theorem impl_CountLangford.dc (x : Int × Bool) : dec impl_CountLangford.ret (some (impl_CountLangford.ret x)) = some x := dec_ret impl_CountLangford.inj x
noncomputable def impl_CountLangford.cx : Cx := { ty := TY, fns := [(45, impl_soughtFrom.E), (46, impl_langfordKind.E), (47, impl_kind_count.E)], nk := [], sharp := true }
noncomputable def impl_CountLangford.body : Code := Go.Proofs.Try.f7.body.getD .skip
def impl_CountLangford.fl : Fn := { loops := [], joins := [], nr := 0, nb := 0, rs := [.tmp 4, .tmp 5], pre := [], mv := [], fz := [] }
noncomputable def impl_CountLangford.Q (a : Int × Int) : Option R := eval impl_CountLangford.cx impl_CountLangford.fl [.code impl_CountLangford.body] (start 14 (impl_CountLangford.s0 a))
noncomputable def impl_CountLangford.X (a : Int × Int) : Option (Int × Bool) := dec impl_CountLangford.ret (impl_CountLangford.Q a)
theorem impl_CountLangford.fns : FnsOk Go.Proofs.Try.prog impl_CountLangford.cx := show FnsL _ _ from (fns_cons impl_soughtFrom.ok (fns_cons impl_langfordKind.ok (fns_cons impl_kind_count.ok fns_nil)))
theorem impl_CountLangford.lin : impl_CountLangford.cx.Lin := Lin.of_fns impl_CountLangford.fns
noncomputable def impl_CountLangford.E : Entry := mkE [] impl_CountLangford.pat impl_CountLangford.X impl_CountLangford.ap
theorem impl_CountLangford.ok : EntOk Go.Proofs.Try.prog 7 impl_CountLangford.E := mkE_ok (fun w args => Go.Proofs.Try.call7 args w) impl_CountLangford.hp impl_CountLangford.hap fun a b h => vc_of_X mixed (tyB_ok (cx := impl_CountLangford.cx) tyOk) impl_CountLangford.fns (fl := impl_CountLangford.fl) Go.Proofs.Try.func7 (code := impl_CountLangford.body) (by kernel_rfl) (n := 14) (by kernel_rfl) (by kernel_rfl) (by decide) (by decide) rfl rfl h
def impl_CountLangford.T {α : Type} (pr : Pr) (rt : (Int × Bool) → Option α) (call_0 : (Int × Int) → Option (Bool)) (call_1 : (Int × Int) → Option (Int × Int)) (call_2 : (Int × Int) → Option (Int × Int × Int)) (n d : Int) : Option α :=
  (call_0 (n, d)).bind fun rr1 =>
    bif (!rr1) then
      rt (0, false)
    else
      (call_1 (n, d)).bind fun rr2 =>
        pr.fi rr2.1 fun y0 => pr.fi rr2.2 fun y1 => (call_2 (y0, y1)).bind fun rr3 =>
          pr.fi rr3.1 fun y0 => rt (y0, true)
theorem impl_CountLangford.Q_eq (n d : Int) : impl_CountLangford.Q (n, d) = impl_CountLangford.T Pr.std (fun b => some (impl_CountLangford.ret b)) impl_soughtFrom.X impl_langfordKind.X impl_kind_count.X n d := (eval_seg impl_CountLangford.lin 1000000 _ _).trans (by kernel_rfl)
theorem impl_CountLangford.X_eq (n d : Int) : impl_CountLangford.X (n, d) = impl_CountLangford.T Pr.std some impl_soughtFrom.X impl_langfordKind.X impl_kind_count.X n d := by
  show dec impl_CountLangford.ret (impl_CountLangford.Q (n, d)) = _
  rw [impl_CountLangford.Q_eq]
  simp only [impl_CountLangford.T, std_fi, std_fb, std_fl, std_fll, std_flll, std_flb, std_fh, dec_ite, dec_cond, dec_bind, dec_elim, dec_none, impl_CountLangford.dc]
  try rfl
theorem impl_CountLangford.T_mono {α : Type} {rt : (Int × Bool) → Option α} {call_0 call_0_ : (Int × Int) → Option (Bool)} (hcall_0 : ∀ x, Le (call_0 x) (call_0_ x)) {call_1 call_1_ : (Int × Int) → Option (Int × Int)} (hcall_1 : ∀ x, Le (call_1 x) (call_1_ x)) {call_2 call_2_ : (Int × Int) → Option (Int × Int × Int)} (hcall_2 : ∀ x, Le (call_2 x) (call_2_ x)) {n d : Int} : Le (impl_CountLangford.T Pr.std rt call_0 call_1 call_2 n d) (impl_CountLangford.T Pr.std rt call_0_ call_1_ call_2_ n d) := by
  unfold impl_CountLangford.T
  exact (Le.bind (hcall_0 _) (fun rr1 => (Le.cond Le.rfl' (Le.bind (hcall_1 _) (fun rr2 => (Le.fi fun _ => (Le.fi fun _ => (Le.bind (hcall_2 _) (fun rr3 => Le.rfl')))))))))
noncomputable def impl_CountLangford.C (fu : Nat) (a : Int × Int) : Option (Int × Bool) := impl_CountLangford.T Pr.quick some (impl_soughtFrom.C fu) (impl_langfordKind.C fu) (impl_kind_count.C fu) a.1 a.2
theorem impl_CountLangford.C_ok (fu : Nat) (hfu : fu ≤ 100000) (a : Int × Int) : Le (impl_CountLangford.C fu a) (impl_CountLangford.X a) := by
  obtain ⟨n, d⟩ := a
  show Le (impl_CountLangford.T Pr.quick some (impl_soughtFrom.C fu) (impl_langfordKind.C fu) (impl_kind_count.C fu) n d) _
  rw [Pr.quick_eq, impl_CountLangford.X_eq]
  exact impl_CountLangford.T_mono (fun x => impl_soughtFrom.C_ok fu hfu x) (fun x => impl_langfordKind.C_ok fu hfu x) (fun x => impl_kind_count.C_ok fu hfu x)
/-! ### loop.example/g01232/spec.l1In -/
def spec_l1In.s0 (a : Int × Int × Int) : St := { slots := [.int .i64 a.1, .int .i64 a.2.1, .int .i64 a.2.2], rows := [], boxes := [] }
def spec_l1In.pat : St → Option (Int × Int × Int)
  | { slots := [.int .i64 n, .int .i64 lo, .int .i64 hi], rows := [], boxes := [], gd := [] } => some (n, lo, hi)
  | _ => none
theorem spec_l1In.hp : ∀ st a, spec_l1In.pat st = some a → st = spec_l1In.s0 a := by
  intro st a h
  unfold spec_l1In.pat at h
  split at h
  · cases h; rfl
  · cases h
def spec_l1In.ret (r : Bool) : R := ({ slots := [], rows := [], boxes := [] }, [.bool r])
def spec_l1In.ap (b : Bool) (K : St → List V → Option R) : Option R := K (spec_l1In.ret b).1 (spec_l1In.ret b).2
theorem spec_l1In.hap : ∀ b K, spec_l1In.ap b K = K (spec_l1In.ret b).1 (spec_l1In.ret b).2 := fun _ _ => rfl
theorem spec_l1In.inj : ∀ x y, spec_l1In.ret x = spec_l1In.ret y → x = y := by
  intro x y h
  cases h; rfl
theorem spec_l1In.dc (x : Bool) : dec spec_l1In.ret (some (spec_l1In.ret x)) = some x := dec_ret spec_l1In.inj x
noncomputable def spec_l1In.cx : Cx := { ty := TY, fns := [], nk := [], sharp := true }
noncomputable def spec_l1In.body : Code := Go.Proofs.Try.f95.body.getD .skip
def spec_l1In.fl : Fn := { loops := [], joins := [], nr := 0, nb := 0, rs := [.tmp 6], pre := [], mv := [], fz := [] }
noncomputable def spec_l1In.Q (a : Int × Int × Int) : Option R := eval spec_l1In.cx spec_l1In.fl [.code spec_l1In.body] (start 15 (spec_l1In.s0 a))
noncomputable def spec_l1In.X (a : Int × Int × Int) : Option (Bool) := dec spec_l1In.ret (spec_l1In.Q a)
theorem spec_l1In.fns : FnsOk Go.Proofs.Try.prog spec_l1In.cx := show FnsL _ _ from fns_nil
theorem spec_l1In.lin : spec_l1In.cx.Lin := Lin.of_fns spec_l1In.fns
noncomputable def spec_l1In.E : Entry := mkE [] spec_l1In.pat spec_l1In.X spec_l1In.ap
theorem spec_l1In.ok : EntOk Go.Proofs.Try.prog 95 spec_l1In.E := mkE_ok (fun w args => Go.Proofs.Try.call95 args w) spec_l1In.hp spec_l1In.hap fun a b h => vc_of_X mixed (tyB_ok (cx := spec_l1In.cx) tyOk) spec_l1In.fns (fl := spec_l1In.fl) Go.Proofs.Try.func95 (code := spec_l1In.body) (by kernel_rfl) (n := 15) (by kernel_rfl) (by kernel_rfl) (by decide) (by decide) rfl rfl h
def spec_l1In.T {α : Type} (pr : Pr) (rt : Bool → Option α) (n lo hi : Int) : Option α :=
  if (pr.ge n lo) then
    pr.fb (pr.le n hi) fun y0 => rt y0
  else
    rt false
theorem spec_l1In.Q_eq (n lo hi : Int) : spec_l1In.Q (n, lo, hi) = spec_l1In.T Pr.std (fun b => some (spec_l1In.ret b)) n lo hi := (eval_seg spec_l1In.lin 1000000 _ _).trans (by kernel_rfl)
theorem spec_l1In.X_eq (n lo hi : Int) : spec_l1In.X (n, lo, hi) = spec_l1In.T Pr.std some n lo hi := by
  show dec spec_l1In.ret (spec_l1In.Q (n, lo, hi)) = _
  rw [spec_l1In.Q_eq]
  simp only [spec_l1In.T, std_fi, std_fb, std_fl, std_fll, std_flll, std_flb, std_fh, dec_ite, dec_cond, dec_bind, dec_elim, dec_none, spec_l1In.dc]
  try rfl
theorem spec_l1In.T_mono {α : Type} {rt : (Bool) → Option α} {n lo hi : Int} : Le (spec_l1In.T Pr.std rt n lo hi) (spec_l1In.T Pr.std rt n lo hi) := by
  unfold spec_l1In.T
  exact (Le.ite Le.rfl' Le.rfl')
noncomputable def spec_l1In.C (fu : Nat) (a : Int × Int × Int) : Option (Bool) := spec_l1In.T Pr.quick some a.1 a.2.1 a.2.2
theorem spec_l1In.C_ok (fu : Nat) (hfu : fu ≤ 100000) (a : Int × Int × Int) : Le (spec_l1In.C fu a) (spec_l1In.X a) := by
  obtain ⟨n, lo, hi⟩ := a
  show Le (spec_l1In.T Pr.quick some n lo hi) _
  rw [Pr.quick_eq, spec_l1In.X_eq]
  exact spec_l1In.T_mono
/-! ### loop.example/g01232/spec.seSought -/
def spec_seSought.s0 (a : Int) : St := { slots := [.int .i64 a], rows := [], boxes := [] }
def spec_seSought.pat : St → Option (Int)
  | { slots := [.int .i64 n], rows := [], boxes := [], gd := [] } => some n
  | _ => none
theorem spec_seSought.hp : ∀ st a, spec_seSought.pat st = some a → st = spec_seSought.s0 a := by
  intro st a h
  unfold spec_seSought.pat at h
  split at h
  · cases h; rfl
  · cases h
def spec_seSought.ret (r : Bool) : R := ({ slots := [], rows := [], boxes := [] }, [.bool r])
def spec_seSought.ap (b : Bool) (K : St → List V → Option R) : Option R := K (spec_seSought.ret b).1 (spec_seSought.ret b).2
theorem spec_seSought.hap : ∀ b K, spec_seSought.ap b K = K (spec_seSought.ret b).1 (spec_seSought.ret b).2 := fun _ _ => rfl
theorem spec_seSought.inj : ∀ x y, spec_seSought.ret x = spec_seSought.ret y → x = y := by
  intro x y h
  cases h; rfl
theorem spec_seSought.dc (x : Bool) : dec spec_seSought.ret (some (spec_seSought.ret x)) = some x := dec_ret spec_seSought.inj x
noncomputable def spec_seSought.cx : Cx := { ty := TY, fns := [(95, spec_l1In.E)], nk := [], sharp := true }
noncomputable def spec_seSought.body : Code := Go.Proofs.Try.f81.body.getD .skip
def spec_seSought.fl : Fn := { loops := [], joins := [], nr := 0, nb := 0, rs := [.tmp 2], pre := [], mv := [], fz := [] }
noncomputable def spec_seSought.Q (a : Int) : Option R := eval spec_seSought.cx spec_seSought.fl [.code spec_seSought.body] (start 5 (spec_seSought.s0 a))
noncomputable def spec_seSought.X (a : Int) : Option (Bool) := dec spec_seSought.ret (spec_seSought.Q a)
theorem spec_seSought.fns : FnsOk Go.Proofs.Try.prog spec_seSought.cx := show FnsL _ _ from (fns_cons spec_l1In.ok fns_nil)
theorem spec_seSought.lin : spec_seSought.cx.Lin := Lin.of_fns spec_seSought.fns
noncomputable def spec_seSought.E : Entry := mkE [] spec_seSought.pat spec_seSought.X spec_seSought.ap
theorem spec_seSought.ok : EntOk Go.Proofs.Try.prog 81 spec_seSought.E := mkE_ok (fun w args => Go.Proofs.Try.call81 args w) spec_seSought.hp spec_seSought.hap fun a b h => vc_of_X mixed (tyB_ok (cx := spec_seSought.cx) tyOk) spec_seSought.fns (fl := spec_seSought.fl) Go.Proofs.Try.func81 (code := spec_seSought.body) (by kernel_rfl) (n := 5) (by kernel_rfl) (by kernel_rfl) (by decide) (by decide) rfl rfl h
def spec_seSought.T {α : Type} (pr : Pr) (rt : Bool → Option α) (call_0 : (Int × Int × Int) → Option (Bool)) (n : Int) : Option α :=
  (call_0 (n, 1, 9)).bind fun rr1 =>
    pr.fb rr1 fun y0 => rt y0
theorem spec_seSought.Q_eq (n : Int) : spec_seSought.Q n = spec_seSought.T Pr.std (fun b => some (spec_seSought.ret b)) spec_l1In.X n := (eval_seg spec_seSought.lin 1000000 _ _).trans (by kernel_rfl)
theorem spec_seSought.X_eq (n : Int) : spec_seSought.X n = spec_seSought.T Pr.std some spec_l1In.X n := by
  show dec spec_seSought.ret (spec_seSought.Q n) = _
  rw [spec_seSought.Q_eq]
  simp only [spec_seSought.T, std_fi, std_fb, std_fl, std_fll, std_flll, std_flb, std_fh, dec_ite, dec_cond, dec_bind, dec_elim, dec_none, spec_seSought.dc]
  try rfl
theorem spec_seSought.T_mono {α : Type} {rt : (Bool) → Option α} {call_0 call_0_ : (Int × Int × Int) → Option (Bool)} (hcall_0 : ∀ x, Le (call_0 x) (call_0_ x)) {n : Int} : Le (spec_seSought.T Pr.std rt call_0 n) (spec_seSought.T Pr.std rt call_0_ n) := by
  unfold spec_seSought.T
  exact (Le.bind (hcall_0 _) (fun rr1 => Le.rfl'))
noncomputable def spec_seSought.C (fu : Nat) (a : Int) : Option (Bool) := spec_seSought.T Pr.quick some (spec_l1In.C fu) a
theorem spec_seSought.C_ok (fu : Nat) (hfu : fu ≤ 100000) (a : Int) : Le (spec_seSought.C fu a) (spec_seSought.X a) := by
  show Le (spec_seSought.T Pr.quick some (spec_l1In.C fu) a) _
  rw [Pr.quick_eq, spec_seSought.X_eq]
  exact spec_seSought.T_mono (fun x => spec_l1In.C_ok fu hfu x)
/-! ### loop.example/g01232/spec.seN -/
def spec_seN.s0 (a : Int) : St := { slots := [.int .i64 a], rows := [], boxes := [] }
def spec_seN.pat : St → Option (Int)
  | { slots := [.int .i64 n], rows := [], boxes := [], gd := [] } => some n
  | _ => none
theorem spec_seN.hp : ∀ st a, spec_seN.pat st = some a → st = spec_seN.s0 a := by
  intro st a h
  unfold spec_seN.pat at h
  split at h
  · cases h; rfl
  · cases h
def spec_seN.ret (r : Bool) : R := ({ slots := [], rows := [], boxes := [] }, [.bool r])
def spec_seN.ap (b : Bool) (K : St → List V → Option R) : Option R := K (spec_seN.ret b).1 (spec_seN.ret b).2
theorem spec_seN.hap : ∀ b K, spec_seN.ap b K = K (spec_seN.ret b).1 (spec_seN.ret b).2 := fun _ _ => rfl
theorem spec_seN.inj : ∀ x y, spec_seN.ret x = spec_seN.ret y → x = y := by
  intro x y h
  cases h; rfl
theorem spec_seN.dc (x : Bool) : dec spec_seN.ret (some (spec_seN.ret x)) = some x := dec_ret spec_seN.inj x
noncomputable def spec_seN.cx : Cx := { ty := TY, fns := [(95, spec_l1In.E)], nk := [], sharp := true }
noncomputable def spec_seN.body : Code := Go.Proofs.Try.f82.body.getD .skip
def spec_seN.fl : Fn := { loops := [], joins := [], nr := 0, nb := 0, rs := [.tmp 2], pre := [], mv := [], fz := [] }
noncomputable def spec_seN.Q (a : Int) : Option R := eval spec_seN.cx spec_seN.fl [.code spec_seN.body] (start 5 (spec_seN.s0 a))
noncomputable def spec_seN.X (a : Int) : Option (Bool) := dec spec_seN.ret (spec_seN.Q a)
theorem spec_seN.fns : FnsOk Go.Proofs.Try.prog spec_seN.cx := show FnsL _ _ from (fns_cons spec_l1In.ok fns_nil)
theorem spec_seN.lin : spec_seN.cx.Lin := Lin.of_fns spec_seN.fns
noncomputable def spec_seN.E : Entry := mkE [] spec_seN.pat spec_seN.X spec_seN.ap
theorem spec_seN.ok : EntOk Go.Proofs.Try.prog 82 spec_seN.E := mkE_ok (fun w args => Go.Proofs.Try.call82 args w) spec_seN.hp spec_seN.hap fun a b h => vc_of_X mixed (tyB_ok (cx := spec_seN.cx) tyOk) spec_seN.fns (fl := spec_seN.fl) Go.Proofs.Try.func82 (code := spec_seN.body) (by kernel_rfl) (n := 5) (by kernel_rfl) (by kernel_rfl) (by decide) (by decide) rfl rfl h
def spec_seN.T {α : Type} (pr : Pr) (rt : Bool → Option α) (call_0 : (Int × Int × Int) → Option (Bool)) (n : Int) : Option α :=
  (call_0 (n, 1, 20)).bind fun rr1 =>
    pr.fb rr1 fun y0 => rt y0
theorem spec_seN.Q_eq (n : Int) : spec_seN.Q n = spec_seN.T Pr.std (fun b => some (spec_seN.ret b)) spec_l1In.X n := (eval_seg spec_seN.lin 1000000 _ _).trans (by kernel_rfl)
theorem spec_seN.X_eq (n : Int) : spec_seN.X n = spec_seN.T Pr.std some spec_l1In.X n := by
  show dec spec_seN.ret (spec_seN.Q n) = _
  rw [spec_seN.Q_eq]
  simp only [spec_seN.T, std_fi, std_fb, std_fl, std_fll, std_flll, std_flb, std_fh, dec_ite, dec_cond, dec_bind, dec_elim, dec_none, spec_seN.dc]
  try rfl
theorem spec_seN.T_mono {α : Type} {rt : (Bool) → Option α} {call_0 call_0_ : (Int × Int × Int) → Option (Bool)} (hcall_0 : ∀ x, Le (call_0 x) (call_0_ x)) {n : Int} : Le (spec_seN.T Pr.std rt call_0 n) (spec_seN.T Pr.std rt call_0_ n) := by
  unfold spec_seN.T
  exact (Le.bind (hcall_0 _) (fun rr1 => Le.rfl'))
noncomputable def spec_seN.C (fu : Nat) (a : Int) : Option (Bool) := spec_seN.T Pr.quick some (spec_l1In.C fu) a
theorem spec_seN.C_ok (fu : Nat) (hfu : fu ≤ 100000) (a : Int) : Le (spec_seN.C fu a) (spec_seN.X a) := by
  show Le (spec_seN.T Pr.quick some (spec_l1In.C fu) a) _
  rw [Pr.quick_eq, spec_seN.X_eq]
  exact spec_seN.T_mono (fun x => spec_l1In.C_ok fu hfu x)
end Go.VS
