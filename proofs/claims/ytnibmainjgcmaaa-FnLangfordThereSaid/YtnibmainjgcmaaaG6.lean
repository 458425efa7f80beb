/- printed by gen.py: a part of the walk through the program. No condition. -/
import Derived.Test.YtnibmainjgcmaaaG5
set_option linter.unusedVariables false
set_option linter.unusedSimpArgs false
set_option maxRecDepth 100000
namespace Go.VS
/-! ### loop.example/g01232/impl.rows -/
def impl_rows_v1.s0 (a : Int × Int × Int × Int × Int × LLI × Int) : St := { slots := [.int .i64 a.1, .int .i64 a.2.1, .int .i64 a.2.2.1, .int .i64 a.2.2.2.1, .int .i64 a.2.2.2.2.1, .clo 84 [] [.ptr 0 0, .ptr 1 0]], rows := [(0, ⟨.sl (.int .i64), a.2.2.2.2.2.1⟩)], boxes := [(0, [.row 0]), (1, [.int .i64 a.2.2.2.2.2.2])] }
def impl_rows_v1.pat : St → Option (Int × Int × Int × Int × Int × LLI × Int)
  | { slots := [.int .i64 places, .int .i64 n, .int .i64 d, .int .i64 shift, .int .i64 hole, .clo 84 [] [.ptr 0 0, .ptr 1 0]], rows := [(0, ⟨.sl (.int .i64), eachc0⟩)], boxes := [(0, [.row 0]), (1, [.int .i64 eachc1])], gd := [] } => some (places, n, d, shift, hole, eachc0, eachc1)
  | _ => none
theorem impl_rows_v1.hp : ∀ st a, impl_rows_v1.pat st = some a → st = impl_rows_v1.s0 a := by
  intro st a h
  unfold impl_rows_v1.pat at h
  split at h
  · cases h; rfl
  · cases h
def impl_rows_v1.ret (r : LLI × Int) : R := ({ slots := [], rows := [(1, ⟨.sl (.int .i64), r.1⟩)], boxes := [(0, [.row 1]), (1, [.int .i64 r.2])] }, [])
def impl_rows_v1.ap (b : LLI × Int) (K : St → List V → Option R) : Option R := K (impl_rows_v1.ret b).1 (impl_rows_v1.ret b).2
theorem impl_rows_v1.hap : ∀ b K, impl_rows_v1.ap b K = K (impl_rows_v1.ret b).1 (impl_rows_v1.ret b).2 := fun _ _ => rfl
theorem impl_rows_v1.inj : ∀ x y, impl_rows_v1.ret x = impl_rows_v1.ret y → x = y := by
  intro x y h
  obtain ⟨x1, x2⟩ := x; obtain ⟨y1, y2⟩ := y; cases h; rfl
theorem impl_rows_v1.dc (x : LLI × Int) : dec impl_rows_v1.ret (some (impl_rows_v1.ret x)) = some x := dec_ret impl_rows_v1.inj x
noncomputable def impl_rows_v1.cx : Cx := { ty := TY, fns := [(99, impl_fill_v1.E)], nk := [], sharp := true }
noncomputable def impl_rows_v1.body : Code := Go.Proofs.Try.f79.body.getD .skip
def impl_rows_v1.fl : Fn := { loops := [(2, [(0, none), (2, none), (3, none), (4, none), (5, none), (12, none), (13, none), (21, none), (22, none)]), (9, [(0, none), (2, none), (3, none), (5, none), (12, none), (13, none), (35, none), (36, none)])], joins := [], nr := 1, nb := 2, rs := [], pre := [], mv := [0], fz := [] }
noncomputable def impl_rows_v1.Q (a : Int × Int × Int × Int × Int × LLI × Int) : Option R := eval impl_rows_v1.cx impl_rows_v1.fl [.code impl_rows_v1.body] (start 53 (impl_rows_v1.s0 a))
noncomputable def impl_rows_v1.X (a : Int × Int × Int × Int × Int × LLI × Int) : Option (LLI × Int) := dec impl_rows_v1.ret (impl_rows_v1.Q a)
def impl_rows_v1.sL2 (places d shift hole t21 t22 : Int) (eachc0 : LLI) (row left : LI) (eachc1 : Int) : St := { slots := [.int .i64 places, D, .int .i64 d, .int .i64 shift, .int .i64 hole, .clo 84 [] [.ptr 0 0, .ptr 1 0], D, D, D, D, D, D, .row 1000768, .row 1000832, D, D, D, D, D, D, D, .int .i64 t21, .int .i64 t22, D, D, D, D, D, D, D, D, D, D, D, D, D, D, D, D, D, D, D, D, D, D, D, D, D, D, D, D, D, D], rows := [(0, ⟨.sl (.int .i64), eachc0⟩), (1000768, ⟨.int .i64, row⟩), (1000832, ⟨.int .i64, left⟩)], boxes := [(0, [.row 0]), (1, [.int .i64 eachc1])] }
noncomputable def impl_rows_v1.tL2 : List It := (findL 2 impl_rows_v1.body []).getD []
noncomputable def impl_rows_v1.QL2 (places d shift hole t21 t22 : Int) (eachc0 : LLI) (row left : LI) (eachc1 : Int) : Option R := eval impl_rows_v1.cx impl_rows_v1.fl impl_rows_v1.tL2 (impl_rows_v1.sL2 places d shift hole t21 t22 eachc0 row left eachc1)
noncomputable def impl_rows_v1.XL2 (places d shift hole t21 t22 : Int) (eachc0 : LLI) (row left : LI) (eachc1 : Int) : Option (LLI × Int) := dec impl_rows_v1.ret (impl_rows_v1.QL2 places d shift hole t21 t22 eachc0 row left eachc1)
def impl_rows_v1.sL9 (places d shift t35 t36 : Int) (eachc0 : LLI) (row left : LI) (eachc1 : Int) : St := { slots := [.int .i64 places, D, .int .i64 d, .int .i64 shift, D, .clo 84 [] [.ptr 0 0, .ptr 1 0], D, D, D, D, D, D, .row 1000768, .row 1000832, D, D, D, D, D, D, D, D, D, D, D, D, D, D, D, D, D, D, D, D, D, .int .i64 t35, .int .i64 t36, D, D, D, D, D, D, D, D, D, D, D, D, D, D, D, D], rows := [(0, ⟨.sl (.int .i64), eachc0⟩), (1000768, ⟨.int .i64, row⟩), (1000832, ⟨.int .i64, left⟩)], boxes := [(0, [.row 0]), (1, [.int .i64 eachc1])] }
noncomputable def impl_rows_v1.tL9 : List It := (findL 9 impl_rows_v1.body []).getD []
noncomputable def impl_rows_v1.QL9 (places d shift t35 t36 : Int) (eachc0 : LLI) (row left : LI) (eachc1 : Int) : Option R := eval impl_rows_v1.cx impl_rows_v1.fl impl_rows_v1.tL9 (impl_rows_v1.sL9 places d shift t35 t36 eachc0 row left eachc1)
noncomputable def impl_rows_v1.XL9 (places d shift t35 t36 : Int) (eachc0 : LLI) (row left : LI) (eachc1 : Int) : Option (LLI × Int) := dec impl_rows_v1.ret (impl_rows_v1.QL9 places d shift t35 t36 eachc0 row left eachc1)
theorem impl_rows_v1.fns : FnsOk Go.Proofs.Try.prog impl_rows_v1.cx := show FnsL _ _ from (fns_cons impl_fill_v1.ok fns_nil)
theorem impl_rows_v1.lin : impl_rows_v1.cx.Lin := Lin.of_fns impl_rows_v1.fns
noncomputable def impl_rows_v1.E : Entry := mkE [[], [], [], [], [], [true, true]] impl_rows_v1.pat impl_rows_v1.X impl_rows_v1.ap
theorem impl_rows_v1.ok : EntOk Go.Proofs.Try.prog 79 impl_rows_v1.E := mkE_ok (fun w args => Go.Proofs.Try.call79 args w) impl_rows_v1.hp impl_rows_v1.hap fun a b h => vc_of_X mixed (tyB_ok (cx := impl_rows_v1.cx) tyOk) impl_rows_v1.fns (fl := impl_rows_v1.fl) Go.Proofs.Try.func79 (code := impl_rows_v1.body) (by kernel_rfl) (n := 53) (by kernel_rfl) (by kernel_rfl) (by decide) (by decide) rfl rfl h
def impl_rows_v1.T {α : Type} (pr : Pr) (rt : (LLI × Int) → Option α) (kL2 : Int → Int → Int → Int → Int → Int → LLI → LI → LI → Int → Option α) (places n d shift hole : Int) (eachc0 : LLI) (eachc1 : Int) : Option α :=
  if (((pr.le 0 n) && (pr.le n n)) && (pr.lt n ((8796093022208 : Nat) : Int))) then
    if (((pr.le 0 places) && (pr.le places places)) && (pr.lt places ((8796093022208 : Nat) : Int))) then
      pr.fi (((List.replicate (places).toNat (0 : Int)).length : Nat) : Int) fun y4 => pr.fl (List.replicate (places).toNat (0 : Int)) fun y7 => pr.fl (List.replicate (n).toNat (0 : Int)) fun y8 => kL2 places d shift hole y4 0 eachc0 y7 y8 eachc1
    else
      none
  else
    none
theorem impl_rows_v1.Q_eq (places n d shift hole : Int) (eachc0 : LLI) (eachc1 : Int) : impl_rows_v1.Q (places, n, d, shift, hole, eachc0, eachc1) = impl_rows_v1.T Pr.std (fun b => some (impl_rows_v1.ret b)) (impl_rows_v1.QL2) places n d shift hole eachc0 eachc1 := (eval_seg impl_rows_v1.lin 1000000 _ _).trans (by kernel_rfl)
theorem impl_rows_v1.X_eq (places n d shift hole : Int) (eachc0 : LLI) (eachc1 : Int) : impl_rows_v1.X (places, n, d, shift, hole, eachc0, eachc1) = impl_rows_v1.T Pr.std some (impl_rows_v1.XL2) places n d shift hole eachc0 eachc1 := by
  show dec impl_rows_v1.ret (impl_rows_v1.Q (places, n, d, shift, hole, eachc0, eachc1)) = _
  rw [impl_rows_v1.Q_eq]
  simp only [impl_rows_v1.T, std_fi, std_fb, std_fl, std_fll, std_flll, std_flb, std_fh, dec_ite, dec_cond, dec_bind, dec_elim, dec_none, impl_rows_v1.dc]
  try rfl
theorem impl_rows_v1.T_mono {α : Type} {rt : (LLI × Int) → Option α} {kL2 kL2_ : Int → Int → Int → Int → Int → Int → LLI → LI → LI → Int → Option α} (hkL2 : ∀ x0 x1 x2 x3 x4 x5 x6 x7 x8 x9, Le (kL2 x0 x1 x2 x3 x4 x5 x6 x7 x8 x9) (kL2_ x0 x1 x2 x3 x4 x5 x6 x7 x8 x9)) {places n d shift hole : Int} {eachc0 : LLI} {eachc1 : Int} : Le (impl_rows_v1.T Pr.std rt kL2 places n d shift hole eachc0 eachc1) (impl_rows_v1.T Pr.std rt kL2_ places n d shift hole eachc0 eachc1) := by
  unfold impl_rows_v1.T
  exact (Le.ite (Le.ite (Le.fi fun _ => (Le.fl fun _ => (Le.fl fun _ => (hkL2 _ _ _ _ _ _ _ _ _ _)))) Le.rfl') Le.rfl')
def impl_rows_v1.TL2 {α : Type} (pr : Pr) (rt : (LLI × Int) → Option α) (kL2 : Int → Int → Int → Int → Int → Int → LLI → LI → LI → Int → Option α) (kL9 : Int → Int → Int → Int → Int → LLI → LI → LI → Int → Option α) (places d shift hole t21 t22 : Int) (eachc0 : LLI) (row left : LI) (eachc1 : Int) : Option α :=
  bif (pr.lt t22 t21) then
    if (pr.inR t22 row.length) then
      if ((pr.nlt ((t22).toNat) row.length) && true) then
        pr.fi (pr.wr .i64 (t22 + 1)) fun y5 => pr.fl (pr.st row ((t22).toNat) (-1 : Int)) fun y7 => kL2 places d shift hole t21 y5 eachc0 y7 left eachc1
      else
        none
    else
      none
  else
    bif (pr.ge hole 0) then
      if (pr.inR hole row.length) then
        if ((pr.nlt ((hole).toNat) row.length) && true) then
          pr.fi ((left.length : Nat) : Int) fun y3 => pr.fl (pr.st row ((hole).toNat) (0 : Int)) fun y6 => kL9 places d shift y3 0 eachc0 y6 left eachc1
        else
          none
      else
        none
    else
      pr.fi ((left.length : Nat) : Int) fun y3 => kL9 places d shift y3 0 eachc0 row left eachc1
theorem impl_rows_v1.QL2_eq (places d shift hole t21 t22 : Int) (eachc0 : LLI) (row left : LI) (eachc1 : Int) : impl_rows_v1.QL2 places d shift hole t21 t22 eachc0 row left eachc1 = impl_rows_v1.TL2 Pr.std (fun b => some (impl_rows_v1.ret b)) (impl_rows_v1.QL2) (impl_rows_v1.QL9) places d shift hole t21 t22 eachc0 row left eachc1 := (eval_seg impl_rows_v1.lin 1000000 _ _).trans (by kernel_rfl)
theorem impl_rows_v1.XL2_eq (places d shift hole t21 t22 : Int) (eachc0 : LLI) (row left : LI) (eachc1 : Int) : impl_rows_v1.XL2 places d shift hole t21 t22 eachc0 row left eachc1 = impl_rows_v1.TL2 Pr.std some (impl_rows_v1.XL2) (impl_rows_v1.XL9) places d shift hole t21 t22 eachc0 row left eachc1 := by
  show dec impl_rows_v1.ret (impl_rows_v1.QL2 places d shift hole t21 t22 eachc0 row left eachc1) = _
  rw [impl_rows_v1.QL2_eq]
  simp only [impl_rows_v1.TL2, std_fi, std_fb, std_fl, std_fll, std_flll, std_flb, std_fh, dec_ite, dec_cond, dec_bind, dec_elim, dec_none, impl_rows_v1.dc]
  try rfl
theorem impl_rows_v1.TL2_mono {α : Type} {rt : (LLI × Int) → Option α} {kL2 kL2_ : Int → Int → Int → Int → Int → Int → LLI → LI → LI → Int → Option α} (hkL2 : ∀ x0 x1 x2 x3 x4 x5 x6 x7 x8 x9, Le (kL2 x0 x1 x2 x3 x4 x5 x6 x7 x8 x9) (kL2_ x0 x1 x2 x3 x4 x5 x6 x7 x8 x9)) {kL9 kL9_ : Int → Int → Int → Int → Int → LLI → LI → LI → Int → Option α} (hkL9 : ∀ x0 x1 x2 x3 x4 x5 x6 x7 x8, Le (kL9 x0 x1 x2 x3 x4 x5 x6 x7 x8) (kL9_ x0 x1 x2 x3 x4 x5 x6 x7 x8)) {places d shift hole t21 t22 : Int} {eachc0 : LLI} {row left : LI} {eachc1 : Int} : Le (impl_rows_v1.TL2 Pr.std rt kL2 kL9 places d shift hole t21 t22 eachc0 row left eachc1) (impl_rows_v1.TL2 Pr.std rt kL2_ kL9_ places d shift hole t21 t22 eachc0 row left eachc1) := by
  unfold impl_rows_v1.TL2
  exact (Le.cond (Le.ite (Le.ite (Le.fi fun _ => (Le.fl fun _ => (hkL2 _ _ _ _ _ _ _ _ _ _))) Le.rfl') Le.rfl') (Le.cond (Le.ite (Le.ite (Le.fi fun _ => (Le.fl fun _ => (hkL9 _ _ _ _ _ _ _ _ _))) Le.rfl') Le.rfl') (Le.fi fun _ => (hkL9 _ _ _ _ _ _ _ _ _))))
def impl_rows_v1.TL9 {α : Type} (pr : Pr) (rt : (LLI × Int) → Option α) (kL9 : Int → Int → Int → Int → Int → LLI → LI → LI → Int → Option α) (call_0 : (Int × LI × LI × LI × LLI × Int) → Option (Bool × LI × LI × LI × LLI × Int)) (places d shift t35 t36 : Int) (eachc0 : LLI) (row left : LI) (eachc1 : Int) : Option α :=
  bif (pr.lt t36 t35) then
    if (pr.inR t36 left.length) then
      if ((pr.nlt ((t36).toNat) left.length) && true) then
        pr.fi (pr.wr .i64 (t36 + 1)) fun y4 => pr.fl (pr.st left ((t36).toNat) (pr.wr .i64 (d + t36))) fun y7 => kL9 places d shift t35 y4 eachc0 row y7 eachc1
      else
        none
    else
      none
  else
    if (((pr.le 0 places) && (pr.le places places)) && (pr.lt places ((8796093022208 : Nat) : Int))) then
      pr.fl (List.replicate (places).toNat (0 : Int)) fun y2 => (call_0 (shift, row, y2, left, eachc0, eachc1)).bind fun rr1 =>
        pr.fh rr1.2.2.2.2.1 fun y0 => pr.fi rr1.2.2.2.2.2 fun y1 => rt (y0, y1)
    else
      none
theorem impl_rows_v1.QL9_eq (places d shift t35 t36 : Int) (eachc0 : LLI) (row left : LI) (eachc1 : Int) : impl_rows_v1.QL9 places d shift t35 t36 eachc0 row left eachc1 = impl_rows_v1.TL9 Pr.std (fun b => some (impl_rows_v1.ret b)) (impl_rows_v1.QL9) impl_fill_v1.XX places d shift t35 t36 eachc0 row left eachc1 := (eval_seg impl_rows_v1.lin 1000000 _ _).trans (by kernel_rfl)
theorem impl_rows_v1.XL9_eq (places d shift t35 t36 : Int) (eachc0 : LLI) (row left : LI) (eachc1 : Int) : impl_rows_v1.XL9 places d shift t35 t36 eachc0 row left eachc1 = impl_rows_v1.TL9 Pr.std some (impl_rows_v1.XL9) impl_fill_v1.XX places d shift t35 t36 eachc0 row left eachc1 := by
  show dec impl_rows_v1.ret (impl_rows_v1.QL9 places d shift t35 t36 eachc0 row left eachc1) = _
  rw [impl_rows_v1.QL9_eq]
  simp only [impl_rows_v1.TL9, std_fi, std_fb, std_fl, std_fll, std_flll, std_flb, std_fh, dec_ite, dec_cond, dec_bind, dec_elim, dec_none, impl_rows_v1.dc]
  try rfl
theorem impl_rows_v1.TL9_mono {α : Type} {rt : (LLI × Int) → Option α} {kL9 kL9_ : Int → Int → Int → Int → Int → LLI → LI → LI → Int → Option α} (hkL9 : ∀ x0 x1 x2 x3 x4 x5 x6 x7 x8, Le (kL9 x0 x1 x2 x3 x4 x5 x6 x7 x8) (kL9_ x0 x1 x2 x3 x4 x5 x6 x7 x8)) {call_0 call_0_ : (Int × LI × LI × LI × LLI × Int) → Option (Bool × LI × LI × LI × LLI × Int)} (hcall_0 : ∀ x, Le (call_0 x) (call_0_ x)) {places d shift t35 t36 : Int} {eachc0 : LLI} {row left : LI} {eachc1 : Int} : Le (impl_rows_v1.TL9 Pr.std rt kL9 call_0 places d shift t35 t36 eachc0 row left eachc1) (impl_rows_v1.TL9 Pr.std rt kL9_ call_0_ places d shift t35 t36 eachc0 row left eachc1) := by
  unfold impl_rows_v1.TL9
  exact (Le.cond (Le.ite (Le.ite (Le.fi fun _ => (Le.fl fun _ => (hkL9 _ _ _ _ _ _ _ _ _))) Le.rfl') Le.rfl') (Le.ite (Le.fl fun _ => (Le.bind (hcall_0 _) (fun rr1 => Le.rfl'))) Le.rfl'))
noncomputable def impl_rows_v1.Cs (fu : Nat) : (Int → Int → Int → Int → Int → Int → LLI → LI → LI → Int → Option (LLI × Int)) × (Int → Int → Int → Int → Int → LLI → LI → LI → Int → Option (LLI × Int)) := @Nat.rec (fun _ => (Int → Int → Int → Int → Int → Int → LLI → LI → LI → Int → Option (LLI × Int)) × (Int → Int → Int → Int → Int → LLI → LI → LI → Int → Option (LLI × Int))) ⟨fun _ _ _ _ _ _ _ _ _ _ => none, fun _ _ _ _ _ _ _ _ _ => none⟩ (fun fu pv => ⟨fun places d shift hole t21 t22 eachc0 row left eachc1 => impl_rows_v1.TL2 Pr.quick some (pv.1) (pv.2) places d shift hole t21 t22 eachc0 row left eachc1, fun places d shift t35 t36 eachc0 row left eachc1 => impl_rows_v1.TL9 Pr.quick some (pv.2) (impl_fill_v1.C fu) places d shift t35 t36 eachc0 row left eachc1⟩) fu
noncomputable def impl_rows_v1.CL2 (fu : Nat) : Int → Int → Int → Int → Int → Int → LLI → LI → LI → Int → Option (LLI × Int) := (impl_rows_v1.Cs fu).1
noncomputable def impl_rows_v1.CL9 (fu : Nat) : Int → Int → Int → Int → Int → LLI → LI → LI → Int → Option (LLI × Int) := (impl_rows_v1.Cs fu).2
noncomputable def impl_rows_v1.C (fu : Nat) (a : Int × Int × Int × Int × Int × LLI × Int) : Option (LLI × Int) := impl_rows_v1.T Pr.quick some (impl_rows_v1.CL2 fu) a.1 a.2.1 a.2.2.1 a.2.2.2.1 a.2.2.2.2.1 a.2.2.2.2.2.1 a.2.2.2.2.2.2
theorem impl_rows_v1.C_okc : ∀ fu, fu ≤ 100000 → (∀ places d shift hole t21 t22 eachc0 row left eachc1, Le (impl_rows_v1.CL2 fu places d shift hole t21 t22 eachc0 row left eachc1) (impl_rows_v1.XL2 places d shift hole t21 t22 eachc0 row left eachc1)) ∧ (∀ places d shift t35 t36 eachc0 row left eachc1, Le (impl_rows_v1.CL9 fu places d shift t35 t36 eachc0 row left eachc1) (impl_rows_v1.XL9 places d shift t35 t36 eachc0 row left eachc1))
  | 0, _ => by
    refine ⟨?_, ?_⟩
    all_goals (intros; exact Le.none)
  | fu + 1, hfu => by
    have ih := impl_rows_v1.C_okc fu (by omega)
    refine ⟨?_, ?_⟩
    · intro places d shift hole t21 t22 eachc0 row left eachc1
      show Le (impl_rows_v1.TL2 Pr.quick some (impl_rows_v1.CL2 fu) (impl_rows_v1.CL9 fu) places d shift hole t21 t22 eachc0 row left eachc1) _
      rw [Pr.quick_eq, impl_rows_v1.XL2_eq]
      exact impl_rows_v1.TL2_mono (ih.1) (ih.2)
    · intro places d shift t35 t36 eachc0 row left eachc1
      show Le (impl_rows_v1.TL9 Pr.quick some (impl_rows_v1.CL9 fu) (impl_fill_v1.C fu) places d shift t35 t36 eachc0 row left eachc1) _
      rw [Pr.quick_eq, impl_rows_v1.XL9_eq]
      exact impl_rows_v1.TL9_mono (ih.2) (fun x => impl_fill_v1.C_ok fu (by omega) x)
theorem impl_rows_v1.C_ok (fu : Nat) (hfu : fu ≤ 100000) (a : Int × Int × Int × Int × Int × LLI × Int) : Le (impl_rows_v1.C fu a) (impl_rows_v1.X a) := by
  obtain ⟨places, n, d, shift, hole, eachc0, eachc1⟩ := a
  show Le (impl_rows_v1.T Pr.quick some (impl_rows_v1.CL2 fu) places n d shift hole eachc0 eachc1) _
  rw [Pr.quick_eq, impl_rows_v1.X_eq]
  exact impl_rows_v1.T_mono ((impl_rows_v1.C_okc fu hfu).1)
/-! ### loop.example/g01232/impl.langfordKind$1 -/
def impl_langfordKind_1_v1.s0 (a : LLI × Int × Int × Int) : St := { slots := [.clo 84 [] [.ptr 0 0, .ptr 1 0], .ptr 2 0, .ptr 3 0], rows := [(0, ⟨.sl (.int .i64), a.1⟩)], boxes := [(0, [.row 0]), (1, [.int .i64 a.2.1]), (2, [.int .i64 a.2.2.1]), (3, [.int .i64 a.2.2.2])] }
def impl_langfordKind_1_v1.pat : St → Option (LLI × Int × Int × Int)
  | { slots := [.clo 84 [] [.ptr 0 0, .ptr 1 0], .ptr 2 0, .ptr 3 0], rows := [(0, ⟨.sl (.int .i64), eachc0⟩)], boxes := [(0, [.row 0]), (1, [.int .i64 eachc1]), (2, [.int .i64 t1]), (3, [.int .i64 t2])], gd := [] } => some (eachc0, eachc1, t1, t2)
  | _ => none
theorem impl_langfordKind_1_v1.hp : ∀ st a, impl_langfordKind_1_v1.pat st = some a → st = impl_langfordKind_1_v1.s0 a := by
  intro st a h
  unfold impl_langfordKind_1_v1.pat at h
  split at h
  · cases h; rfl
  · cases h
def impl_langfordKind_1_v1.ret (r : LLI × Int × Int × Int) : R := ({ slots := [], rows := [(1, ⟨.sl (.int .i64), r.1⟩)], boxes := [(0, [.row 1]), (1, [.int .i64 r.2.1]), (2, [.int .i64 r.2.2.1]), (3, [.int .i64 r.2.2.2])] }, [])
def impl_langfordKind_1_v1.ap (b : LLI × Int × Int × Int) (K : St → List V → Option R) : Option R := K (impl_langfordKind_1_v1.ret b).1 (impl_langfordKind_1_v1.ret b).2
theorem impl_langfordKind_1_v1.hap : ∀ b K, impl_langfordKind_1_v1.ap b K = K (impl_langfordKind_1_v1.ret b).1 (impl_langfordKind_1_v1.ret b).2 := fun _ _ => rfl
theorem impl_langfordKind_1_v1.inj : ∀ x y, impl_langfordKind_1_v1.ret x = impl_langfordKind_1_v1.ret y → x = y := by
  intro x y h
  obtain ⟨x1, x2, x3, x4⟩ := x; obtain ⟨y1, y2, y3, y4⟩ := y; cases h; rfl
theorem impl_langfordKind_1_v1.dc (x : LLI × Int × Int × Int) : dec impl_langfordKind_1_v1.ret (some (impl_langfordKind_1_v1.ret x)) = some x := dec_ret impl_langfordKind_1_v1.inj x
noncomputable def impl_langfordKind_1_v1.cx : Cx := { ty := TY, fns := [(79, impl_rows_v1.E)], nk := [], sharp := true }
noncomputable def impl_langfordKind_1_v1.body : Code := Go.Proofs.Try.f78.body.getD .skip
def impl_langfordKind_1_v1.fl : Fn := { loops := [], joins := [], nr := 1, nb := 4, rs := [], pre := [], mv := [0], fz := [] }
noncomputable def impl_langfordKind_1_v1.Q (a : LLI × Int × Int × Int) : Option R := eval impl_langfordKind_1_v1.cx impl_langfordKind_1_v1.fl [.code impl_langfordKind_1_v1.body] (start 10 (impl_langfordKind_1_v1.s0 a))
noncomputable def impl_langfordKind_1_v1.X (a : LLI × Int × Int × Int) : Option (LLI × Int × Int × Int) := dec impl_langfordKind_1_v1.ret (impl_langfordKind_1_v1.Q a)
theorem impl_langfordKind_1_v1.fns : FnsOk Go.Proofs.Try.prog impl_langfordKind_1_v1.cx := show FnsL _ _ from (fns_cons impl_rows_v1.ok fns_nil)
theorem impl_langfordKind_1_v1.lin : impl_langfordKind_1_v1.cx.Lin := Lin.of_fns impl_langfordKind_1_v1.fns
noncomputable def impl_langfordKind_1_v1.E : Entry := mkE [[true, true], [true], [true]] impl_langfordKind_1_v1.pat impl_langfordKind_1_v1.X impl_langfordKind_1_v1.ap
theorem impl_langfordKind_1_v1.ok : EntOk Go.Proofs.Try.prog 78 impl_langfordKind_1_v1.E := mkE_ok (fun w args => Go.Proofs.Try.call78 args w) impl_langfordKind_1_v1.hp impl_langfordKind_1_v1.hap fun a b h => vc_of_X mixed (tyB_ok (cx := impl_langfordKind_1_v1.cx) tyOk) impl_langfordKind_1_v1.fns (fl := impl_langfordKind_1_v1.fl) Go.Proofs.Try.func78 (code := impl_langfordKind_1_v1.body) (by kernel_rfl) (n := 10) (by kernel_rfl) (by kernel_rfl) (by decide) (by decide) rfl rfl h
def impl_langfordKind_1_v1.T {α : Type} (pr : Pr) (rt : (LLI × Int × Int × Int) → Option α) (call_0 : (Int × Int × Int × Int × Int × LLI × Int) → Option (LLI × Int)) (eachc0 : LLI) (eachc1 t1 t2 : Int) : Option α :=
  pr.fi (pr.wr .i64 ((2 : Int) * t1)) fun y0 => (call_0 (y0, t1, t2, 1, (-1), eachc0, eachc1)).bind fun rr1 =>
    pr.fh rr1.1 fun y0 => pr.fi rr1.2 fun y1 => rt (y0, y1, t1, t2)
theorem impl_langfordKind_1_v1.Q_eq (eachc0 : LLI) (eachc1 t1 t2 : Int) : impl_langfordKind_1_v1.Q (eachc0, eachc1, t1, t2) = impl_langfordKind_1_v1.T Pr.std (fun b => some (impl_langfordKind_1_v1.ret b)) impl_rows_v1.X eachc0 eachc1 t1 t2 := (eval_seg impl_langfordKind_1_v1.lin 1000000 _ _).trans (by kernel_rfl)
theorem impl_langfordKind_1_v1.X_eq (eachc0 : LLI) (eachc1 t1 t2 : Int) : impl_langfordKind_1_v1.X (eachc0, eachc1, t1, t2) = impl_langfordKind_1_v1.T Pr.std some impl_rows_v1.X eachc0 eachc1 t1 t2 := by
  show dec impl_langfordKind_1_v1.ret (impl_langfordKind_1_v1.Q (eachc0, eachc1, t1, t2)) = _
  rw [impl_langfordKind_1_v1.Q_eq]
  simp only [impl_langfordKind_1_v1.T, std_fi, std_fb, std_fl, std_fll, std_flll, std_flb, std_fh, dec_ite, dec_cond, dec_bind, dec_elim, dec_none, impl_langfordKind_1_v1.dc]
  try rfl
theorem impl_langfordKind_1_v1.T_mono {α : Type} {rt : (LLI × Int × Int × Int) → Option α} {call_0 call_0_ : (Int × Int × Int × Int × Int × LLI × Int) → Option (LLI × Int)} (hcall_0 : ∀ x, Le (call_0 x) (call_0_ x)) {eachc0 : LLI} {eachc1 t1 t2 : Int} : Le (impl_langfordKind_1_v1.T Pr.std rt call_0 eachc0 eachc1 t1 t2) (impl_langfordKind_1_v1.T Pr.std rt call_0_ eachc0 eachc1 t1 t2) := by
  unfold impl_langfordKind_1_v1.T
  exact (Le.fi fun _ => (Le.bind (hcall_0 _) (fun rr1 => Le.rfl')))
noncomputable def impl_langfordKind_1_v1.C (fu : Nat) (a : LLI × Int × Int × Int) : Option (LLI × Int × Int × Int) := impl_langfordKind_1_v1.T Pr.quick some (impl_rows_v1.C fu) a.1 a.2.1 a.2.2.1 a.2.2.2
theorem impl_langfordKind_1_v1.C_ok (fu : Nat) (hfu : fu ≤ 100000) (a : LLI × Int × Int × Int) : Le (impl_langfordKind_1_v1.C fu a) (impl_langfordKind_1_v1.X a) := by
  obtain ⟨eachc0, eachc1, t1, t2⟩ := a
  show Le (impl_langfordKind_1_v1.T Pr.quick some (impl_rows_v1.C fu) eachc0 eachc1 t1 t2) _
  rw [Pr.quick_eq, impl_langfordKind_1_v1.X_eq]
  exact impl_langfordKind_1_v1.T_mono (fun x => impl_rows_v1.C_ok fu hfu x)
/-! ### (loop.example/g01232/impl.kind).all -/
def impl_kind_all.s0 (a : Int × Int × Int) : St := { slots := [.clo 78 [] [.ptr 0 0, .ptr 1 0], .int .i64 a.1], rows := [], boxes := [(0, [.int .i64 a.2.1]), (1, [.int .i64 a.2.2])] }
def impl_kind_all.pat : St → Option (Int × Int × Int)
  | { slots := [.clo 78 [] [.ptr 0 0, .ptr 1 0], .int .i64 most], rows := [], boxes := [(0, [.int .i64 kc0]), (1, [.int .i64 kc1])], gd := [] } => some (most, kc0, kc1)
  | _ => none
theorem impl_kind_all.hp : ∀ st a, impl_kind_all.pat st = some a → st = impl_kind_all.s0 a := by
  intro st a h
  unfold impl_kind_all.pat at h
  split at h
  · cases h; rfl
  · cases h
def impl_kind_all.ret (r : Bool × LLI × Int × Int) : R := ({ slots := [], rows := [(0, ⟨.sl (.int .i64), r.2.1⟩)], boxes := [(0, [.int .i64 r.2.2.1]), (1, [.int .i64 r.2.2.2])] }, [.row 0, .bool r.1])
def impl_kind_all.ap (b : Bool × LLI × Int × Int) (K : St → List V → Option R) : Option R := K (impl_kind_all.ret b).1 (impl_kind_all.ret b).2
theorem impl_kind_all.hap : ∀ b K, impl_kind_all.ap b K = K (impl_kind_all.ret b).1 (impl_kind_all.ret b).2 := fun _ _ => rfl
theorem impl_kind_all.inj : ∀ x y, impl_kind_all.ret x = impl_kind_all.ret y → x = y := by
  intro x y h
  obtain ⟨x1, x2, x3, x4⟩ := x; obtain ⟨y1, y2, y3, y4⟩ := y; cases h; rfl
theorem impl_kind_all.dc (x : Bool × LLI × Int × Int) : dec impl_kind_all.ret (some (impl_kind_all.ret x)) = some x := dec_ret impl_kind_all.inj x
noncomputable def impl_kind_all.cx : Cx := { ty := TY, fns := [(78, impl_langfordKind_1_v1.E)], nk := [(1006, [some (.sl (.int .i64))])], sharp := true }
noncomputable def impl_kind_all.body : Code := Go.Proofs.Try.f49.body.getD .skip
def impl_kind_all.fl : Fn := { loops := [], joins := [], nr := 0, nb := 2, rs := [.tmp 4, .tmp 5], pre := [(4, [some (.sl (.int .i64), false)])], mv := [], fz := [] }
noncomputable def impl_kind_all.Q (a : Int × Int × Int) : Option R := eval impl_kind_all.cx impl_kind_all.fl [.code impl_kind_all.body] (start 15 (impl_kind_all.s0 a))
noncomputable def impl_kind_all.X (a : Int × Int × Int) : Option (Bool × LLI × Int × Int) := dec impl_kind_all.ret (impl_kind_all.Q a)
theorem impl_kind_all.fns : FnsOk Go.Proofs.Try.prog impl_kind_all.cx := show FnsL _ _ from (fns_cons impl_langfordKind_1_v1.ok fns_nil)
theorem impl_kind_all.lin : impl_kind_all.cx.Lin := Lin.of_fns impl_kind_all.fns
noncomputable def impl_kind_all.E : Entry := mkE [[true, true]] impl_kind_all.pat impl_kind_all.X impl_kind_all.ap
theorem impl_kind_all.ok : EntOk Go.Proofs.Try.prog 49 impl_kind_all.E := mkE_ok (fun w args => Go.Proofs.Try.call49 args w) impl_kind_all.hp impl_kind_all.hap fun a b h => vc_of_X mixed (tyB_ok (cx := impl_kind_all.cx) tyOk) impl_kind_all.fns (fl := impl_kind_all.fl) Go.Proofs.Try.func49 (code := impl_kind_all.body) (by kernel_rfl) (n := 15) (by kernel_rfl) (by kernel_rfl) (by decide) (by decide) rfl rfl h
def impl_kind_all.T {α : Type} (pr : Pr) (rt : (Bool × LLI × Int × Int) → Option α) (call_0 : (LLI × Int × Int × Int) → Option (LLI × Int × Int × Int)) (most kc0 kc1 : Int) : Option α :=
  (call_0 ([], most, kc0, kc1)).bind fun rr1 =>
    bif (pr.gt ((rr1.1.length : Nat) : Int) rr1.2.1) then
      pr.fi rr1.2.2.1 fun y2 => pr.fi rr1.2.2.2 fun y3 => rt (false, [], y2, y3)
    else
      pr.fh rr1.1 fun y1 => pr.fi rr1.2.2.1 fun y2 => pr.fi rr1.2.2.2 fun y3 => rt (true, y1, y2, y3)
theorem impl_kind_all.Q_eq (most kc0 kc1 : Int) : impl_kind_all.Q (most, kc0, kc1) = impl_kind_all.T Pr.std (fun b => some (impl_kind_all.ret b)) impl_langfordKind_1_v1.X most kc0 kc1 := (eval_seg impl_kind_all.lin 1000000 _ _).trans (by kernel_rfl)
theorem impl_kind_all.X_eq (most kc0 kc1 : Int) : impl_kind_all.X (most, kc0, kc1) = impl_kind_all.T Pr.std some impl_langfordKind_1_v1.X most kc0 kc1 := by
  show dec impl_kind_all.ret (impl_kind_all.Q (most, kc0, kc1)) = _
  rw [impl_kind_all.Q_eq]
  simp only [impl_kind_all.T, std_fi, std_fb, std_fl, std_fll, std_flll, std_flb, std_fh, dec_ite, dec_cond, dec_bind, dec_elim, dec_none, impl_kind_all.dc]
  try rfl
theorem impl_kind_all.T_mono {α : Type} {rt : (Bool × LLI × Int × Int) → Option α} {call_0 call_0_ : (LLI × Int × Int × Int) → Option (LLI × Int × Int × Int)} (hcall_0 : ∀ x, Le (call_0 x) (call_0_ x)) {most kc0 kc1 : Int} : Le (impl_kind_all.T Pr.std rt call_0 most kc0 kc1) (impl_kind_all.T Pr.std rt call_0_ most kc0 kc1) := by
  unfold impl_kind_all.T
  exact (Le.bind (hcall_0 _) (fun rr1 => (Le.cond Le.rfl' Le.rfl')))
noncomputable def impl_kind_all.C (fu : Nat) (a : Int × Int × Int) : Option (Bool × LLI × Int × Int) := impl_kind_all.T Pr.quick some (impl_langfordKind_1_v1.C fu) a.1 a.2.1 a.2.2
theorem impl_kind_all.C_ok (fu : Nat) (hfu : fu ≤ 100000) (a : Int × Int × Int) : Le (impl_kind_all.C fu a) (impl_kind_all.X a) := by
  obtain ⟨most, kc0, kc1⟩ := a
  show Le (impl_kind_all.T Pr.quick some (impl_langfordKind_1_v1.C fu) most kc0 kc1) _
  rw [Pr.quick_eq, impl_kind_all.X_eq]
  exact impl_kind_all.T_mono (fun x => impl_langfordKind_1_v1.C_ok fu hfu x)
/-! ### loop.example/g01232/impl.AllLangford -/
def impl_AllLangford.s0 (a : Int × Int) : St := { slots := [.int .i64 a.1, .int .i64 a.2], rows := [], boxes := [] }
def impl_AllLangford.pat : St → Option (Int × Int)
  | { slots := [.int .i64 n, .int .i64 d], rows := [], boxes := [], gd := [] } => some (n, d)
  | _ => none
theorem impl_AllLangford.hp : ∀ st a, impl_AllLangford.pat st = some a → st = impl_AllLangford.s0 a := by
  intro st a h
  unfold impl_AllLangford.pat at h
  split at h
  · cases h; rfl
  · cases h
def impl_AllLangford.ret (r : Bool × LLI) : R := ({ slots := [], rows := [(0, ⟨.sl (.int .i64), r.2⟩)], boxes := [] }, [.row 0, .bool r.1])
def impl_AllLangford.ap (b : Bool × LLI) (K : St → List V → Option R) : Option R := K (impl_AllLangford.ret b).1 (impl_AllLangford.ret b).2
theorem impl_AllLangford.hap : ∀ b K, impl_AllLangford.ap b K = K (impl_AllLangford.ret b).1 (impl_AllLangford.ret b).2 := fun _ _ => rfl
theorem impl_AllLangford.inj : ∀ x y, impl_AllLangford.ret x = impl_AllLangford.ret y → x = y := by
  intro x y h
  obtain ⟨x1, x2⟩ := x; obtain ⟨y1, y2⟩ := y; cases h; rfl
theorem impl_AllLangford.dc (x : Bool × LLI) : dec impl_AllLangford.ret (some (impl_AllLangford.ret x)) = some x := dec_ret impl_AllLangford.inj x
noncomputable def impl_AllLangford.cx : Cx := { ty := TY, fns := [(45, impl_soughtFrom.E), (46, impl_langfordKind.E), (49, impl_kind_all.E)], nk := [], sharp := true }
noncomputable def impl_AllLangford.body : Code := Go.Proofs.Try.f9.body.getD .skip
def impl_AllLangford.fl : Fn := { loops := [], joins := [], nr := 0, nb := 0, rs := [.tmp 4, .tmp 5], pre := [(4, [some (.sl (.int .i64), false)])], mv := [], fz := [] }
noncomputable def impl_AllLangford.Q (a : Int × Int) : Option R := eval impl_AllLangford.cx impl_AllLangford.fl [.code impl_AllLangford.body] (start 16 (impl_AllLangford.s0 a))
noncomputable def impl_AllLangford.X (a : Int × Int) : Option (Bool × LLI) := dec impl_AllLangford.ret (impl_AllLangford.Q a)
theorem impl_AllLangford.fns : FnsOk Go.Proofs.Try.prog impl_AllLangford.cx := show FnsL _ _ from (fns_cons impl_soughtFrom.ok (fns_cons impl_langfordKind.ok (fns_cons impl_kind_all.ok fns_nil)))
theorem impl_AllLangford.lin : impl_AllLangford.cx.Lin := Lin.of_fns impl_AllLangford.fns
noncomputable def impl_AllLangford.E : Entry := mkE [] impl_AllLangford.pat impl_AllLangford.X impl_AllLangford.ap
theorem impl_AllLangford.ok : EntOk Go.Proofs.Try.prog 9 impl_AllLangford.E := mkE_ok (fun w args => Go.Proofs.Try.call9 args w) impl_AllLangford.hp impl_AllLangford.hap fun a b h => vc_of_X mixed (tyB_ok (cx := impl_AllLangford.cx) tyOk) impl_AllLangford.fns (fl := impl_AllLangford.fl) Go.Proofs.Try.func9 (code := impl_AllLangford.body) (by kernel_rfl) (n := 16) (by kernel_rfl) (by kernel_rfl) (by decide) (by decide) rfl rfl h
def impl_AllLangford.T {α : Type} (pr : Pr) (rt : (Bool × LLI) → Option α) (call_0 : (Int × Int) → Option (Bool)) (call_1 : (Int × Int) → Option (Int × Int)) (call_2 : (Int × Int × Int) → Option (Bool × LLI × Int × Int)) (n d : Int) : Option α :=
  (call_0 (n, d)).bind fun rr1 =>
    bif (!rr1) then
      rt (false, [])
    else
      (call_1 (n, d)).bind fun rr2 =>
        pr.fi rr2.1 fun y1 => pr.fi rr2.2 fun y2 => (call_2 (600, y1, y2)).bind fun rr3 =>
          pr.fb rr3.1 fun y0 => pr.fh rr3.2.1 fun y1 => rt (y0, y1)
theorem impl_AllLangford.Q_eq (n d : Int) : impl_AllLangford.Q (n, d) = impl_AllLangford.T Pr.std (fun b => some (impl_AllLangford.ret b)) impl_soughtFrom.X impl_langfordKind.X impl_kind_all.X n d := (eval_seg impl_AllLangford.lin 1000000 _ _).trans (by kernel_rfl)
theorem impl_AllLangford.X_eq (n d : Int) : impl_AllLangford.X (n, d) = impl_AllLangford.T Pr.std some impl_soughtFrom.X impl_langfordKind.X impl_kind_all.X n d := by
  show dec impl_AllLangford.ret (impl_AllLangford.Q (n, d)) = _
  rw [impl_AllLangford.Q_eq]
  simp only [impl_AllLangford.T, std_fi, std_fb, std_fl, std_fll, std_flll, std_flb, std_fh, dec_ite, dec_cond, dec_bind, dec_elim, dec_none, impl_AllLangford.dc]
  try rfl
theorem impl_AllLangford.T_mono {α : Type} {rt : (Bool × LLI) → Option α} {call_0 call_0_ : (Int × Int) → Option (Bool)} (hcall_0 : ∀ x, Le (call_0 x) (call_0_ x)) {call_1 call_1_ : (Int × Int) → Option (Int × Int)} (hcall_1 : ∀ x, Le (call_1 x) (call_1_ x)) {call_2 call_2_ : (Int × Int × Int) → Option (Bool × LLI × Int × Int)} (hcall_2 : ∀ x, Le (call_2 x) (call_2_ x)) {n d : Int} : Le (impl_AllLangford.T Pr.std rt call_0 call_1 call_2 n d) (impl_AllLangford.T Pr.std rt call_0_ call_1_ call_2_ n d) := by
  unfold impl_AllLangford.T
  exact (Le.bind (hcall_0 _) (fun rr1 => (Le.cond Le.rfl' (Le.bind (hcall_1 _) (fun rr2 => (Le.fi fun _ => (Le.fi fun _ => (Le.bind (hcall_2 _) (fun rr3 => Le.rfl')))))))))
noncomputable def impl_AllLangford.C (fu : Nat) (a : Int × Int) : Option (Bool × LLI) := impl_AllLangford.T Pr.quick some (impl_soughtFrom.C fu) (impl_langfordKind.C fu) (impl_kind_all.C fu) a.1 a.2
theorem impl_AllLangford.C_ok (fu : Nat) (hfu : fu ≤ 100000) (a : Int × Int) : Le (impl_AllLangford.C fu a) (impl_AllLangford.X a) := by
  obtain ⟨n, d⟩ := a
  show Le (impl_AllLangford.T Pr.quick some (impl_soughtFrom.C fu) (impl_langfordKind.C fu) (impl_kind_all.C fu) n d) _
  rw [Pr.quick_eq, impl_AllLangford.X_eq]
  exact impl_AllLangford.T_mono (fun x => impl_soughtFrom.C_ok fu hfu x) (fun x => impl_langfordKind.C_ok fu hfu x) (fun x => impl_kind_all.C_ok fu hfu x)
/-! ### loop.example/g01232/spec.seListed -/
def spec_seListed.s0 (a : LI × LLI × Int × Int × Int × Int × Int × Int × Int) : St := { slots := [.ptr 0 0], rows := [(0, ⟨.int .i64, a.1⟩), (1, ⟨.sl (.int .i64), a.2.1⟩)], boxes := [(0, [.row 0, .int .i64 a.2.2.1, .int .i64 a.2.2.2.1, .int .i64 a.2.2.2.2.1, .int .i64 a.2.2.2.2.2.1, .int .i64 a.2.2.2.2.2.2.1, .int .i64 a.2.2.2.2.2.2.2.1, .int .i64 a.2.2.2.2.2.2.2.2, .row 1])] }
def spec_seListed.pat : St → Option (LI × LLI × Int × Int × Int × Int × Int × Int × Int)
  | { slots := [.ptr 0 0], rows := [(0, ⟨.int .i64, l_0⟩), (1, ⟨.sl (.int .i64), l_8⟩)], boxes := [(0, [.row 0, .int .i64 l_1, .int .i64 l_2, .int .i64 l_3, .int .i64 l_4, .int .i64 l_5, .int .i64 l_6, .int .i64 l_7, .row 1])], gd := [] } => some (l_0, l_8, l_1, l_2, l_3, l_4, l_5, l_6, l_7)
  | _ => none
theorem spec_seListed.hp : ∀ st a, spec_seListed.pat st = some a → st = spec_seListed.s0 a := by
  intro st a h
  unfold spec_seListed.pat at h
  split at h
  · cases h; rfl
  · cases h
def spec_seListed.ret0 (r : LLI × Bool × LI × LLI × Int × Int × Int × Int × Int × Int × Int) : R := ({ slots := [], rows := [(2, ⟨.int .i64, r.2.2.1⟩), (3, ⟨.sl (.int .i64), r.2.2.2.1⟩)], boxes := [(0, [.row 2, .int .i64 r.2.2.2.2.1, .int .i64 r.2.2.2.2.2.1, .int .i64 r.2.2.2.2.2.2.1, .int .i64 r.2.2.2.2.2.2.2.1, .int .i64 r.2.2.2.2.2.2.2.2.1, .int .i64 r.2.2.2.2.2.2.2.2.2.1, .int .i64 r.2.2.2.2.2.2.2.2.2.2, .row 3])] }, [.sl (.sl (.int .i64)) r.1, .bool r.2.1])
def spec_seListed.ret1 (r : LLI × Bool × LI × Int × Int × Int × Int × Int × Int × Int × LLI) : R := ({ slots := [], rows := [(2, ⟨.int .i64, r.2.2.1⟩)], boxes := [(0, [.row 2, .int .i64 r.2.2.2.1, .int .i64 r.2.2.2.2.1, .int .i64 r.2.2.2.2.2.1, .int .i64 r.2.2.2.2.2.2.1, .int .i64 r.2.2.2.2.2.2.2.1, .int .i64 r.2.2.2.2.2.2.2.2.1, .int .i64 r.2.2.2.2.2.2.2.2.2.1, .sl (.sl (.int .i64)) r.2.2.2.2.2.2.2.2.2.2])] }, [.sl (.sl (.int .i64)) r.1, .bool r.2.1])
def spec_seListed.ret (r : (LLI × Bool × LI × LLI × Int × Int × Int × Int × Int × Int × Int) ⊕ (LLI × Bool × LI × Int × Int × Int × Int × Int × Int × Int × LLI)) : R := Sum.elim (spec_seListed.ret0) (spec_seListed.ret1) r
def spec_seListed.ap (b : (LLI × Bool × LI × LLI × Int × Int × Int × Int × Int × Int × Int) ⊕ (LLI × Bool × LI × Int × Int × Int × Int × Int × Int × Int × LLI)) (K : St → List V → Option R) : Option R := Sum.elim (fun r => K (spec_seListed.ret0 r).1 (spec_seListed.ret0 r).2) (fun r => K (spec_seListed.ret1 r).1 (spec_seListed.ret1 r).2) b
theorem spec_seListed.hap : ∀ b K, spec_seListed.ap b K = K (spec_seListed.ret b).1 (spec_seListed.ret b).2 := by
  intro b K
  rcases b with _ | _ <;> rfl
theorem spec_seListed.inj : ∀ x y, spec_seListed.ret x = spec_seListed.ret y → x = y := by
  intro x y h
  rcases x with ⟨_, _, _, _, _, _, _, _, _, _, _⟩ | ⟨_, _, _, _, _, _, _, _, _, _, _⟩ <;> rcases y with ⟨_, _, _, _, _, _, _, _, _, _, _⟩ | ⟨_, _, _, _, _, _, _, _, _, _, _⟩ <;> first | (cases h; rfl) | (cases h)
theorem spec_seListed.dc (x : (LLI × Bool × LI × LLI × Int × Int × Int × Int × Int × Int × Int) ⊕ (LLI × Bool × LI × Int × Int × Int × Int × Int × Int × Int × LLI)) : dec spec_seListed.ret (some (spec_seListed.ret x)) = some x := dec_ret spec_seListed.inj x
noncomputable def spec_seListed.cx : Cx := { ty := TY, fns := [], nk := [], sharp := true }
noncomputable def spec_seListed.body : Code := Go.Proofs.Try.f50.body.getD .skip
def spec_seListed.fl : Fn := { loops := [], joins := [], nr := 2, nb := 1, rs := [.tmp 2, .tmp 3], pre := [(2, [some (.sl (.int .i64), true)])], mv := [0, 1], fz := [] }
noncomputable def spec_seListed.Q (a : LI × LLI × Int × Int × Int × Int × Int × Int × Int) : Option R := eval spec_seListed.cx spec_seListed.fl [.code spec_seListed.body] (start 13 (spec_seListed.s0 a))
noncomputable def spec_seListed.X (a : LI × LLI × Int × Int × Int × Int × Int × Int × Int) : Option ((LLI × Bool × LI × LLI × Int × Int × Int × Int × Int × Int × Int) ⊕ (LLI × Bool × LI × Int × Int × Int × Int × Int × Int × Int × LLI)) := dec spec_seListed.ret (spec_seListed.Q a)
theorem spec_seListed.fns : FnsOk Go.Proofs.Try.prog spec_seListed.cx := show FnsL _ _ from fns_nil
theorem spec_seListed.lin : spec_seListed.cx.Lin := Lin.of_fns spec_seListed.fns
noncomputable def spec_seListed.E : Entry := mkE [[true]] spec_seListed.pat spec_seListed.X spec_seListed.ap
theorem spec_seListed.ok : EntOk Go.Proofs.Try.prog 50 spec_seListed.E := mkE_ok (fun w args => Go.Proofs.Try.call50 args w) spec_seListed.hp spec_seListed.hap fun a b h => vc_of_X mixed (tyB_ok (cx := spec_seListed.cx) tyOk) spec_seListed.fns (fl := spec_seListed.fl) Go.Proofs.Try.func50 (code := spec_seListed.body) (by kernel_rfl) (n := 13) (by kernel_rfl) (by kernel_rfl) (by decide) (by decide) rfl rfl h
def spec_seListed.T {α : Type} (pr : Pr) (rt : ((LLI × Bool × LI × LLI × Int × Int × Int × Int × Int × Int × Int) ⊕ (LLI × Bool × LI × Int × Int × Int × Int × Int × Int × Int × LLI)) → Option α) (l_0 : LI) (l_8 : LLI) (l_1 l_2 l_3 l_4 l_5 l_6 l_7 : Int) : Option α :=
  bif (pr.gt l_7 600) then
    rt (Sum.inl ([], false, l_0, l_8, l_1, l_2, l_3, l_4, l_5, l_6, l_7))
  else
    rt (Sum.inr (l_8, true, l_0, l_1, l_2, l_3, l_4, l_5, l_6, l_7, l_8))
theorem spec_seListed.Q_eq (l_0 : LI) (l_8 : LLI) (l_1 l_2 l_3 l_4 l_5 l_6 l_7 : Int) : spec_seListed.Q (l_0, l_8, l_1, l_2, l_3, l_4, l_5, l_6, l_7) = spec_seListed.T Pr.std (fun b => some (spec_seListed.ret b)) l_0 l_8 l_1 l_2 l_3 l_4 l_5 l_6 l_7 := (eval_seg spec_seListed.lin 1000000 _ _).trans (by kernel_rfl)
theorem spec_seListed.X_eq (l_0 : LI) (l_8 : LLI) (l_1 l_2 l_3 l_4 l_5 l_6 l_7 : Int) : spec_seListed.X (l_0, l_8, l_1, l_2, l_3, l_4, l_5, l_6, l_7) = spec_seListed.T Pr.std some l_0 l_8 l_1 l_2 l_3 l_4 l_5 l_6 l_7 := by
  show dec spec_seListed.ret (spec_seListed.Q (l_0, l_8, l_1, l_2, l_3, l_4, l_5, l_6, l_7)) = _
  rw [spec_seListed.Q_eq]
  simp only [spec_seListed.T, std_fi, std_fb, std_fl, std_fll, std_flll, std_flb, std_fh, dec_ite, dec_cond, dec_bind, dec_elim, dec_none, spec_seListed.dc]
  try rfl
theorem spec_seListed.T_mono {α : Type} {rt : ((LLI × Bool × LI × LLI × Int × Int × Int × Int × Int × Int × Int) ⊕ (LLI × Bool × LI × Int × Int × Int × Int × Int × Int × Int × LLI)) → Option α} {l_0 : LI} {l_8 : LLI} {l_1 l_2 l_3 l_4 l_5 l_6 l_7 : Int} : Le (spec_seListed.T Pr.std rt l_0 l_8 l_1 l_2 l_3 l_4 l_5 l_6 l_7) (spec_seListed.T Pr.std rt l_0 l_8 l_1 l_2 l_3 l_4 l_5 l_6 l_7) := by
  unfold spec_seListed.T
  exact (Le.cond Le.rfl' Le.rfl')
noncomputable def spec_seListed.C (fu : Nat) (a : LI × LLI × Int × Int × Int × Int × Int × Int × Int) : Option ((LLI × Bool × LI × LLI × Int × Int × Int × Int × Int × Int × Int) ⊕ (LLI × Bool × LI × Int × Int × Int × Int × Int × Int × Int × LLI)) := spec_seListed.T Pr.quick some a.1 a.2.1 a.2.2.1 a.2.2.2.1 a.2.2.2.2.1 a.2.2.2.2.2.1 a.2.2.2.2.2.2.1 a.2.2.2.2.2.2.2.1 a.2.2.2.2.2.2.2.2
theorem spec_seListed.C_ok (fu : Nat) (hfu : fu ≤ 100000) (a : LI × LLI × Int × Int × Int × Int × Int × Int × Int) : Le (spec_seListed.C fu a) (spec_seListed.X a) := by
  obtain ⟨l_0, l_8, l_1, l_2, l_3, l_4, l_5, l_6, l_7⟩ := a
  show Le (spec_seListed.T Pr.quick some l_0 l_8 l_1 l_2 l_3 l_4 l_5 l_6 l_7) _
  rw [Pr.quick_eq, spec_seListed.X_eq]
  exact spec_seListed.T_mono
end Go.VS
