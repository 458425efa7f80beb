/- printed by gen.py: a part of the walk through the program. No condition. -/
import Derived.Test.YtnibmainjgcmaaaG7
set_option linter.unusedVariables false
set_option linter.unusedSimpArgs false
set_option maxRecDepth 100000
namespace Go.VS
/-! ### loop.example/g01232/impl.rows -/
def impl_rows_v2.s0 (a : Int × Int × Int × Int × Int × LI) : St := { slots := [.int .i64 a.1, .int .i64 a.2.1, .int .i64 a.2.2.1, .int .i64 a.2.2.2.1, .int .i64 a.2.2.2.2.1, .clo 85 [] [.ptr 0 0]], rows := [(0, ⟨.int .i64, a.2.2.2.2.2⟩)], boxes := [(0, [.row 0])] }
def impl_rows_v2.pat : St → Option (Int × Int × Int × Int × Int × LI)
  | { slots := [.int .i64 places, .int .i64 n, .int .i64 d, .int .i64 shift, .int .i64 hole, .clo 85 [] [.ptr 0 0]], rows := [(0, ⟨.int .i64, eachc0⟩)], boxes := [(0, [.row 0])], gd := [] } => some (places, n, d, shift, hole, eachc0)
  | _ => none
theorem impl_rows_v2.hp : ∀ st a, impl_rows_v2.pat st = some a → st = impl_rows_v2.s0 a := by
  intro st a h
  unfold impl_rows_v2.pat at h
  split at h
  · cases h; rfl
  · cases h
def impl_rows_v2.ret (r : LI) : R := ({ slots := [], rows := [(1, ⟨.int .i64, r⟩)], boxes := [(0, [.row 1])] }, [])
def impl_rows_v2.ap (b : LI) (K : St → List V → Option R) : Option R := K (impl_rows_v2.ret b).1 (impl_rows_v2.ret b).2
theorem impl_rows_v2.hap : ∀ b K, impl_rows_v2.ap b K = K (impl_rows_v2.ret b).1 (impl_rows_v2.ret b).2 := fun _ _ => rfl
theorem impl_rows_v2.inj : ∀ x y, impl_rows_v2.ret x = impl_rows_v2.ret y → x = y := by
  intro x y h
  cases h; rfl
theorem impl_rows_v2.dc (x : LI) : dec impl_rows_v2.ret (some (impl_rows_v2.ret x)) = some x := dec_ret impl_rows_v2.inj x
noncomputable def impl_rows_v2.cx : Cx := { ty := TY, fns := [(99, impl_fill_v2.E)], nk := [], sharp := true }
noncomputable def impl_rows_v2.body : Code := Go.Proofs.Try.f79.body.getD .skip
def impl_rows_v2.fl : Fn := { loops := [(2, [(0, none), (2, none), (3, none), (4, none), (5, none), (12, none), (13, none), (21, none), (22, none)]), (9, [(0, none), (2, none), (3, none), (5, none), (12, none), (13, none), (35, none), (36, none)])], joins := [], nr := 1, nb := 1, rs := [], pre := [], mv := [0], fz := [] }
noncomputable def impl_rows_v2.Q (a : Int × Int × Int × Int × Int × LI) : Option R := eval impl_rows_v2.cx impl_rows_v2.fl [.code impl_rows_v2.body] (start 53 (impl_rows_v2.s0 a))
noncomputable def impl_rows_v2.X (a : Int × Int × Int × Int × Int × LI) : Option LI := dec impl_rows_v2.ret (impl_rows_v2.Q a)
def impl_rows_v2.sL2 (places d shift hole t21 t22 : Int) (eachc0 row left : LI) : St := { slots := [.int .i64 places, D, .int .i64 d, .int .i64 shift, .int .i64 hole, .clo 85 [] [.ptr 0 0], D, D, D, D, D, D, .row 1000768, .row 1000832, D, D, D, D, D, D, D, .int .i64 t21, .int .i64 t22, D, D, D, D, D, D, D, D, D, D, D, D, D, D, D, D, D, D, D, D, D, D, D, D, D, D, D, D, D, D], rows := [(0, ⟨.int .i64, eachc0⟩), (1000768, ⟨.int .i64, row⟩), (1000832, ⟨.int .i64, left⟩)], boxes := [(0, [.row 0])] }
noncomputable def impl_rows_v2.tL2 : List It := (findL 2 impl_rows_v2.body []).getD []
noncomputable def impl_rows_v2.QL2 (places d shift hole t21 t22 : Int) (eachc0 row left : LI) : Option R := eval impl_rows_v2.cx impl_rows_v2.fl impl_rows_v2.tL2 (impl_rows_v2.sL2 places d shift hole t21 t22 eachc0 row left)
noncomputable def impl_rows_v2.XL2 (places d shift hole t21 t22 : Int) (eachc0 row left : LI) : Option LI := dec impl_rows_v2.ret (impl_rows_v2.QL2 places d shift hole t21 t22 eachc0 row left)
def impl_rows_v2.sL9 (places d shift t35 t36 : Int) (eachc0 row left : LI) : St := { slots := [.int .i64 places, D, .int .i64 d, .int .i64 shift, D, .clo 85 [] [.ptr 0 0], D, D, D, D, D, D, .row 1000768, .row 1000832, D, D, D, D, D, D, D, D, D, D, D, D, D, D, D, D, D, D, D, D, D, .int .i64 t35, .int .i64 t36, D, D, D, D, D, D, D, D, D, D, D, D, D, D, D, D], rows := [(0, ⟨.int .i64, eachc0⟩), (1000768, ⟨.int .i64, row⟩), (1000832, ⟨.int .i64, left⟩)], boxes := [(0, [.row 0])] }
noncomputable def impl_rows_v2.tL9 : List It := (findL 9 impl_rows_v2.body []).getD []
noncomputable def impl_rows_v2.QL9 (places d shift t35 t36 : Int) (eachc0 row left : LI) : Option R := eval impl_rows_v2.cx impl_rows_v2.fl impl_rows_v2.tL9 (impl_rows_v2.sL9 places d shift t35 t36 eachc0 row left)
noncomputable def impl_rows_v2.XL9 (places d shift t35 t36 : Int) (eachc0 row left : LI) : Option LI := dec impl_rows_v2.ret (impl_rows_v2.QL9 places d shift t35 t36 eachc0 row left)
theorem impl_rows_v2.fns : FnsOk Go.Proofs.Try.prog impl_rows_v2.cx := show FnsL _ _ from (fns_cons impl_fill_v2.ok fns_nil)
theorem impl_rows_v2.lin : impl_rows_v2.cx.Lin := Lin.of_fns impl_rows_v2.fns
noncomputable def impl_rows_v2.E : Entry := mkE [[], [], [], [], [], [true]] impl_rows_v2.pat impl_rows_v2.X impl_rows_v2.ap
theorem impl_rows_v2.ok : EntOk Go.Proofs.Try.prog 79 impl_rows_v2.E := mkE_ok (fun w args => Go.Proofs.Try.call79 args w) impl_rows_v2.hp impl_rows_v2.hap fun a b h => vc_of_X mixed (tyB_ok (cx := impl_rows_v2.cx) tyOk) impl_rows_v2.fns (fl := impl_rows_v2.fl) Go.Proofs.Try.func79 (code := impl_rows_v2.body) (by kernel_rfl) (n := 53) (by kernel_rfl) (by kernel_rfl) (by decide) (by decide) rfl rfl h
def impl_rows_v2.T {α : Type} (pr : Pr) (rt : LI → Option α) (kL2 : Int → Int → Int → Int → Int → Int → LI → LI → LI → Option α) (places n d shift hole : Int) (eachc0 : LI) : Option α :=
  if (((pr.le 0 n) && (pr.le n n)) && (pr.lt n ((8796093022208 : Nat) : Int))) then
    if (((pr.le 0 places) && (pr.le places places)) && (pr.lt places ((8796093022208 : Nat) : Int))) then
      pr.fi (((List.replicate (places).toNat (0 : Int)).length : Nat) : Int) fun y4 => pr.fl (List.replicate (places).toNat (0 : Int)) fun y7 => pr.fl (List.replicate (n).toNat (0 : Int)) fun y8 => kL2 places d shift hole y4 0 eachc0 y7 y8
    else
      none
  else
    none
theorem impl_rows_v2.Q_eq (places n d shift hole : Int) (eachc0 : LI) : impl_rows_v2.Q (places, n, d, shift, hole, eachc0) = impl_rows_v2.T Pr.std (fun b => some (impl_rows_v2.ret b)) (impl_rows_v2.QL2) places n d shift hole eachc0 := (eval_seg impl_rows_v2.lin 1000000 _ _).trans (by kernel_rfl)
theorem impl_rows_v2.X_eq (places n d shift hole : Int) (eachc0 : LI) : impl_rows_v2.X (places, n, d, shift, hole, eachc0) = impl_rows_v2.T Pr.std some (impl_rows_v2.XL2) places n d shift hole eachc0 := by
  show dec impl_rows_v2.ret (impl_rows_v2.Q (places, n, d, shift, hole, eachc0)) = _
  rw [impl_rows_v2.Q_eq]
  simp only [impl_rows_v2.T, std_fi, std_fb, std_fl, std_fll, std_flll, std_flb, std_fh, dec_ite, dec_cond, dec_bind, dec_elim, dec_none, impl_rows_v2.dc]
  try rfl
theorem impl_rows_v2.T_mono {α : Type} {rt : LI → Option α} {kL2 kL2_ : Int → Int → Int → Int → Int → Int → LI → LI → LI → Option α} (hkL2 : ∀ x0 x1 x2 x3 x4 x5 x6 x7 x8, Le (kL2 x0 x1 x2 x3 x4 x5 x6 x7 x8) (kL2_ x0 x1 x2 x3 x4 x5 x6 x7 x8)) {places n d shift hole : Int} {eachc0 : LI} : Le (impl_rows_v2.T Pr.std rt kL2 places n d shift hole eachc0) (impl_rows_v2.T Pr.std rt kL2_ places n d shift hole eachc0) := by
  unfold impl_rows_v2.T
  exact (Le.ite (Le.ite (Le.fi fun _ => (Le.fl fun _ => (Le.fl fun _ => (hkL2 _ _ _ _ _ _ _ _ _)))) Le.rfl') Le.rfl')
def impl_rows_v2.TL2 {α : Type} (pr : Pr) (rt : LI → Option α) (kL2 : Int → Int → Int → Int → Int → Int → LI → LI → LI → Option α) (kL9 : Int → Int → Int → Int → Int → LI → LI → LI → Option α) (places d shift hole t21 t22 : Int) (eachc0 row left : LI) : Option α :=
  bif (pr.lt t22 t21) then
    if (pr.inR t22 row.length) then
      if ((pr.nlt ((t22).toNat) row.length) && true) then
        pr.fi (pr.wr .i64 (t22 + 1)) fun y5 => pr.fl (pr.st row ((t22).toNat) (-1 : Int)) fun y7 => kL2 places d shift hole t21 y5 eachc0 y7 left
      else
        none
    else
      none
  else
    bif (pr.ge hole 0) then
      if (pr.inR hole row.length) then
        if ((pr.nlt ((hole).toNat) row.length) && true) then
          pr.fi ((left.length : Nat) : Int) fun y3 => pr.fl (pr.st row ((hole).toNat) (0 : Int)) fun y6 => kL9 places d shift y3 0 eachc0 y6 left
        else
          none
      else
        none
    else
      pr.fi ((left.length : Nat) : Int) fun y3 => kL9 places d shift y3 0 eachc0 row left
theorem impl_rows_v2.QL2_eq (places d shift hole t21 t22 : Int) (eachc0 row left : LI) : impl_rows_v2.QL2 places d shift hole t21 t22 eachc0 row left = impl_rows_v2.TL2 Pr.std (fun b => some (impl_rows_v2.ret b)) (impl_rows_v2.QL2) (impl_rows_v2.QL9) places d shift hole t21 t22 eachc0 row left := (eval_seg impl_rows_v2.lin 1000000 _ _).trans (by kernel_rfl)
theorem impl_rows_v2.XL2_eq (places d shift hole t21 t22 : Int) (eachc0 row left : LI) : impl_rows_v2.XL2 places d shift hole t21 t22 eachc0 row left = impl_rows_v2.TL2 Pr.std some (impl_rows_v2.XL2) (impl_rows_v2.XL9) places d shift hole t21 t22 eachc0 row left := by
  show dec impl_rows_v2.ret (impl_rows_v2.QL2 places d shift hole t21 t22 eachc0 row left) = _
  rw [impl_rows_v2.QL2_eq]
  simp only [impl_rows_v2.TL2, std_fi, std_fb, std_fl, std_fll, std_flll, std_flb, std_fh, dec_ite, dec_cond, dec_bind, dec_elim, dec_none, impl_rows_v2.dc]
  try rfl
theorem impl_rows_v2.TL2_mono {α : Type} {rt : LI → Option α} {kL2 kL2_ : Int → Int → Int → Int → Int → Int → LI → LI → LI → Option α} (hkL2 : ∀ x0 x1 x2 x3 x4 x5 x6 x7 x8, Le (kL2 x0 x1 x2 x3 x4 x5 x6 x7 x8) (kL2_ x0 x1 x2 x3 x4 x5 x6 x7 x8)) {kL9 kL9_ : Int → Int → Int → Int → Int → LI → LI → LI → Option α} (hkL9 : ∀ x0 x1 x2 x3 x4 x5 x6 x7, Le (kL9 x0 x1 x2 x3 x4 x5 x6 x7) (kL9_ x0 x1 x2 x3 x4 x5 x6 x7)) {places d shift hole t21 t22 : Int} {eachc0 row left : LI} : Le (impl_rows_v2.TL2 Pr.std rt kL2 kL9 places d shift hole t21 t22 eachc0 row left) (impl_rows_v2.TL2 Pr.std rt kL2_ kL9_ places d shift hole t21 t22 eachc0 row left) := by
  unfold impl_rows_v2.TL2
  exact (Le.cond (Le.ite (Le.ite (Le.fi fun _ => (Le.fl fun _ => (hkL2 _ _ _ _ _ _ _ _ _))) Le.rfl') Le.rfl') (Le.cond (Le.ite (Le.ite (Le.fi fun _ => (Le.fl fun _ => (hkL9 _ _ _ _ _ _ _ _))) Le.rfl') Le.rfl') (Le.fi fun _ => (hkL9 _ _ _ _ _ _ _ _))))
def impl_rows_v2.TL9 {α : Type} (pr : Pr) (rt : LI → Option α) (kL9 : Int → Int → Int → Int → Int → LI → LI → LI → Option α) (call_0 : (LI × Int × LI × LI × LI) → Option (Bool × LI × LI × LI)) (places d shift t35 t36 : Int) (eachc0 row left : LI) : Option α :=
  bif (pr.lt t36 t35) then
    if (pr.inR t36 left.length) then
      if ((pr.nlt ((t36).toNat) left.length) && true) then
        pr.fi (pr.wr .i64 (t36 + 1)) fun y4 => pr.fl (pr.st left ((t36).toNat) (pr.wr .i64 (d + t36))) fun y7 => kL9 places d shift t35 y4 eachc0 row y7
      else
        none
    else
      none
  else
    if (((pr.le 0 places) && (pr.le places places)) && (pr.lt places ((8796093022208 : Nat) : Int))) then
      pr.fl (List.replicate (places).toNat (0 : Int)) fun y0 => (call_0 (y0, shift, row, left, eachc0)).bind fun rr1 =>
        pr.fh rr1.2.2.2 fun y0 => rt y0
    else
      none
theorem impl_rows_v2.QL9_eq (places d shift t35 t36 : Int) (eachc0 row left : LI) : impl_rows_v2.QL9 places d shift t35 t36 eachc0 row left = impl_rows_v2.TL9 Pr.std (fun b => some (impl_rows_v2.ret b)) (impl_rows_v2.QL9) impl_fill_v2.XX places d shift t35 t36 eachc0 row left := (eval_seg impl_rows_v2.lin 1000000 _ _).trans (by kernel_rfl)
theorem impl_rows_v2.XL9_eq (places d shift t35 t36 : Int) (eachc0 row left : LI) : impl_rows_v2.XL9 places d shift t35 t36 eachc0 row left = impl_rows_v2.TL9 Pr.std some (impl_rows_v2.XL9) impl_fill_v2.XX places d shift t35 t36 eachc0 row left := by
  show dec impl_rows_v2.ret (impl_rows_v2.QL9 places d shift t35 t36 eachc0 row left) = _
  rw [impl_rows_v2.QL9_eq]
  simp only [impl_rows_v2.TL9, std_fi, std_fb, std_fl, std_fll, std_flll, std_flb, std_fh, dec_ite, dec_cond, dec_bind, dec_elim, dec_none, impl_rows_v2.dc]
  try rfl
theorem impl_rows_v2.TL9_mono {α : Type} {rt : LI → Option α} {kL9 kL9_ : Int → Int → Int → Int → Int → LI → LI → LI → Option α} (hkL9 : ∀ x0 x1 x2 x3 x4 x5 x6 x7, Le (kL9 x0 x1 x2 x3 x4 x5 x6 x7) (kL9_ x0 x1 x2 x3 x4 x5 x6 x7)) {call_0 call_0_ : (LI × Int × LI × LI × LI) → Option (Bool × LI × LI × LI)} (hcall_0 : ∀ x, Le (call_0 x) (call_0_ x)) {places d shift t35 t36 : Int} {eachc0 row left : LI} : Le (impl_rows_v2.TL9 Pr.std rt kL9 call_0 places d shift t35 t36 eachc0 row left) (impl_rows_v2.TL9 Pr.std rt kL9_ call_0_ places d shift t35 t36 eachc0 row left) := by
  unfold impl_rows_v2.TL9
  exact (Le.cond (Le.ite (Le.ite (Le.fi fun _ => (Le.fl fun _ => (hkL9 _ _ _ _ _ _ _ _))) Le.rfl') Le.rfl') (Le.ite (Le.fl fun _ => (Le.bind (hcall_0 _) (fun rr1 => Le.rfl'))) Le.rfl'))
noncomputable def impl_rows_v2.Cs (fu : Nat) : (Int → Int → Int → Int → Int → Int → LI → LI → LI → Option LI) × (Int → Int → Int → Int → Int → LI → LI → LI → Option LI) := @Nat.rec (fun _ => (Int → Int → Int → Int → Int → Int → LI → LI → LI → Option LI) × (Int → Int → Int → Int → Int → LI → LI → LI → Option LI)) ⟨fun _ _ _ _ _ _ _ _ _ => none, fun _ _ _ _ _ _ _ _ => none⟩ (fun fu pv => ⟨fun places d shift hole t21 t22 eachc0 row left => impl_rows_v2.TL2 Pr.quick some (pv.1) (pv.2) places d shift hole t21 t22 eachc0 row left, fun places d shift t35 t36 eachc0 row left => impl_rows_v2.TL9 Pr.quick some (pv.2) (impl_fill_v2.C fu) places d shift t35 t36 eachc0 row left⟩) fu
noncomputable def impl_rows_v2.CL2 (fu : Nat) : Int → Int → Int → Int → Int → Int → LI → LI → LI → Option LI := (impl_rows_v2.Cs fu).1
noncomputable def impl_rows_v2.CL9 (fu : Nat) : Int → Int → Int → Int → Int → LI → LI → LI → Option LI := (impl_rows_v2.Cs fu).2
noncomputable def impl_rows_v2.C (fu : Nat) (a : Int × Int × Int × Int × Int × LI) : Option LI := impl_rows_v2.T Pr.quick some (impl_rows_v2.CL2 fu) a.1 a.2.1 a.2.2.1 a.2.2.2.1 a.2.2.2.2.1 a.2.2.2.2.2
theorem impl_rows_v2.C_okc : ∀ fu, fu ≤ 100000 → (∀ places d shift hole t21 t22 eachc0 row left, Le (impl_rows_v2.CL2 fu places d shift hole t21 t22 eachc0 row left) (impl_rows_v2.XL2 places d shift hole t21 t22 eachc0 row left)) ∧ (∀ places d shift t35 t36 eachc0 row left, Le (impl_rows_v2.CL9 fu places d shift t35 t36 eachc0 row left) (impl_rows_v2.XL9 places d shift t35 t36 eachc0 row left))
  | 0, _ => by
    refine ⟨?_, ?_⟩
    all_goals (intros; exact Le.none)
  | fu + 1, hfu => by
    have ih := impl_rows_v2.C_okc fu (by omega)
    refine ⟨?_, ?_⟩
    · intro places d shift hole t21 t22 eachc0 row left
      show Le (impl_rows_v2.TL2 Pr.quick some (impl_rows_v2.CL2 fu) (impl_rows_v2.CL9 fu) places d shift hole t21 t22 eachc0 row left) _
      rw [Pr.quick_eq, impl_rows_v2.XL2_eq]
      exact impl_rows_v2.TL2_mono (ih.1) (ih.2)
    · intro places d shift t35 t36 eachc0 row left
      show Le (impl_rows_v2.TL9 Pr.quick some (impl_rows_v2.CL9 fu) (impl_fill_v2.C fu) places d shift t35 t36 eachc0 row left) _
      rw [Pr.quick_eq, impl_rows_v2.XL9_eq]
      exact impl_rows_v2.TL9_mono (ih.2) (fun x => impl_fill_v2.C_ok fu (by omega) x)
theorem impl_rows_v2.C_ok (fu : Nat) (hfu : fu ≤ 100000) (a : Int × Int × Int × Int × Int × LI) : Le (impl_rows_v2.C fu a) (impl_rows_v2.X a) := by
  obtain ⟨places, n, d, shift, hole, eachc0⟩ := a
  show Le (impl_rows_v2.T Pr.quick some (impl_rows_v2.CL2 fu) places n d shift hole eachc0) _
  rw [Pr.quick_eq, impl_rows_v2.X_eq]
  exact impl_rows_v2.T_mono ((impl_rows_v2.C_okc fu hfu).1)
/-! ### loop.example/g01232/impl.langfordKind$1 -/
def impl_langfordKind_1_v2.s0 (a : LI × Int × Int) : St := { slots := [.clo 85 [] [.ptr 0 0], .ptr 1 0, .ptr 2 0], rows := [(0, ⟨.int .i64, a.1⟩)], boxes := [(0, [.row 0]), (1, [.int .i64 a.2.1]), (2, [.int .i64 a.2.2])] }
def impl_langfordKind_1_v2.pat : St → Option (LI × Int × Int)
  | { slots := [.clo 85 [] [.ptr 0 0], .ptr 1 0, .ptr 2 0], rows := [(0, ⟨.int .i64, eachc0⟩)], boxes := [(0, [.row 0]), (1, [.int .i64 t1]), (2, [.int .i64 t2])], gd := [] } => some (eachc0, t1, t2)
  | _ => none
theorem impl_langfordKind_1_v2.hp : ∀ st a, impl_langfordKind_1_v2.pat st = some a → st = impl_langfordKind_1_v2.s0 a := by
  intro st a h
  unfold impl_langfordKind_1_v2.pat at h
  split at h
  · cases h; rfl
  · cases h
def impl_langfordKind_1_v2.ret (r : LI × Int × Int) : R := ({ slots := [], rows := [(1, ⟨.int .i64, r.1⟩)], boxes := [(0, [.row 1]), (1, [.int .i64 r.2.1]), (2, [.int .i64 r.2.2])] }, [])
def impl_langfordKind_1_v2.ap (b : LI × Int × Int) (K : St → List V → Option R) : Option R := K (impl_langfordKind_1_v2.ret b).1 (impl_langfordKind_1_v2.ret b).2
theorem impl_langfordKind_1_v2.hap : ∀ b K, impl_langfordKind_1_v2.ap b K = K (impl_langfordKind_1_v2.ret b).1 (impl_langfordKind_1_v2.ret b).2 := fun _ _ => rfl
theorem impl_langfordKind_1_v2.inj : ∀ x y, impl_langfordKind_1_v2.ret x = impl_langfordKind_1_v2.ret y → x = y := by
  intro x y h
  obtain ⟨x1, x2, x3⟩ := x; obtain ⟨y1, y2, y3⟩ := y; cases h; rfl
theorem impl_langfordKind_1_v2.dc (x : LI × Int × Int) : dec impl_langfordKind_1_v2.ret (some (impl_langfordKind_1_v2.ret x)) = some x := dec_ret impl_langfordKind_1_v2.inj x
noncomputable def impl_langfordKind_1_v2.cx : Cx := { ty := TY, fns := [(79, impl_rows_v2.E)], nk := [], sharp := true }
noncomputable def impl_langfordKind_1_v2.body : Code := Go.Proofs.Try.f78.body.getD .skip
def impl_langfordKind_1_v2.fl : Fn := { loops := [], joins := [], nr := 1, nb := 3, rs := [], pre := [], mv := [0], fz := [] }
noncomputable def impl_langfordKind_1_v2.Q (a : LI × Int × Int) : Option R := eval impl_langfordKind_1_v2.cx impl_langfordKind_1_v2.fl [.code impl_langfordKind_1_v2.body] (start 10 (impl_langfordKind_1_v2.s0 a))
noncomputable def impl_langfordKind_1_v2.X (a : LI × Int × Int) : Option (LI × Int × Int) := dec impl_langfordKind_1_v2.ret (impl_langfordKind_1_v2.Q a)
theorem impl_langfordKind_1_v2.fns : FnsOk Go.Proofs.Try.prog impl_langfordKind_1_v2.cx := show FnsL _ _ from (fns_cons impl_rows_v2.ok fns_nil)
theorem impl_langfordKind_1_v2.lin : impl_langfordKind_1_v2.cx.Lin := Lin.of_fns impl_langfordKind_1_v2.fns
noncomputable def impl_langfordKind_1_v2.E : Entry := mkE [[true], [true], [true]] impl_langfordKind_1_v2.pat impl_langfordKind_1_v2.X impl_langfordKind_1_v2.ap
theorem impl_langfordKind_1_v2.ok : EntOk Go.Proofs.Try.prog 78 impl_langfordKind_1_v2.E := mkE_ok (fun w args => Go.Proofs.Try.call78 args w) impl_langfordKind_1_v2.hp impl_langfordKind_1_v2.hap fun a b h => vc_of_X mixed (tyB_ok (cx := impl_langfordKind_1_v2.cx) tyOk) impl_langfordKind_1_v2.fns (fl := impl_langfordKind_1_v2.fl) Go.Proofs.Try.func78 (code := impl_langfordKind_1_v2.body) (by kernel_rfl) (n := 10) (by kernel_rfl) (by kernel_rfl) (by decide) (by decide) rfl rfl h
def impl_langfordKind_1_v2.T {α : Type} (pr : Pr) (rt : (LI × Int × Int) → Option α) (call_0 : (Int × Int × Int × Int × Int × LI) → Option LI) (eachc0 : LI) (t1 t2 : Int) : Option α :=
  pr.fi (pr.wr .i64 ((2 : Int) * t1)) fun y0 => (call_0 (y0, t1, t2, 1, (-1), eachc0)).bind fun rr1 =>
    pr.fh rr1 fun y0 => rt (y0, t1, t2)
theorem impl_langfordKind_1_v2.Q_eq (eachc0 : LI) (t1 t2 : Int) : impl_langfordKind_1_v2.Q (eachc0, t1, t2) = impl_langfordKind_1_v2.T Pr.std (fun b => some (impl_langfordKind_1_v2.ret b)) impl_rows_v2.X eachc0 t1 t2 := (eval_seg impl_langfordKind_1_v2.lin 1000000 _ _).trans (by kernel_rfl)
theorem impl_langfordKind_1_v2.X_eq (eachc0 : LI) (t1 t2 : Int) : impl_langfordKind_1_v2.X (eachc0, t1, t2) = impl_langfordKind_1_v2.T Pr.std some impl_rows_v2.X eachc0 t1 t2 := by
  show dec impl_langfordKind_1_v2.ret (impl_langfordKind_1_v2.Q (eachc0, t1, t2)) = _
  rw [impl_langfordKind_1_v2.Q_eq]
  simp only [impl_langfordKind_1_v2.T, std_fi, std_fb, std_fl, std_fll, std_flll, std_flb, std_fh, dec_ite, dec_cond, dec_bind, dec_elim, dec_none, impl_langfordKind_1_v2.dc]
  try rfl
theorem impl_langfordKind_1_v2.T_mono {α : Type} {rt : (LI × Int × Int) → Option α} {call_0 call_0_ : (Int × Int × Int × Int × Int × LI) → Option LI} (hcall_0 : ∀ x, Le (call_0 x) (call_0_ x)) {eachc0 : LI} {t1 t2 : Int} : Le (impl_langfordKind_1_v2.T Pr.std rt call_0 eachc0 t1 t2) (impl_langfordKind_1_v2.T Pr.std rt call_0_ eachc0 t1 t2) := by
  unfold impl_langfordKind_1_v2.T
  exact (Le.fi fun _ => (Le.bind (hcall_0 _) (fun rr1 => Le.rfl')))
noncomputable def impl_langfordKind_1_v2.C (fu : Nat) (a : LI × Int × Int) : Option (LI × Int × Int) := impl_langfordKind_1_v2.T Pr.quick some (impl_rows_v2.C fu) a.1 a.2.1 a.2.2
theorem impl_langfordKind_1_v2.C_ok (fu : Nat) (hfu : fu ≤ 100000) (a : LI × Int × Int) : Le (impl_langfordKind_1_v2.C fu a) (impl_langfordKind_1_v2.X a) := by
  obtain ⟨eachc0, t1, t2⟩ := a
  show Le (impl_langfordKind_1_v2.T Pr.quick some (impl_rows_v2.C fu) eachc0 t1 t2) _
  rw [Pr.quick_eq, impl_langfordKind_1_v2.X_eq]
  exact impl_langfordKind_1_v2.T_mono (fun x => impl_rows_v2.C_ok fu hfu x)
/-! ### (loop.example/g01232/impl.kind).first -/
def impl_kind_first.s0 (a : Int × Int) : St := { slots := [.clo 78 [] [.ptr 0 0, .ptr 1 0]], rows := [], boxes := [(0, [.int .i64 a.1]), (1, [.int .i64 a.2])] }
def impl_kind_first.pat : St → Option (Int × Int)
  | { slots := [.clo 78 [] [.ptr 0 0, .ptr 1 0]], rows := [], boxes := [(0, [.int .i64 kc0]), (1, [.int .i64 kc1])], gd := [] } => some (kc0, kc1)
  | _ => none
theorem impl_kind_first.hp : ∀ st a, impl_kind_first.pat st = some a → st = impl_kind_first.s0 a := by
  intro st a h
  unfold impl_kind_first.pat at h
  split at h
  · cases h; rfl
  · cases h
def impl_kind_first.ret (r : Bool × LI × Int × Int) : R := ({ slots := [], rows := [(0, ⟨.int .i64, r.2.1⟩)], boxes := [(0, [.int .i64 r.2.2.1]), (1, [.int .i64 r.2.2.2])] }, [.row 0, .bool r.1])
def impl_kind_first.ap (b : Bool × LI × Int × Int) (K : St → List V → Option R) : Option R := K (impl_kind_first.ret b).1 (impl_kind_first.ret b).2
theorem impl_kind_first.hap : ∀ b K, impl_kind_first.ap b K = K (impl_kind_first.ret b).1 (impl_kind_first.ret b).2 := fun _ _ => rfl
theorem impl_kind_first.inj : ∀ x y, impl_kind_first.ret x = impl_kind_first.ret y → x = y := by
  intro x y h
  obtain ⟨x1, x2, x3, x4⟩ := x; obtain ⟨y1, y2, y3, y4⟩ := y; cases h; rfl
theorem impl_kind_first.dc (x : Bool × LI × Int × Int) : dec impl_kind_first.ret (some (impl_kind_first.ret x)) = some x := dec_ret impl_kind_first.inj x
noncomputable def impl_kind_first.cx : Cx := { ty := TY, fns := [(78, impl_langfordKind_1_v2.E)], nk := [(1004, [some (.int .i64)])], sharp := true }
noncomputable def impl_kind_first.body : Code := Go.Proofs.Try.f51.body.getD .skip
def impl_kind_first.fl : Fn := { loops := [], joins := [], nr := 0, nb := 2, rs := [.tmp 2, .tmp 3], pre := [], mv := [], fz := [] }
noncomputable def impl_kind_first.Q (a : Int × Int) : Option R := eval impl_kind_first.cx impl_kind_first.fl [.code impl_kind_first.body] (start 12 (impl_kind_first.s0 a))
noncomputable def impl_kind_first.X (a : Int × Int) : Option (Bool × LI × Int × Int) := dec impl_kind_first.ret (impl_kind_first.Q a)
theorem impl_kind_first.fns : FnsOk Go.Proofs.Try.prog impl_kind_first.cx := show FnsL _ _ from (fns_cons impl_langfordKind_1_v2.ok fns_nil)
theorem impl_kind_first.lin : impl_kind_first.cx.Lin := Lin.of_fns impl_kind_first.fns
noncomputable def impl_kind_first.E : Entry := mkE [[true, true]] impl_kind_first.pat impl_kind_first.X impl_kind_first.ap
theorem impl_kind_first.ok : EntOk Go.Proofs.Try.prog 51 impl_kind_first.E := mkE_ok (fun w args => Go.Proofs.Try.call51 args w) impl_kind_first.hp impl_kind_first.hap fun a b h => vc_of_X mixed (tyB_ok (cx := impl_kind_first.cx) tyOk) impl_kind_first.fns (fl := impl_kind_first.fl) Go.Proofs.Try.func51 (code := impl_kind_first.body) (by kernel_rfl) (n := 12) (by kernel_rfl) (by kernel_rfl) (by decide) (by decide) rfl rfl h
def impl_kind_first.T {α : Type} (pr : Pr) (rt : (Bool × LI × Int × Int) → Option α) (call_0 : (LI × Int × Int) → Option (LI × Int × Int)) (kc0 kc1 : Int) : Option α :=
  (call_0 ([], kc0, kc1)).bind fun rr1 =>
    pr.fb (pr.gt ((rr1.1.length : Nat) : Int) 0) fun y0 => pr.fh rr1.1 fun y1 => pr.fi rr1.2.1 fun y2 => pr.fi rr1.2.2 fun y3 => rt (y0, y1, y2, y3)
theorem impl_kind_first.Q_eq (kc0 kc1 : Int) : impl_kind_first.Q (kc0, kc1) = impl_kind_first.T Pr.std (fun b => some (impl_kind_first.ret b)) impl_langfordKind_1_v2.X kc0 kc1 := (eval_seg impl_kind_first.lin 1000000 _ _).trans (by kernel_rfl)
theorem impl_kind_first.X_eq (kc0 kc1 : Int) : impl_kind_first.X (kc0, kc1) = impl_kind_first.T Pr.std some impl_langfordKind_1_v2.X kc0 kc1 := by
  show dec impl_kind_first.ret (impl_kind_first.Q (kc0, kc1)) = _
  rw [impl_kind_first.Q_eq]
  simp only [impl_kind_first.T, std_fi, std_fb, std_fl, std_fll, std_flll, std_flb, std_fh, dec_ite, dec_cond, dec_bind, dec_elim, dec_none, impl_kind_first.dc]
  try rfl
theorem impl_kind_first.T_mono {α : Type} {rt : (Bool × LI × Int × Int) → Option α} {call_0 call_0_ : (LI × Int × Int) → Option (LI × Int × Int)} (hcall_0 : ∀ x, Le (call_0 x) (call_0_ x)) {kc0 kc1 : Int} : Le (impl_kind_first.T Pr.std rt call_0 kc0 kc1) (impl_kind_first.T Pr.std rt call_0_ kc0 kc1) := by
  unfold impl_kind_first.T
  exact (Le.bind (hcall_0 _) (fun rr1 => Le.rfl'))
noncomputable def impl_kind_first.C (fu : Nat) (a : Int × Int) : Option (Bool × LI × Int × Int) := impl_kind_first.T Pr.quick some (impl_langfordKind_1_v2.C fu) a.1 a.2
theorem impl_kind_first.C_ok (fu : Nat) (hfu : fu ≤ 100000) (a : Int × Int) : Le (impl_kind_first.C fu a) (impl_kind_first.X a) := by
  obtain ⟨kc0, kc1⟩ := a
  show Le (impl_kind_first.T Pr.quick some (impl_langfordKind_1_v2.C fu) kc0 kc1) _
  rw [Pr.quick_eq, impl_kind_first.X_eq]
  exact impl_kind_first.T_mono (fun x => impl_langfordKind_1_v2.C_ok fu hfu x)
/-! ### loop.example/g01232/impl.FirstLangford -/
def impl_FirstLangford.s0 (a : Int × Int) : St := { slots := [.int .i64 a.1, .int .i64 a.2], rows := [], boxes := [] }
def impl_FirstLangford.pat : St → Option (Int × Int)
  | { slots := [.int .i64 n, .int .i64 d], rows := [], boxes := [], gd := [] } => some (n, d)
  | _ => none
theorem impl_FirstLangford.hp : ∀ st a, impl_FirstLangford.pat st = some a → st = impl_FirstLangford.s0 a := by
  intro st a h
  unfold impl_FirstLangford.pat at h
  split at h
  · cases h; rfl
  · cases h
def impl_FirstLangford.ret (r : Bool × LI) : R := ({ slots := [], rows := [(0, ⟨.int .i64, r.2⟩)], boxes := [] }, [.row 0, .bool r.1])
def impl_FirstLangford.ap (b : Bool × LI) (K : St → List V → Option R) : Option R := K (impl_FirstLangford.ret b).1 (impl_FirstLangford.ret b).2
theorem impl_FirstLangford.hap : ∀ b K, impl_FirstLangford.ap b K = K (impl_FirstLangford.ret b).1 (impl_FirstLangford.ret b).2 := fun _ _ => rfl
theorem impl_FirstLangford.inj : ∀ x y, impl_FirstLangford.ret x = impl_FirstLangford.ret y → x = y := by
  intro x y h
  obtain ⟨x1, x2⟩ := x; obtain ⟨y1, y2⟩ := y; cases h; rfl
theorem impl_FirstLangford.dc (x : Bool × LI) : dec impl_FirstLangford.ret (some (impl_FirstLangford.ret x)) = some x := dec_ret impl_FirstLangford.inj x
noncomputable def impl_FirstLangford.cx : Cx := { ty := TY, fns := [(45, impl_soughtFrom.E), (46, impl_langfordKind.E), (51, impl_kind_first.E)], nk := [], sharp := true }
noncomputable def impl_FirstLangford.body : Code := Go.Proofs.Try.f11.body.getD .skip
def impl_FirstLangford.fl : Fn := { loops := [], joins := [], nr := 0, nb := 0, rs := [.tmp 4, .tmp 5], pre := [(4, [some (.int .i64, false)])], mv := [], fz := [] }
noncomputable def impl_FirstLangford.Q (a : Int × Int) : Option R := eval impl_FirstLangford.cx impl_FirstLangford.fl [.code impl_FirstLangford.body] (start 16 (impl_FirstLangford.s0 a))
noncomputable def impl_FirstLangford.X (a : Int × Int) : Option (Bool × LI) := dec impl_FirstLangford.ret (impl_FirstLangford.Q a)
theorem impl_FirstLangford.fns : FnsOk Go.Proofs.Try.prog impl_FirstLangford.cx := show FnsL _ _ from (fns_cons impl_soughtFrom.ok (fns_cons impl_langfordKind.ok (fns_cons impl_kind_first.ok fns_nil)))
theorem impl_FirstLangford.lin : impl_FirstLangford.cx.Lin := Lin.of_fns impl_FirstLangford.fns
noncomputable def impl_FirstLangford.E : Entry := mkE [] impl_FirstLangford.pat impl_FirstLangford.X impl_FirstLangford.ap
theorem impl_FirstLangford.ok : EntOk Go.Proofs.Try.prog 11 impl_FirstLangford.E := mkE_ok (fun w args => Go.Proofs.Try.call11 args w) impl_FirstLangford.hp impl_FirstLangford.hap fun a b h => vc_of_X mixed (tyB_ok (cx := impl_FirstLangford.cx) tyOk) impl_FirstLangford.fns (fl := impl_FirstLangford.fl) Go.Proofs.Try.func11 (code := impl_FirstLangford.body) (by kernel_rfl) (n := 16) (by kernel_rfl) (by kernel_rfl) (by decide) (by decide) rfl rfl h
def impl_FirstLangford.T {α : Type} (pr : Pr) (rt : (Bool × LI) → Option α) (call_0 : (Int × Int) → Option (Bool)) (call_1 : (Int × Int) → Option (Int × Int)) (call_2 : (Int × Int) → Option (Bool × LI × Int × Int)) (n d : Int) : Option α :=
  (call_0 (n, d)).bind fun rr1 =>
    bif (!rr1) then
      rt (false, [])
    else
      (call_1 (n, d)).bind fun rr2 =>
        pr.fi rr2.1 fun y0 => pr.fi rr2.2 fun y1 => (call_2 (y0, y1)).bind fun rr3 =>
          pr.fb rr3.1 fun y0 => pr.fh rr3.2.1 fun y1 => rt (y0, y1)
theorem impl_FirstLangford.Q_eq (n d : Int) : impl_FirstLangford.Q (n, d) = impl_FirstLangford.T Pr.std (fun b => some (impl_FirstLangford.ret b)) impl_soughtFrom.X impl_langfordKind.X impl_kind_first.X n d := (eval_seg impl_FirstLangford.lin 1000000 _ _).trans (by kernel_rfl)
theorem impl_FirstLangford.X_eq (n d : Int) : impl_FirstLangford.X (n, d) = impl_FirstLangford.T Pr.std some impl_soughtFrom.X impl_langfordKind.X impl_kind_first.X n d := by
  show dec impl_FirstLangford.ret (impl_FirstLangford.Q (n, d)) = _
  rw [impl_FirstLangford.Q_eq]
  simp only [impl_FirstLangford.T, std_fi, std_fb, std_fl, std_fll, std_flll, std_flb, std_fh, dec_ite, dec_cond, dec_bind, dec_elim, dec_none, impl_FirstLangford.dc]
  try rfl
theorem impl_FirstLangford.T_mono {α : Type} {rt : (Bool × LI) → Option α} {call_0 call_0_ : (Int × Int) → Option (Bool)} (hcall_0 : ∀ x, Le (call_0 x) (call_0_ x)) {call_1 call_1_ : (Int × Int) → Option (Int × Int)} (hcall_1 : ∀ x, Le (call_1 x) (call_1_ x)) {call_2 call_2_ : (Int × Int) → Option (Bool × LI × Int × Int)} (hcall_2 : ∀ x, Le (call_2 x) (call_2_ x)) {n d : Int} : Le (impl_FirstLangford.T Pr.std rt call_0 call_1 call_2 n d) (impl_FirstLangford.T Pr.std rt call_0_ call_1_ call_2_ n d) := by
  unfold impl_FirstLangford.T
  exact (Le.bind (hcall_0 _) (fun rr1 => (Le.cond Le.rfl' (Le.bind (hcall_1 _) (fun rr2 => (Le.fi fun _ => (Le.fi fun _ => (Le.bind (hcall_2 _) (fun rr3 => Le.rfl')))))))))
noncomputable def impl_FirstLangford.C (fu : Nat) (a : Int × Int) : Option (Bool × LI) := impl_FirstLangford.T Pr.quick some (impl_soughtFrom.C fu) (impl_langfordKind.C fu) (impl_kind_first.C fu) a.1 a.2
theorem impl_FirstLangford.C_ok (fu : Nat) (hfu : fu ≤ 100000) (a : Int × Int) : Le (impl_FirstLangford.C fu a) (impl_FirstLangford.X a) := by
  obtain ⟨n, d⟩ := a
  show Le (impl_FirstLangford.T Pr.quick some (impl_soughtFrom.C fu) (impl_langfordKind.C fu) (impl_kind_first.C fu) n d) _
  rw [Pr.quick_eq, impl_FirstLangford.X_eq]
  exact impl_FirstLangford.T_mono (fun x => impl_soughtFrom.C_ok fu hfu x) (fun x => impl_langfordKind.C_ok fu hfu x) (fun x => impl_kind_first.C_ok fu hfu x)
/-! ### loop.example/g01232/spec.seFirst -/
def spec_seFirst.s0 (a : LI × LLI × Int × Int × Int × Int × Int × Int × Int) : St := { slots := [.ptr 0 0], rows := [(0, ⟨.int .i64, a.1⟩), (1, ⟨.sl (.int .i64), a.2.1⟩)], boxes := [(0, [.row 0, .int .i64 a.2.2.1, .int .i64 a.2.2.2.1, .int .i64 a.2.2.2.2.1, .int .i64 a.2.2.2.2.2.1, .int .i64 a.2.2.2.2.2.2.1, .int .i64 a.2.2.2.2.2.2.2.1, .int .i64 a.2.2.2.2.2.2.2.2, .row 1])] }
def spec_seFirst.pat : St → Option (LI × LLI × Int × Int × Int × Int × Int × Int × Int)
  | { slots := [.ptr 0 0], rows := [(0, ⟨.int .i64, l_0⟩), (1, ⟨.sl (.int .i64), l_8⟩)], boxes := [(0, [.row 0, .int .i64 l_1, .int .i64 l_2, .int .i64 l_3, .int .i64 l_4, .int .i64 l_5, .int .i64 l_6, .int .i64 l_7, .row 1])], gd := [] } => some (l_0, l_8, l_1, l_2, l_3, l_4, l_5, l_6, l_7)
  | _ => none
theorem spec_seFirst.hp : ∀ st a, spec_seFirst.pat st = some a → st = spec_seFirst.s0 a := by
  intro st a h
  unfold spec_seFirst.pat at h
  split at h
  · cases h; rfl
  · cases h
def spec_seFirst.ret (r : LI × Bool × LI × LLI × Int × Int × Int × Int × Int × Int × Int) : R := ({ slots := [], rows := [(2, ⟨.int .i64, r.2.2.1⟩), (3, ⟨.sl (.int .i64), r.2.2.2.1⟩)], boxes := [(0, [.row 2, .int .i64 r.2.2.2.2.1, .int .i64 r.2.2.2.2.2.1, .int .i64 r.2.2.2.2.2.2.1, .int .i64 r.2.2.2.2.2.2.2.1, .int .i64 r.2.2.2.2.2.2.2.2.1, .int .i64 r.2.2.2.2.2.2.2.2.2.1, .int .i64 r.2.2.2.2.2.2.2.2.2.2, .row 3])] }, [.sl (.int .i64) r.1, .bool r.2.1])
def spec_seFirst.ap (b : LI × Bool × LI × LLI × Int × Int × Int × Int × Int × Int × Int) (K : St → List V → Option R) : Option R := K (spec_seFirst.ret b).1 (spec_seFirst.ret b).2
theorem spec_seFirst.hap : ∀ b K, spec_seFirst.ap b K = K (spec_seFirst.ret b).1 (spec_seFirst.ret b).2 := fun _ _ => rfl
theorem spec_seFirst.inj : ∀ x y, spec_seFirst.ret x = spec_seFirst.ret y → x = y := by
  intro x y h
  obtain ⟨x1, x2, x3, x4, x5, x6, x7, x8, x9, x10, x11⟩ := x; obtain ⟨y1, y2, y3, y4, y5, y6, y7, y8, y9, y10, y11⟩ := y; cases h; rfl
theorem spec_seFirst.dc (x : LI × Bool × LI × LLI × Int × Int × Int × Int × Int × Int × Int) : dec spec_seFirst.ret (some (spec_seFirst.ret x)) = some x := dec_ret spec_seFirst.inj x
noncomputable def spec_seFirst.cx : Cx := { ty := TY, fns := [], nk := [], sharp := true }
noncomputable def spec_seFirst.body : Code := Go.Proofs.Try.f52.body.getD .skip
def spec_seFirst.fl : Fn := { loops := [], joins := [], nr := 2, nb := 1, rs := [.tmp 2, .tmp 3], pre := [(2, [some (.int .i64, true)])], mv := [0, 1], fz := [] }
noncomputable def spec_seFirst.Q (a : LI × LLI × Int × Int × Int × Int × Int × Int × Int) : Option R := eval spec_seFirst.cx spec_seFirst.fl [.code spec_seFirst.body] (start 15 (spec_seFirst.s0 a))
noncomputable def spec_seFirst.X (a : LI × LLI × Int × Int × Int × Int × Int × Int × Int) : Option (LI × Bool × LI × LLI × Int × Int × Int × Int × Int × Int × Int) := dec spec_seFirst.ret (spec_seFirst.Q a)
theorem spec_seFirst.fns : FnsOk Go.Proofs.Try.prog spec_seFirst.cx := show FnsL _ _ from fns_nil
theorem spec_seFirst.lin : spec_seFirst.cx.Lin := Lin.of_fns spec_seFirst.fns
noncomputable def spec_seFirst.E : Entry := mkE [[true]] spec_seFirst.pat spec_seFirst.X spec_seFirst.ap
theorem spec_seFirst.ok : EntOk Go.Proofs.Try.prog 52 spec_seFirst.E := mkE_ok (fun w args => Go.Proofs.Try.call52 args w) spec_seFirst.hp spec_seFirst.hap fun a b h => vc_of_X mixed (tyB_ok (cx := spec_seFirst.cx) tyOk) spec_seFirst.fns (fl := spec_seFirst.fl) Go.Proofs.Try.func52 (code := spec_seFirst.body) (by kernel_rfl) (n := 15) (by kernel_rfl) (by kernel_rfl) (by decide) (by decide) rfl rfl h
def spec_seFirst.T {α : Type} (pr : Pr) (rt : (LI × Bool × LI × LLI × Int × Int × Int × Int × Int × Int × Int) → Option α) (l_0 : LI) (l_8 : LLI) (l_1 l_2 l_3 l_4 l_5 l_6 l_7 : Int) : Option α :=
  bif (pr.eq l_7 0) then
    rt ([], false, l_0, l_8, l_1, l_2, l_3, l_4, l_5, l_6, l_7)
  else
    if (pr.inR 0 l_8.length) then
      if (pr.nlt 0 l_8.length) then
        pr.fl (pr.gd l_8 0 []) fun y0 => rt (y0, true, l_0, l_8, l_1, l_2, l_3, l_4, l_5, l_6, l_7)
      else
        none
    else
      none
theorem spec_seFirst.Q_eq (l_0 : LI) (l_8 : LLI) (l_1 l_2 l_3 l_4 l_5 l_6 l_7 : Int) : spec_seFirst.Q (l_0, l_8, l_1, l_2, l_3, l_4, l_5, l_6, l_7) = spec_seFirst.T Pr.std (fun b => some (spec_seFirst.ret b)) l_0 l_8 l_1 l_2 l_3 l_4 l_5 l_6 l_7 := (eval_seg spec_seFirst.lin 1000000 _ _).trans (by kernel_rfl)
theorem spec_seFirst.X_eq (l_0 : LI) (l_8 : LLI) (l_1 l_2 l_3 l_4 l_5 l_6 l_7 : Int) : spec_seFirst.X (l_0, l_8, l_1, l_2, l_3, l_4, l_5, l_6, l_7) = spec_seFirst.T Pr.std some l_0 l_8 l_1 l_2 l_3 l_4 l_5 l_6 l_7 := by
  show dec spec_seFirst.ret (spec_seFirst.Q (l_0, l_8, l_1, l_2, l_3, l_4, l_5, l_6, l_7)) = _
  rw [spec_seFirst.Q_eq]
  simp only [spec_seFirst.T, std_fi, std_fb, std_fl, std_fll, std_flll, std_flb, std_fh, dec_ite, dec_cond, dec_bind, dec_elim, dec_none, spec_seFirst.dc]
  try rfl
theorem spec_seFirst.T_mono {α : Type} {rt : (LI × Bool × LI × LLI × Int × Int × Int × Int × Int × Int × Int) → Option α} {l_0 : LI} {l_8 : LLI} {l_1 l_2 l_3 l_4 l_5 l_6 l_7 : Int} : Le (spec_seFirst.T Pr.std rt l_0 l_8 l_1 l_2 l_3 l_4 l_5 l_6 l_7) (spec_seFirst.T Pr.std rt l_0 l_8 l_1 l_2 l_3 l_4 l_5 l_6 l_7) := by
  unfold spec_seFirst.T
  exact (Le.cond Le.rfl' (Le.ite (Le.ite Le.rfl' Le.rfl') Le.rfl'))
noncomputable def spec_seFirst.C (fu : Nat) (a : LI × LLI × Int × Int × Int × Int × Int × Int × Int) : Option (LI × Bool × LI × LLI × Int × Int × Int × Int × Int × Int × Int) := spec_seFirst.T Pr.quick some a.1 a.2.1 a.2.2.1 a.2.2.2.1 a.2.2.2.2.1 a.2.2.2.2.2.1 a.2.2.2.2.2.2.1 a.2.2.2.2.2.2.2.1 a.2.2.2.2.2.2.2.2
theorem spec_seFirst.C_ok (fu : Nat) (hfu : fu ≤ 100000) (a : LI × LLI × Int × Int × Int × Int × Int × Int × Int) : Le (spec_seFirst.C fu a) (spec_seFirst.X a) := by
  obtain ⟨l_0, l_8, l_1, l_2, l_3, l_4, l_5, l_6, l_7⟩ := a
  show Le (spec_seFirst.T Pr.quick some l_0 l_8 l_1 l_2 l_3 l_4 l_5 l_6 l_7) _
  rw [Pr.quick_eq, spec_seFirst.X_eq]
  exact spec_seFirst.T_mono
/-! ### loop.example/g01232/spec.FirstLangford -/
def spec_FirstLangford.s0 (a : Int × Int) : St := { slots := [.int .i64 a.1, .int .i64 a.2], rows := [], boxes := [] }
def spec_FirstLangford.pat : St → Option (Int × Int)
  | { slots := [.int .i64 n, .int .i64 d], rows := [], boxes := [], gd := [] } => some (n, d)
  | _ => none
theorem spec_FirstLangford.hp : ∀ st a, spec_FirstLangford.pat st = some a → st = spec_FirstLangford.s0 a := by
  intro st a h
  unfold spec_FirstLangford.pat at h
  split at h
  · cases h; rfl
  · cases h
def spec_FirstLangford.ret (r : LI × Bool) : R := ({ slots := [], rows := [], boxes := [] }, [.sl (.int .i64) r.1, .bool r.2])
def spec_FirstLangford.ap (b : LI × Bool) (K : St → List V → Option R) : Option R := K (spec_FirstLangford.ret b).1 (spec_FirstLangford.ret b).2
theorem spec_FirstLangford.hap : ∀ b K, spec_FirstLangford.ap b K = K (spec_FirstLangford.ret b).1 (spec_FirstLangford.ret b).2 := fun _ _ => rfl
theorem spec_FirstLangford.inj : ∀ x y, spec_FirstLangford.ret x = spec_FirstLangford.ret y → x = y := by
  intro x y h
  obtain ⟨x1, x2⟩ := x; obtain ⟨y1, y2⟩ := y; cases h; rfl
theorem spec_FirstLangford.dc (x : LI × Bool) : dec spec_FirstLangford.ret (some (spec_FirstLangford.ret x)) = some x := dec_ret spec_FirstLangford.inj x
noncomputable def spec_FirstLangford.cx : Cx := { ty := TY, fns := [(48, spec_seLangford.E), (52, spec_seFirst.E)], nk := [], sharp := true }
noncomputable def spec_FirstLangford.body : Code := Go.Proofs.Try.f12.body.getD .skip
def spec_FirstLangford.fl : Fn := { loops := [], joins := [], nr := 0, nb := 0, rs := [.tmp 4, .tmp 5], pre := [(4, [some (.int .i64, true)])], mv := [], fz := [] }
noncomputable def spec_FirstLangford.Q (a : Int × Int) : Option R := eval spec_FirstLangford.cx spec_FirstLangford.fl [.code spec_FirstLangford.body] (start 20 (spec_FirstLangford.s0 a))
noncomputable def spec_FirstLangford.X (a : Int × Int) : Option (LI × Bool) := dec spec_FirstLangford.ret (spec_FirstLangford.Q a)
theorem spec_FirstLangford.fns : FnsOk Go.Proofs.Try.prog spec_FirstLangford.cx := show FnsL _ _ from (fns_cons spec_seLangford.ok (fns_cons spec_seFirst.ok fns_nil))
theorem spec_FirstLangford.lin : spec_FirstLangford.cx.Lin := Lin.of_fns spec_FirstLangford.fns
noncomputable def spec_FirstLangford.E : Entry := mkE [] spec_FirstLangford.pat spec_FirstLangford.X spec_FirstLangford.ap
theorem spec_FirstLangford.ok : EntOk Go.Proofs.Try.prog 12 spec_FirstLangford.E := mkE_ok (fun w args => Go.Proofs.Try.call12 args w) spec_FirstLangford.hp spec_FirstLangford.hap fun a b h => vc_of_X mixed (tyB_ok (cx := spec_FirstLangford.cx) tyOk) spec_FirstLangford.fns (fl := spec_FirstLangford.fl) Go.Proofs.Try.func12 (code := spec_FirstLangford.body) (by kernel_rfl) (n := 20) (by kernel_rfl) (by kernel_rfl) (by decide) (by decide) rfl rfl h
def spec_FirstLangford.T {α : Type} (pr : Pr) (rt : (LI × Bool) → Option α) (call_0 : (Int × Int × Int) → Option ((Bool) ⊕ (Bool × LI × LLI × Int × Int × Int × Int × Int × Int × Int))) (call_1 : (LI × LLI × Int × Int × Int × Int × Int × Int × Int) → Option (LI × Bool × LI × LLI × Int × Int × Int × Int × Int × Int × Int)) (n d : Int) : Option α :=
  (call_0 (n, d, 1)).bind (Sum.elim (fun rr1 =>
      bif (!rr1) then
        rt ([], false)
      else
        none)
    (fun rr1 =>
        bif (!rr1.1) then
          rt ([], false)
        else
          pr.fh rr1.2.1 fun y0 => pr.fh rr1.2.2.1 fun y1 => pr.fi rr1.2.2.2.1 fun y2 => pr.fi rr1.2.2.2.2.1 fun y3 => pr.fi rr1.2.2.2.2.2.1 fun y4 => pr.fi rr1.2.2.2.2.2.2.1 fun y5 => pr.fi rr1.2.2.2.2.2.2.2.1 fun y6 => pr.fi rr1.2.2.2.2.2.2.2.2.1 fun y7 => pr.fi rr1.2.2.2.2.2.2.2.2.2 fun y8 => (call_1 (y0, y1, y2, y3, y4, y5, y6, y7, y8)).bind fun rr2 =>
            pr.fh rr2.1 fun y0 => pr.fb rr2.2.1 fun y1 => rt (y0, y1)))
theorem spec_FirstLangford.Q_eq (n d : Int) : spec_FirstLangford.Q (n, d) = spec_FirstLangford.T Pr.std (fun b => some (spec_FirstLangford.ret b)) spec_seLangford.X spec_seFirst.X n d := (eval_seg spec_FirstLangford.lin 1000000 _ _).trans (by kernel_rfl)
theorem spec_FirstLangford.X_eq (n d : Int) : spec_FirstLangford.X (n, d) = spec_FirstLangford.T Pr.std some spec_seLangford.X spec_seFirst.X n d := by
  show dec spec_FirstLangford.ret (spec_FirstLangford.Q (n, d)) = _
  rw [spec_FirstLangford.Q_eq]
  simp only [spec_FirstLangford.T, std_fi, std_fb, std_fl, std_fll, std_flll, std_flb, std_fh, dec_ite, dec_cond, dec_bind, dec_elim, dec_none, spec_FirstLangford.dc]
  try rfl
theorem spec_FirstLangford.T_mono {α : Type} {rt : (LI × Bool) → Option α} {call_0 call_0_ : (Int × Int × Int) → Option ((Bool) ⊕ (Bool × LI × LLI × Int × Int × Int × Int × Int × Int × Int))} (hcall_0 : ∀ x, Le (call_0 x) (call_0_ x)) {call_1 call_1_ : (LI × LLI × Int × Int × Int × Int × Int × Int × Int) → Option (LI × Bool × LI × LLI × Int × Int × Int × Int × Int × Int × Int)} (hcall_1 : ∀ x, Le (call_1 x) (call_1_ x)) {n d : Int} : Le (spec_FirstLangford.T Pr.std rt call_0 call_1 n d) (spec_FirstLangford.T Pr.std rt call_0_ call_1_ n d) := by
  unfold spec_FirstLangford.T
  exact (Le.bind (hcall_0 _) (fun _ => Le.elim (fun rr1 => (Le.cond Le.rfl' Le.rfl')) (fun rr1 => (Le.cond Le.rfl' (Le.fh fun _ => (Le.fh fun _ => (Le.fi fun _ => (Le.fi fun _ => (Le.fi fun _ => (Le.fi fun _ => (Le.fi fun _ => (Le.fi fun _ => (Le.fi fun _ => (Le.bind (hcall_1 _) (fun rr2 => Le.rfl')))))))))))))))
noncomputable def spec_FirstLangford.C (fu : Nat) (a : Int × Int) : Option (LI × Bool) := spec_FirstLangford.T Pr.quick some (spec_seLangford.C fu) (spec_seFirst.C fu) a.1 a.2
theorem spec_FirstLangford.C_ok (fu : Nat) (hfu : fu ≤ 100000) (a : Int × Int) : Le (spec_FirstLangford.C fu a) (spec_FirstLangford.X a) := by
  obtain ⟨n, d⟩ := a
  show Le (spec_FirstLangford.T Pr.quick some (spec_seLangford.C fu) (spec_seFirst.C fu) n d) _
  rw [Pr.quick_eq, spec_FirstLangford.X_eq]
  exact spec_FirstLangford.T_mono (fun x => spec_seLangford.C_ok fu hfu x) (fun x => spec_seFirst.C_ok fu hfu x)
end Go.VS
