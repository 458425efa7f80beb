/- printed by gen.py: a part of the walk through the program. No condition. -/
import Derived.Test.YtnibmainjgcmaaaG4
set_option linter.unusedVariables false
set_option linter.unusedSimpArgs false
set_option maxRecDepth 100000
namespace Go.VS
/-! ### loop.example/g01232/spec.seAll -/
def spec_seAll.s0 (a : Int × Int × Int × Int × Int) : St := { slots := [.int .i64 a.1, .int .i64 a.2.1, .int .i64 a.2.2.1, .int .i64 a.2.2.2.1, .int .i64 a.2.2.2.2], rows := [], boxes := [] }
def spec_seAll.pat : St → Option (Int × Int × Int × Int × Int)
  | { slots := [.int .i64 from0, .int .i64 to, .int .i64 shift, .int .i64 hole, .int .i64 most], rows := [], boxes := [], gd := [] } => some (from0, to, shift, hole, most)
  | _ => none
theorem spec_seAll.hp : ∀ st a, spec_seAll.pat st = some a → st = spec_seAll.s0 a := by
  intro st a h
  unfold spec_seAll.pat at h
  split at h
  · cases h; rfl
  · cases h
def spec_seAll.ret (r : LI × LLI × Int × Int × Int × Int × Int × Int × Int) : R := ({ slots := [], rows := [(0, ⟨.int .i64, r.1⟩), (1, ⟨.sl (.int .i64), r.2.1⟩)], boxes := [(0, [.row 0, .int .i64 r.2.2.1, .int .i64 r.2.2.2.1, .int .i64 r.2.2.2.2.1, .int .i64 r.2.2.2.2.2.1, .int .i64 r.2.2.2.2.2.2.1, .int .i64 r.2.2.2.2.2.2.2.1, .int .i64 r.2.2.2.2.2.2.2.2, .row 1])] }, [.ptr 0 0])
def spec_seAll.ap (b : LI × LLI × Int × Int × Int × Int × Int × Int × Int) (K : St → List V → Option R) : Option R := K (spec_seAll.ret b).1 (spec_seAll.ret b).2
theorem spec_seAll.hap : ∀ b K, spec_seAll.ap b K = K (spec_seAll.ret b).1 (spec_seAll.ret b).2 := fun _ _ => rfl
theorem spec_seAll.inj : ∀ x y, spec_seAll.ret x = spec_seAll.ret y → x = y := by
  intro x y h
  obtain ⟨x1, x2, x3, x4, x5, x6, x7, x8, x9⟩ := x; obtain ⟨y1, y2, y3, y4, y5, y6, y7, y8, y9⟩ := y; cases h; rfl
theorem spec_seAll.dc (x : LI × LLI × Int × Int × Int × Int × Int × Int × Int) : dec spec_seAll.ret (some (spec_seAll.ret x)) = some x := dec_ret spec_seAll.inj x
noncomputable def spec_seAll.cx : Cx := { ty := TY, fns := [(100, spec_seLook_look.E)], nk := [(1030, [some (.int .i64), none, none, none, none, none, none, none, some (.sl (.int .i64))])], sharp := true }
noncomputable def spec_seAll.body : Code := Go.Proofs.Try.f83.body.getD .skip
def spec_seAll.fl : Fn := { loops := [], joins := [], nr := 0, nb := 0, rs := [.tmp 10], pre := [], mv := [], fz := [] }
noncomputable def spec_seAll.Q (a : Int × Int × Int × Int × Int) : Option R := eval spec_seAll.cx spec_seAll.fl [.code spec_seAll.body] (start 34 (spec_seAll.s0 a))
noncomputable def spec_seAll.X (a : Int × Int × Int × Int × Int) : Option (LI × LLI × Int × Int × Int × Int × Int × Int × Int) := dec spec_seAll.ret (spec_seAll.Q a)
theorem spec_seAll.fns : FnsOk Go.Proofs.Try.prog spec_seAll.cx := show FnsL _ _ from (fns_cons spec_seLook_look.ok fns_nil)
theorem spec_seAll.lin : spec_seAll.cx.Lin := Lin.of_fns spec_seAll.fns
noncomputable def spec_seAll.E : Entry := mkE [] spec_seAll.pat spec_seAll.X spec_seAll.ap
theorem spec_seAll.ok : EntOk Go.Proofs.Try.prog 83 spec_seAll.E := mkE_ok (fun w args => Go.Proofs.Try.call83 args w) spec_seAll.hp spec_seAll.hap fun a b h => vc_of_X mixed (tyB_ok (cx := spec_seAll.cx) tyOk) spec_seAll.fns (fl := spec_seAll.fl) Go.Proofs.Try.func83 (code := spec_seAll.body) (by kernel_rfl) (n := 34) (by kernel_rfl) (by kernel_rfl) (by decide) (by decide) rfl rfl h
def spec_seAll.T {α : Type} (pr : Pr) (rt : (LI × LLI × Int × Int × Int × Int × Int × Int × Int) → Option α) (call_0 : (LI × LLI × Int × Int × Int × Int × Int × Int × Int) → Option (LI × LLI × Int × Int × Int × Int × Int × Int × Int)) (from0 to shift hole most : Int) : Option α :=
  bif (pr.ge hole 0) then
    if (((pr.le 0 (pr.wr .i64 ((pr.wr .i64 ((2 : Int) * (pr.wr .i64 ((pr.wr .i64 (to - from0)) + 1)))) + 1))) && (pr.le (pr.wr .i64 ((pr.wr .i64 ((2 : Int) * (pr.wr .i64 ((pr.wr .i64 (to - from0)) + 1)))) + 1)) (pr.wr .i64 ((pr.wr .i64 ((2 : Int) * (pr.wr .i64 ((pr.wr .i64 (to - from0)) + 1)))) + 1)))) && (pr.lt (pr.wr .i64 ((pr.wr .i64 ((2 : Int) * (pr.wr .i64 ((pr.wr .i64 (to - from0)) + 1)))) + 1)) ((8796093022208 : Nat) : Int))) then
      pr.fl (List.replicate ((pr.wr .i64 ((pr.wr .i64 ((2 : Int) * (pr.wr .i64 ((pr.wr .i64 (to - from0)) + 1)))) + 1))).toNat (0 : Int)) fun y0 => (call_0 (y0, [], from0, to, shift, hole, 0, most, 0)).bind fun rr1 =>
        pr.fh rr1.1 fun y0 => pr.fh rr1.2.1 fun y1 => pr.fi rr1.2.2.1 fun y2 => pr.fi rr1.2.2.2.1 fun y3 => pr.fi rr1.2.2.2.2.1 fun y4 => pr.fi rr1.2.2.2.2.2.1 fun y5 => pr.fi rr1.2.2.2.2.2.2.1 fun y6 => pr.fi rr1.2.2.2.2.2.2.2.1 fun y7 => pr.fi rr1.2.2.2.2.2.2.2.2 fun y8 => rt (y0, y1, y2, y3, y4, y5, y6, y7, y8)
    else
      none
  else
    if (((pr.le 0 (pr.wr .i64 ((2 : Int) * (pr.wr .i64 ((pr.wr .i64 (to - from0)) + 1))))) && (pr.le (pr.wr .i64 ((2 : Int) * (pr.wr .i64 ((pr.wr .i64 (to - from0)) + 1)))) (pr.wr .i64 ((2 : Int) * (pr.wr .i64 ((pr.wr .i64 (to - from0)) + 1)))))) && (pr.lt (pr.wr .i64 ((2 : Int) * (pr.wr .i64 ((pr.wr .i64 (to - from0)) + 1)))) ((8796093022208 : Nat) : Int))) then
      pr.fl (List.replicate ((pr.wr .i64 ((2 : Int) * (pr.wr .i64 ((pr.wr .i64 (to - from0)) + 1))))).toNat (0 : Int)) fun y0 => (call_0 (y0, [], from0, to, shift, hole, 0, most, 0)).bind fun rr2 =>
        pr.fh rr2.1 fun y0 => pr.fh rr2.2.1 fun y1 => pr.fi rr2.2.2.1 fun y2 => pr.fi rr2.2.2.2.1 fun y3 => pr.fi rr2.2.2.2.2.1 fun y4 => pr.fi rr2.2.2.2.2.2.1 fun y5 => pr.fi rr2.2.2.2.2.2.2.1 fun y6 => pr.fi rr2.2.2.2.2.2.2.2.1 fun y7 => pr.fi rr2.2.2.2.2.2.2.2.2 fun y8 => rt (y0, y1, y2, y3, y4, y5, y6, y7, y8)
    else
      none
theorem spec_seAll.Q_eq (from0 to shift hole most : Int) : spec_seAll.Q (from0, to, shift, hole, most) = spec_seAll.T Pr.std (fun b => some (spec_seAll.ret b)) spec_seLook_look.XX from0 to shift hole most := (eval_seg spec_seAll.lin 1000000 _ _).trans (by kernel_rfl)
theorem spec_seAll.X_eq (from0 to shift hole most : Int) : spec_seAll.X (from0, to, shift, hole, most) = spec_seAll.T Pr.std some spec_seLook_look.XX from0 to shift hole most := by
  show dec spec_seAll.ret (spec_seAll.Q (from0, to, shift, hole, most)) = _
  rw [spec_seAll.Q_eq]
  simp only [spec_seAll.T, std_fi, std_fb, std_fl, std_fll, std_flll, std_flb, std_fh, dec_ite, dec_cond, dec_bind, dec_elim, dec_none, spec_seAll.dc]
  try rfl
theorem spec_seAll.T_mono {α : Type} {rt : (LI × LLI × Int × Int × Int × Int × Int × Int × Int) → Option α} {call_0 call_0_ : (LI × LLI × Int × Int × Int × Int × Int × Int × Int) → Option (LI × LLI × Int × Int × Int × Int × Int × Int × Int)} (hcall_0 : ∀ x, Le (call_0 x) (call_0_ x)) {from0 to shift hole most : Int} : Le (spec_seAll.T Pr.std rt call_0 from0 to shift hole most) (spec_seAll.T Pr.std rt call_0_ from0 to shift hole most) := by
  unfold spec_seAll.T
  exact (Le.cond (Le.ite (Le.fl fun _ => (Le.bind (hcall_0 _) (fun rr1 => Le.rfl'))) Le.rfl') (Le.ite (Le.fl fun _ => (Le.bind (hcall_0 _) (fun rr2 => Le.rfl'))) Le.rfl'))
noncomputable def spec_seAll.C (fu : Nat) (a : Int × Int × Int × Int × Int) : Option (LI × LLI × Int × Int × Int × Int × Int × Int × Int) := spec_seAll.T Pr.quick some (spec_seLook_look.C fu) a.1 a.2.1 a.2.2.1 a.2.2.2.1 a.2.2.2.2
theorem spec_seAll.C_ok (fu : Nat) (hfu : fu ≤ 100000) (a : Int × Int × Int × Int × Int) : Le (spec_seAll.C fu a) (spec_seAll.X a) := by
  obtain ⟨from0, to, shift, hole, most⟩ := a
  show Le (spec_seAll.T Pr.quick some (spec_seLook_look.C fu) from0 to shift hole most) _
  rw [Pr.quick_eq, spec_seAll.X_eq]
  exact spec_seAll.T_mono (fun x => spec_seLook_look.C_ok fu hfu x)
/-! ### loop.example/g01232/spec.seLangford -/
def spec_seLangford.s0 (a : Int × Int × Int) : St := { slots := [.int .i64 a.1, .int .i64 a.2.1, .int .i64 a.2.2], rows := [], boxes := [] }
def spec_seLangford.pat : St → Option (Int × Int × Int)
  | { slots := [.int .i64 n, .int .i64 d, .int .i64 most], rows := [], boxes := [], gd := [] } => some (n, d, most)
  | _ => none
theorem spec_seLangford.hp : ∀ st a, spec_seLangford.pat st = some a → st = spec_seLangford.s0 a := by
  intro st a h
  unfold spec_seLangford.pat at h
  split at h
  · cases h; rfl
  · cases h
def spec_seLangford.ret0 (r : Bool) : R := ({ slots := [], rows := [], boxes := [] }, [.dead, .bool r])
def spec_seLangford.ret1 (r : Bool × LI × LLI × Int × Int × Int × Int × Int × Int × Int) : R := ({ slots := [], rows := [(0, ⟨.int .i64, r.2.1⟩), (1, ⟨.sl (.int .i64), r.2.2.1⟩)], boxes := [(0, [.row 0, .int .i64 r.2.2.2.1, .int .i64 r.2.2.2.2.1, .int .i64 r.2.2.2.2.2.1, .int .i64 r.2.2.2.2.2.2.1, .int .i64 r.2.2.2.2.2.2.2.1, .int .i64 r.2.2.2.2.2.2.2.2.1, .int .i64 r.2.2.2.2.2.2.2.2.2, .row 1])] }, [.ptr 0 0, .bool r.1])
def spec_seLangford.ret (r : (Bool) ⊕ (Bool × LI × LLI × Int × Int × Int × Int × Int × Int × Int)) : R := Sum.elim (spec_seLangford.ret0) (spec_seLangford.ret1) r
def spec_seLangford.ap (b : (Bool) ⊕ (Bool × LI × LLI × Int × Int × Int × Int × Int × Int × Int)) (K : St → List V → Option R) : Option R := Sum.elim (fun r => K (spec_seLangford.ret0 r).1 (spec_seLangford.ret0 r).2) (fun r => K (spec_seLangford.ret1 r).1 (spec_seLangford.ret1 r).2) b
theorem spec_seLangford.hap : ∀ b K, spec_seLangford.ap b K = K (spec_seLangford.ret b).1 (spec_seLangford.ret b).2 := by
  intro b K
  rcases b with _ | _ <;> rfl
theorem spec_seLangford.inj : ∀ x y, spec_seLangford.ret x = spec_seLangford.ret y → x = y := by
  intro x y h
  rcases x with _ | ⟨_, _, _, _, _, _, _, _, _, _⟩ <;> rcases y with _ | ⟨_, _, _, _, _, _, _, _, _, _⟩ <;> first | (cases h; rfl) | (cases h)
theorem spec_seLangford.dc (x : (Bool) ⊕ (Bool × LI × LLI × Int × Int × Int × Int × Int × Int × Int)) : dec spec_seLangford.ret (some (spec_seLangford.ret x)) = some x := dec_ret spec_seLangford.inj x
noncomputable def spec_seLangford.cx : Cx := { ty := TY, fns := [(81, spec_seSought.E), (82, spec_seN.E), (83, spec_seAll.E)], nk := [], sharp := true }
noncomputable def spec_seLangford.body : Code := Go.Proofs.Try.f48.body.getD .skip
def spec_seLangford.fl : Fn := { loops := [], joins := [], nr := 0, nb := 0, rs := [.tmp 6, .tmp 7], pre := [], mv := [], fz := [] }
noncomputable def spec_seLangford.Q (a : Int × Int × Int) : Option R := eval spec_seLangford.cx spec_seLangford.fl [.code spec_seLangford.body] (start 29 (spec_seLangford.s0 a))
noncomputable def spec_seLangford.X (a : Int × Int × Int) : Option ((Bool) ⊕ (Bool × LI × LLI × Int × Int × Int × Int × Int × Int × Int)) := dec spec_seLangford.ret (spec_seLangford.Q a)
theorem spec_seLangford.fns : FnsOk Go.Proofs.Try.prog spec_seLangford.cx := show FnsL _ _ from (fns_cons spec_seSought.ok (fns_cons spec_seN.ok (fns_cons spec_seAll.ok fns_nil)))
theorem spec_seLangford.lin : spec_seLangford.cx.Lin := Lin.of_fns spec_seLangford.fns
noncomputable def spec_seLangford.E : Entry := mkE [] spec_seLangford.pat spec_seLangford.X spec_seLangford.ap
theorem spec_seLangford.ok : EntOk Go.Proofs.Try.prog 48 spec_seLangford.E := mkE_ok (fun w args => Go.Proofs.Try.call48 args w) spec_seLangford.hp spec_seLangford.hap fun a b h => vc_of_X mixed (tyB_ok (cx := spec_seLangford.cx) tyOk) spec_seLangford.fns (fl := spec_seLangford.fl) Go.Proofs.Try.func48 (code := spec_seLangford.body) (by kernel_rfl) (n := 29) (by kernel_rfl) (by kernel_rfl) (by decide) (by decide) rfl rfl h
def spec_seLangford.T {α : Type} (pr : Pr) (rt : ((Bool) ⊕ (Bool × LI × LLI × Int × Int × Int × Int × Int × Int × Int)) → Option α) (call_0 : (Int) → Option (Bool)) (call_1 : (Int) → Option (Bool)) (call_2 : (Int × Int × Int × Int × Int) → Option (LI × LLI × Int × Int × Int × Int × Int × Int × Int)) (n d most : Int) : Option α :=
  (call_0 n).bind fun rr1 =>
    if (!(!rr1)) then
      (call_1 d).bind fun rr2 =>
        if (!(!rr2)) then
          bif (pr.gt (pr.wr .i64 (d + n)) 20) then
            rt (Sum.inl false)
          else
            pr.fi (pr.wr .i64 ((pr.wr .i64 (d + n)) - 1)) fun y1 => (call_2 (d, y1, 1, (-1), most)).bind fun rr3 =>
              pr.fh rr3.1 fun y1 => pr.fh rr3.2.1 fun y2 => pr.fi rr3.2.2.1 fun y3 => pr.fi rr3.2.2.2.1 fun y4 => pr.fi rr3.2.2.2.2.1 fun y5 => pr.fi rr3.2.2.2.2.2.1 fun y6 => pr.fi rr3.2.2.2.2.2.2.1 fun y7 => pr.fi rr3.2.2.2.2.2.2.2.1 fun y8 => pr.fi rr3.2.2.2.2.2.2.2.2 fun y9 => rt (Sum.inr (true, y1, y2, y3, y4, y5, y6, y7, y8, y9))
        else
          rt (Sum.inl false)
    else
      rt (Sum.inl false)
theorem spec_seLangford.Q_eq (n d most : Int) : spec_seLangford.Q (n, d, most) = spec_seLangford.T Pr.std (fun b => some (spec_seLangford.ret b)) spec_seSought.X spec_seN.X spec_seAll.X n d most := (eval_seg spec_seLangford.lin 1000000 _ _).trans (by kernel_rfl)
theorem spec_seLangford.X_eq (n d most : Int) : spec_seLangford.X (n, d, most) = spec_seLangford.T Pr.std some spec_seSought.X spec_seN.X spec_seAll.X n d most := by
  show dec spec_seLangford.ret (spec_seLangford.Q (n, d, most)) = _
  rw [spec_seLangford.Q_eq]
  simp only [spec_seLangford.T, std_fi, std_fb, std_fl, std_fll, std_flll, std_flb, std_fh, dec_ite, dec_cond, dec_bind, dec_elim, dec_none, spec_seLangford.dc]
  try rfl
theorem spec_seLangford.T_mono {α : Type} {rt : ((Bool) ⊕ (Bool × LI × LLI × Int × Int × Int × Int × Int × Int × Int)) → Option α} {call_0 call_0_ : (Int) → Option (Bool)} (hcall_0 : ∀ x, Le (call_0 x) (call_0_ x)) {call_1 call_1_ : (Int) → Option (Bool)} (hcall_1 : ∀ x, Le (call_1 x) (call_1_ x)) {call_2 call_2_ : (Int × Int × Int × Int × Int) → Option (LI × LLI × Int × Int × Int × Int × Int × Int × Int)} (hcall_2 : ∀ x, Le (call_2 x) (call_2_ x)) {n d most : Int} : Le (spec_seLangford.T Pr.std rt call_0 call_1 call_2 n d most) (spec_seLangford.T Pr.std rt call_0_ call_1_ call_2_ n d most) := by
  unfold spec_seLangford.T
  exact (Le.bind (hcall_0 _) (fun rr1 => (Le.ite (Le.bind (hcall_1 _) (fun rr2 => (Le.ite (Le.cond Le.rfl' (Le.fi fun _ => (Le.bind (hcall_2 _) (fun rr3 => Le.rfl')))) Le.rfl'))) Le.rfl')))
noncomputable def spec_seLangford.C (fu : Nat) (a : Int × Int × Int) : Option ((Bool) ⊕ (Bool × LI × LLI × Int × Int × Int × Int × Int × Int × Int)) := spec_seLangford.T Pr.quick some (spec_seSought.C fu) (spec_seN.C fu) (spec_seAll.C fu) a.1 a.2.1 a.2.2
theorem spec_seLangford.C_ok (fu : Nat) (hfu : fu ≤ 100000) (a : Int × Int × Int) : Le (spec_seLangford.C fu a) (spec_seLangford.X a) := by
  obtain ⟨n, d, most⟩ := a
  show Le (spec_seLangford.T Pr.quick some (spec_seSought.C fu) (spec_seN.C fu) (spec_seAll.C fu) n d most) _
  rw [Pr.quick_eq, spec_seLangford.X_eq]
  exact spec_seLangford.T_mono (fun x => spec_seSought.C_ok fu hfu x) (fun x => spec_seN.C_ok fu hfu x) (fun x => spec_seAll.C_ok fu hfu x)
/-! ### loop.example/g01232/spec.CountLangford -/
def spec_CountLangford.s0 (a : Int × Int) : St := { slots := [.int .i64 a.1, .int .i64 a.2], rows := [], boxes := [] }
def spec_CountLangford.pat : St → Option (Int × Int)
  | { slots := [.int .i64 n, .int .i64 d], rows := [], boxes := [], gd := [] } => some (n, d)
  | _ => none
theorem spec_CountLangford.hp : ∀ st a, spec_CountLangford.pat st = some a → st = spec_CountLangford.s0 a := by
  intro st a h
  unfold spec_CountLangford.pat at h
  split at h
  · cases h; rfl
  · cases h
def spec_CountLangford.ret (r : Int × Bool) : R := ({ slots := [], rows := [], boxes := [] }, [.int .i64 r.1, .bool r.2])
def spec_CountLangford.ap (b : Int × Bool) (K : St → List V → Option R) : Option R := K (spec_CountLangford.ret b).1 (spec_CountLangford.ret b).2
theorem spec_CountLangford.hap : ∀ b K, spec_CountLangford.ap b K = K (spec_CountLangford.ret b).1 (spec_CountLangford.ret b).2 := fun _ _ => rfl
theorem spec_CountLangford.inj : ∀ x y, spec_CountLangford.ret x = spec_CountLangford.ret y → x = y := by
  intro x y h
  obtain ⟨x1, x2⟩ := x; obtain ⟨y1, y2⟩ := y; cases h; rfl
theorem spec_CountLangford.dc (x : Int × Bool) : dec spec_CountLangford.ret (some (spec_CountLangford.ret x)) = some x := dec_ret spec_CountLangford.inj x
noncomputable def spec_CountLangford.cx : Cx := { ty := TY, fns := [(48, spec_seLangford.E)], nk := [], sharp := true }
noncomputable def spec_CountLangford.body : Code := Go.Proofs.Try.f8.body.getD .skip
def spec_CountLangford.fl : Fn := { loops := [], joins := [], nr := 0, nb := 0, rs := [.tmp 4, .tmp 5], pre := [], mv := [], fz := [] }
noncomputable def spec_CountLangford.Q (a : Int × Int) : Option R := eval spec_CountLangford.cx spec_CountLangford.fl [.code spec_CountLangford.body] (start 20 (spec_CountLangford.s0 a))
noncomputable def spec_CountLangford.X (a : Int × Int) : Option (Int × Bool) := dec spec_CountLangford.ret (spec_CountLangford.Q a)
theorem spec_CountLangford.fns : FnsOk Go.Proofs.Try.prog spec_CountLangford.cx := show FnsL _ _ from (fns_cons spec_seLangford.ok fns_nil)
theorem spec_CountLangford.lin : spec_CountLangford.cx.Lin := Lin.of_fns spec_CountLangford.fns
noncomputable def spec_CountLangford.E : Entry := mkE [] spec_CountLangford.pat spec_CountLangford.X spec_CountLangford.ap
theorem spec_CountLangford.ok : EntOk Go.Proofs.Try.prog 8 spec_CountLangford.E := mkE_ok (fun w args => Go.Proofs.Try.call8 args w) spec_CountLangford.hp spec_CountLangford.hap fun a b h => vc_of_X mixed (tyB_ok (cx := spec_CountLangford.cx) tyOk) spec_CountLangford.fns (fl := spec_CountLangford.fl) Go.Proofs.Try.func8 (code := spec_CountLangford.body) (by kernel_rfl) (n := 20) (by kernel_rfl) (by kernel_rfl) (by decide) (by decide) rfl rfl h
def spec_CountLangford.T {α : Type} (pr : Pr) (rt : (Int × Bool) → Option α) (call_0 : (Int × Int × Int) → Option ((Bool) ⊕ (Bool × LI × LLI × Int × Int × Int × Int × Int × Int × Int))) (n d : Int) : Option α :=
  (call_0 (n, d, 0)).bind (Sum.elim (fun rr1 =>
      bif (!rr1) then
        rt (0, false)
      else
        none)
    (fun rr1 =>
        bif (!rr1.1) then
          rt (0, false)
        else
          pr.fi rr1.2.2.2.2.2.2.2.2.2 fun y0 => rt (y0, true)))
theorem spec_CountLangford.Q_eq (n d : Int) : spec_CountLangford.Q (n, d) = spec_CountLangford.T Pr.std (fun b => some (spec_CountLangford.ret b)) spec_seLangford.X n d := (eval_seg spec_CountLangford.lin 1000000 _ _).trans (by kernel_rfl)
theorem spec_CountLangford.X_eq (n d : Int) : spec_CountLangford.X (n, d) = spec_CountLangford.T Pr.std some spec_seLangford.X n d := by
  show dec spec_CountLangford.ret (spec_CountLangford.Q (n, d)) = _
  rw [spec_CountLangford.Q_eq]
  simp only [spec_CountLangford.T, std_fi, std_fb, std_fl, std_fll, std_flll, std_flb, std_fh, dec_ite, dec_cond, dec_bind, dec_elim, dec_none, spec_CountLangford.dc]
  try rfl
theorem spec_CountLangford.T_mono {α : Type} {rt : (Int × Bool) → Option α} {call_0 call_0_ : (Int × Int × Int) → Option ((Bool) ⊕ (Bool × LI × LLI × Int × Int × Int × Int × Int × Int × Int))} (hcall_0 : ∀ x, Le (call_0 x) (call_0_ x)) {n d : Int} : Le (spec_CountLangford.T Pr.std rt call_0 n d) (spec_CountLangford.T Pr.std rt call_0_ n d) := by
  unfold spec_CountLangford.T
  exact (Le.bind (hcall_0 _) (fun _ => Le.elim (fun rr1 => (Le.cond Le.rfl' Le.rfl')) (fun rr1 => (Le.cond Le.rfl' Le.rfl'))))
noncomputable def spec_CountLangford.C (fu : Nat) (a : Int × Int) : Option (Int × Bool) := spec_CountLangford.T Pr.quick some (spec_seLangford.C fu) a.1 a.2
theorem spec_CountLangford.C_ok (fu : Nat) (hfu : fu ≤ 100000) (a : Int × Int) : Le (spec_CountLangford.C fu a) (spec_CountLangford.X a) := by
  obtain ⟨n, d⟩ := a
  show Le (spec_CountLangford.T Pr.quick some (spec_seLangford.C fu) n d) _
  rw [Pr.quick_eq, spec_CountLangford.X_eq]
  exact spec_CountLangford.T_mono (fun x => spec_seLangford.C_ok fu hfu x)
/-! ### slices.Clone[[]int,int] -/
def slices_Clone_int_int.s0 (a : LI) : St := { slots := [.sl (.int .i64) a], rows := [], boxes := [] }
def slices_Clone_int_int.pat : St → Option LI
  | { slots := [.sl (.int .i64) s], rows := [], boxes := [], gd := [] } => some s
  | _ => none
theorem slices_Clone_int_int.hp : ∀ st a, slices_Clone_int_int.pat st = some a → st = slices_Clone_int_int.s0 a := by
  intro st a h
  unfold slices_Clone_int_int.pat at h
  split at h
  · cases h; rfl
  · cases h
def slices_Clone_int_int.ret (r : LI) : R := ({ slots := [], rows := [(0, ⟨.int .i64, r⟩)], boxes := [] }, [.row 0])
def slices_Clone_int_int.ap (b : LI) (K : St → List V → Option R) : Option R := K (slices_Clone_int_int.ret b).1 (slices_Clone_int_int.ret b).2
theorem slices_Clone_int_int.hap : ∀ b K, slices_Clone_int_int.ap b K = K (slices_Clone_int_int.ret b).1 (slices_Clone_int_int.ret b).2 := fun _ _ => rfl
theorem slices_Clone_int_int.inj : ∀ x y, slices_Clone_int_int.ret x = slices_Clone_int_int.ret y → x = y := by
  intro x y h
  cases h; rfl
theorem slices_Clone_int_int.dc (x : LI) : dec slices_Clone_int_int.ret (some (slices_Clone_int_int.ret x)) = some x := dec_ret slices_Clone_int_int.inj x
noncomputable def slices_Clone_int_int.X (xs : LI) : Option LI := if decide (xs.length < 8796093022208) then some xs else none
def slices_Clone_int_int.cx : Cx := { ty := TY, fns := [], sharp := true }
def slices_Clone_int_int.fl : Fn := { loops := [], joins := [], nr := 0, nb := 0, rs := [.tmp 2], pre := [(2, [some (.int .i64, false)])] }
noncomputable def slices_Clone_int_int.E : Entry := mkE [] slices_Clone_int_int.pat slices_Clone_int_int.X slices_Clone_int_int.ap
theorem slices_Clone_int_int.run (xs : LI) (h : xs.length < most) : evalN slices_Clone_int_int.cx slices_Clone_int_int.fl 100 [.code .skip, .code (match Go.Proofs.Try.f57.body.getD .skip with | .seq _ (.seq _ b) => b | _ => .skip)] { slots := [.sl (.int .i64) xs, D, .snil, .sl (.int .i64) xs, .bool false, D, D, D], rows := [], boxes := [] } = some ({ slots := [], rows := [(0, ⟨.int .i64, xs⟩)], boxes := [] }, [.row 0]) := by
  have : evalN slices_Clone_int_int.cx slices_Clone_int_int.fl 100 [.code .skip, .code (match Go.Proofs.Try.f57.body.getD .skip with | .seq _ (.seq _ b) => b | _ => .skip)] { slots := [.sl (.int .i64) xs, D, .snil, .sl (.int .i64) xs, .bool false, D, D, D], rows := [], boxes := [] } = if 0 + xs.length < most then some ({ slots := [], rows := [(0, ⟨.int .i64, xs⟩)], boxes := [] }, [.row 0]) else none := by kernel_rfl
  rw [this, if_pos (by omega)]
theorem slices_Clone_int_int.ok : EntOk Go.Proofs.Try.prog 57 slices_Clone_int_int.E := mkE_ok (fun w args => Go.Proofs.Try.call57 args w) slices_Clone_int_int.hp slices_Clone_int_int.hap fun a b h => by
  unfold slices_Clone_int_int.X at h
  split at h
  · rename_i hlt
    cases h
    exact clone_vc (cx := slices_Clone_int_int.cx) (fl := slices_Clone_int_int.fl) (fn := Go.Proofs.Try.f57) (code := Go.Proofs.Try.f57.body.getD .skip) (A := match Go.Proofs.Try.f57.body.getD .skip with | .seq _ (.seq (.seq _ (.cond _ a _)) _) => a | _ => .skip) (B := match Go.Proofs.Try.f57.body.getD .skip with | .seq _ (.seq _ b) => b | _ => .skip) (i0 := 0) (i1 := 1) (o0 := ({ dst := (some 2), op := (Go.Op.assign (Go.Operand.const (Go.Value.slice none 0 0))), type := 31, pos := "slices.go:355", after := #[], guard := none } : Oper)) (o1 := ({ dst := (some 3), op := (Go.Op.move (Go.Operand.tmp 0)), type := 31, pos := "slices.go:357", after := #[], guard := none } : Oper)) (o2 := ({ dst := (some 4), op := (Go.Op.binOp Go.BinOp.eql 31 (Go.Operand.tmp 3) (Go.Operand.const (Go.Value.slice none 0 0)) 31), type := 4, pos := "slices.go:357", after := #[{ on := 0, ground := Go.Ground.data }], guard := none } : Oper)) (T := 31) (eT := 3) (e := .int .i64) (n := 100)
      mixed (tyB_ok (cx := slices_Clone_int_int.cx) tyOk) fns_nil Go.Proofs.Try.func57 (by kernel_rfl) (by kernel_rfl) rfl rfl (by kernel_rfl) rfl (by kernel_rfl) ⟨rfl, rfl, rfl⟩ ⟨rfl, rfl, rfl⟩ ⟨⟨31, rfl⟩, rfl, rfl⟩ (by kernel_rfl) (by kernel_rfl) (slices_Clone_int_int.run a (by unfold most; simpa using hlt))
  · cases h
noncomputable def slices_Clone_int_int.C (fu : Nat) (xs : LI) : Option LI := if decide (xs.length < 8796093022208) then some xs else none
theorem slices_Clone_int_int.C_ok (fu : Nat) (hfu : fu ≤ 100000) (a : LI) : Le (slices_Clone_int_int.C fu a) (slices_Clone_int_int.X a) := Le.rfl'
/-! ### (loop.example/g01232/impl.kind).all$1 -/
def impl_kind_all_1.s0 (a : LI × LLI × Int) : St := { slots := [.row 0, .ptr 0 0, .ptr 1 0], rows := [(0, ⟨.int .i64, a.1⟩), (1, ⟨.sl (.int .i64), a.2.1⟩)], boxes := [(0, [.row 1]), (1, [.int .i64 a.2.2])] }
def impl_kind_all_1.pat : St → Option (LI × LLI × Int)
  | { slots := [.row 0, .ptr 0 0, .ptr 1 0], rows := [(0, ⟨.int .i64, row⟩), (1, ⟨.sl (.int .i64), t1⟩)], boxes := [(0, [.row 1]), (1, [.int .i64 t2])], gd := [] } => some (row, t1, t2)
  | _ => none
theorem impl_kind_all_1.hp : ∀ st a, impl_kind_all_1.pat st = some a → st = impl_kind_all_1.s0 a := by
  intro st a h
  unfold impl_kind_all_1.pat at h
  split at h
  · cases h; rfl
  · cases h
def impl_kind_all_1.ret (r : Bool × LI × LLI × Int) : R := ({ slots := [], rows := [(0, ⟨.int .i64, r.2.1⟩), (2, ⟨.sl (.int .i64), r.2.2.1⟩)], boxes := [(0, [.row 2]), (1, [.int .i64 r.2.2.2])] }, [.bool r.1])
def impl_kind_all_1.ap (b : Bool × LI × LLI × Int) (K : St → List V → Option R) : Option R := K (impl_kind_all_1.ret b).1 (impl_kind_all_1.ret b).2
theorem impl_kind_all_1.hap : ∀ b K, impl_kind_all_1.ap b K = K (impl_kind_all_1.ret b).1 (impl_kind_all_1.ret b).2 := fun _ _ => rfl
theorem impl_kind_all_1.inj : ∀ x y, impl_kind_all_1.ret x = impl_kind_all_1.ret y → x = y := by
  intro x y h
  obtain ⟨x1, x2, x3, x4⟩ := x; obtain ⟨y1, y2, y3, y4⟩ := y; cases h; rfl
theorem impl_kind_all_1.dc (x : Bool × LI × LLI × Int) : dec impl_kind_all_1.ret (some (impl_kind_all_1.ret x)) = some x := dec_ret impl_kind_all_1.inj x
noncomputable def impl_kind_all_1.cx : Cx := { ty := TY, fns := [(57, slices_Clone_int_int.E)], nk := [], sharp := true }
noncomputable def impl_kind_all_1.body : Code := Go.Proofs.Try.f84.body.getD .skip
def impl_kind_all_1.fl : Fn := { loops := [], joins := [], nr := 2, nb := 2, rs := [.tmp 4], pre := [], mv := [1], fz := [] }
noncomputable def impl_kind_all_1.Q (a : LI × LLI × Int) : Option R := eval impl_kind_all_1.cx impl_kind_all_1.fl [.code impl_kind_all_1.body] (start 14 (impl_kind_all_1.s0 a))
noncomputable def impl_kind_all_1.X (a : LI × LLI × Int) : Option (Bool × LI × LLI × Int) := dec impl_kind_all_1.ret (impl_kind_all_1.Q a)
theorem impl_kind_all_1.fns : FnsOk Go.Proofs.Try.prog impl_kind_all_1.cx := show FnsL _ _ from (fns_cons slices_Clone_int_int.ok fns_nil)
theorem impl_kind_all_1.lin : impl_kind_all_1.cx.Lin := Lin.of_fns impl_kind_all_1.fns
noncomputable def impl_kind_all_1.E : Entry := mkE [[true], [true], [true]] impl_kind_all_1.pat impl_kind_all_1.X impl_kind_all_1.ap
theorem impl_kind_all_1.ok : EntOk Go.Proofs.Try.prog 84 impl_kind_all_1.E := mkE_ok (fun w args => Go.Proofs.Try.call84 args w) impl_kind_all_1.hp impl_kind_all_1.hap fun a b h => vc_of_X mixed (tyB_ok (cx := impl_kind_all_1.cx) tyOk) impl_kind_all_1.fns (fl := impl_kind_all_1.fl) Go.Proofs.Try.func84 (code := impl_kind_all_1.body) (by kernel_rfl) (n := 14) (by kernel_rfl) (by kernel_rfl) (by decide) (by decide) rfl rfl h
def impl_kind_all_1.T {α : Type} (pr : Pr) (rt : (Bool × LI × LLI × Int) → Option α) (call_0 : LI → Option LI) (row : LI) (t1 : LLI) (t2 : Int) : Option α :=
  (call_0 row).bind fun rr1 =>
    if t1.length + 1 < 8796093022208 then
      pr.fb (pr.gt (((t1 ++ [rr1]).length : Nat) : Int) t2) fun y0 => pr.fll (t1 ++ [rr1]) fun y2 => rt (y0, row, y2, t2)
    else
      none
theorem impl_kind_all_1.Q_eq (row : LI) (t1 : LLI) (t2 : Int) : impl_kind_all_1.Q (row, t1, t2) = impl_kind_all_1.T Pr.std (fun b => some (impl_kind_all_1.ret b)) slices_Clone_int_int.X row t1 t2 := (eval_seg impl_kind_all_1.lin 1000000 _ _).trans (by kernel_rfl)
theorem impl_kind_all_1.X_eq (row : LI) (t1 : LLI) (t2 : Int) : impl_kind_all_1.X (row, t1, t2) = impl_kind_all_1.T Pr.std some slices_Clone_int_int.X row t1 t2 := by
  show dec impl_kind_all_1.ret (impl_kind_all_1.Q (row, t1, t2)) = _
  rw [impl_kind_all_1.Q_eq]
  simp only [impl_kind_all_1.T, std_fi, std_fb, std_fl, std_fll, std_flll, std_flb, std_fh, dec_ite, dec_cond, dec_bind, dec_elim, dec_none, impl_kind_all_1.dc]
  try rfl
theorem impl_kind_all_1.T_mono {α : Type} {rt : (Bool × LI × LLI × Int) → Option α} {call_0 call_0_ : LI → Option LI} (hcall_0 : ∀ x, Le (call_0 x) (call_0_ x)) {row : LI} {t1 : LLI} {t2 : Int} : Le (impl_kind_all_1.T Pr.std rt call_0 row t1 t2) (impl_kind_all_1.T Pr.std rt call_0_ row t1 t2) := by
  unfold impl_kind_all_1.T
  exact (Le.bind (hcall_0 _) (fun rr1 => (Le.ite Le.rfl' Le.rfl')))
noncomputable def impl_kind_all_1.C (fu : Nat) (a : LI × LLI × Int) : Option (Bool × LI × LLI × Int) := impl_kind_all_1.T Pr.quick some (slices_Clone_int_int.C fu) a.1 a.2.1 a.2.2
theorem impl_kind_all_1.C_ok (fu : Nat) (hfu : fu ≤ 100000) (a : LI × LLI × Int) : Le (impl_kind_all_1.C fu a) (impl_kind_all_1.X a) := by
  obtain ⟨row, t1, t2⟩ := a
  show Le (impl_kind_all_1.T Pr.quick some (slices_Clone_int_int.C fu) row t1 t2) _
  rw [Pr.quick_eq, impl_kind_all_1.X_eq]
  exact impl_kind_all_1.T_mono (fun x => slices_Clone_int_int.C_ok fu hfu x)
/-! ### loop.example/g01232/impl.fill -/
def impl_fill_v1.s0 (a : Int × LI × LI × LI × LLI × Int) : St := { slots := [.row 0, .row 1, .row 2, .int .i64 a.1, .clo 84 [] [.ptr 0 0, .ptr 1 0]], rows := [(0, ⟨.int .i64, a.2.1⟩), (1, ⟨.int .i64, a.2.2.1⟩), (2, ⟨.int .i64, a.2.2.2.1⟩), (3, ⟨.sl (.int .i64), a.2.2.2.2.1⟩)], boxes := [(0, [.row 3]), (1, [.int .i64 a.2.2.2.2.2])] }
def impl_fill_v1.pat : St → Option (Int × LI × LI × LI × LLI × Int)
  | { slots := [.row 0, .row 1, .row 2, .int .i64 shift, .clo 84 [] [.ptr 0 0, .ptr 1 0]], rows := [(0, ⟨.int .i64, row⟩), (1, ⟨.int .i64, told⟩), (2, ⟨.int .i64, left⟩), (3, ⟨.sl (.int .i64), eachc0⟩)], boxes := [(0, [.row 3]), (1, [.int .i64 eachc1])], gd := [] } => some (shift, row, told, left, eachc0, eachc1)
  | _ => none
theorem impl_fill_v1.hp : ∀ st a, impl_fill_v1.pat st = some a → st = impl_fill_v1.s0 a := by
  intro st a h
  unfold impl_fill_v1.pat at h
  split at h
  · cases h; rfl
  · cases h
def impl_fill_v1.ret (r : Bool × LI × LI × LI × LLI × Int) : R := ({ slots := [], rows := [(0, ⟨.int .i64, r.2.1⟩), (1, ⟨.int .i64, r.2.2.1⟩), (2, ⟨.int .i64, r.2.2.2.1⟩), (4, ⟨.sl (.int .i64), r.2.2.2.2.1⟩)], boxes := [(0, [.row 4]), (1, [.int .i64 r.2.2.2.2.2])] }, [.bool r.1])
def impl_fill_v1.ap (b : Bool × LI × LI × LI × LLI × Int) (K : St → List V → Option R) : Option R := K (impl_fill_v1.ret b).1 (impl_fill_v1.ret b).2
theorem impl_fill_v1.hap : ∀ b K, impl_fill_v1.ap b K = K (impl_fill_v1.ret b).1 (impl_fill_v1.ret b).2 := fun _ _ => rfl
theorem impl_fill_v1.inj : ∀ x y, impl_fill_v1.ret x = impl_fill_v1.ret y → x = y := by
  intro x y h
  obtain ⟨x1, x2, x3, x4, x5, x6⟩ := x; obtain ⟨y1, y2, y3, y4, y5, y6⟩ := y; cases h; rfl
theorem impl_fill_v1.dc (x : Bool × LI × LI × LI × LLI × Int) : dec impl_fill_v1.ret (some (impl_fill_v1.ret x)) = some x := dec_ret impl_fill_v1.inj x
def impl_fill_v1.Ed (X : (Int × LI × LI × LI × LLI × Int) → Option (Bool × LI × LI × LI × LLI × Int)) : Entry := mkE [[true], [true], [true], [], [true, true]] impl_fill_v1.pat X impl_fill_v1.ap
noncomputable def impl_fill_v1.cx (X : (Int × LI × LI × LI × LLI × Int) → Option (Bool × LI × LI × LI × LLI × Int)) : Cx := { ty := TY, fns := [(102, slices_Index_int_int.E), (84, impl_kind_all_1.E), (99, impl_fill_v1.Ed X)], nk := [], sharp := true }
noncomputable def impl_fill_v1.body : Code := Go.Proofs.Try.f99.body.getD .skip
def impl_fill_v1.fl : Fn := { loops := [(5, [(0, none), (1, none), (2, none), (3, none), (4, none), (11, none), (23, none), (24, none), (25, none)])], joins := [(9, [(0, none), (1, none), (2, none), (3, none), (4, none), (11, none), (12, none), (13, none), (14, none), (23, none), (24, none), (25, none)]), (16, [(0, none), (1, none), (2, none), (3, none), (4, none), (11, none), (23, none), (24, none), (25, none)])], nr := 4, nb := 2, rs := [.tmp 10], pre := [], mv := [3], fz := [] }
noncomputable def impl_fill_v1.X : Nat → (Int × LI × LI × LI × LLI × Int) → Option (Bool × LI × LI × LI × LLI × Int)
  | 0 => fun _ => none
  | dep + 1 => fun a => dec impl_fill_v1.ret (eval (impl_fill_v1.cx (impl_fill_v1.X dep)) impl_fill_v1.fl [.code impl_fill_v1.body] (start 109 (impl_fill_v1.s0 a)))
noncomputable def impl_fill_v1.XX : (Int × LI × LI × LI × LLI × Int) → Option (Bool × LI × LI × LI × LLI × Int) := impl_fill_v1.X 100000
noncomputable def impl_fill_v1.Q (dep : Nat) (a : Int × LI × LI × LI × LLI × Int) : Option R := eval (impl_fill_v1.cx (impl_fill_v1.X dep)) impl_fill_v1.fl [.code impl_fill_v1.body] (start 109 (impl_fill_v1.s0 a))
def impl_fill_v1.sL5 (shift at0 t24 t25 : Int) (row told left : LI) (eachc0 : LLI) (eachc1 : Int) : St := { slots := [.row 0, .row 1, .row 2, .int .i64 shift, .clo 84 [] [.ptr 0 0, .ptr 1 0], D, D, D, D, D, D, .int .i64 at0, D, D, D, D, D, D, D, D, D, D, D, .row 2, .int .i64 t24, .int .i64 t25, D, D, D, D, D, D, D, D, D, D, D, D, D, D, D, D, D, D, D, D, D, D, D, D, D, D, D, D, D, D, D, D, D, D, D, D, D, D, D, D, D, D, D, D, D, D, D, D, D, D, D, D, D, D, D, D, D, D, D, D, D, D, D, D, D, D, D, D, D, D, D, D, D, D, D, D, D, D, D, D, D, D, D], rows := [(0, ⟨.int .i64, row⟩), (1, ⟨.int .i64, told⟩), (2, ⟨.int .i64, left⟩), (3, ⟨.sl (.int .i64), eachc0⟩)], boxes := [(0, [.row 3]), (1, [.int .i64 eachc1])] }
noncomputable def impl_fill_v1.tL5 : List It := (findL 5 impl_fill_v1.body []).getD []
noncomputable def impl_fill_v1.QL5 (dep : Nat) (shift at0 t24 t25 : Int) (row told left : LI) (eachc0 : LLI) (eachc1 : Int) : Option R := eval (impl_fill_v1.cx (impl_fill_v1.X dep)) impl_fill_v1.fl impl_fill_v1.tL5 (impl_fill_v1.sL5 shift at0 t24 t25 row told left eachc0 eachc1)
noncomputable def impl_fill_v1.XL5 (dep : Nat) (shift at0 t24 t25 : Int) (row told left : LI) (eachc0 : LLI) (eachc1 : Int) : Option (Bool × LI × LI × LI × LLI × Int) := dec impl_fill_v1.ret (impl_fill_v1.QL5 dep shift at0 t24 t25 row told left eachc0 eachc1)
def impl_fill_v1.sJ16 (shift at0 t24 t25 : Int) (row told left : LI) (eachc0 : LLI) (eachc1 : Int) : St := { slots := [.row 0, .row 1, .row 2, .int .i64 shift, .clo 84 [] [.ptr 0 0, .ptr 1 0], D, D, D, D, D, D, .int .i64 at0, D, D, D, D, D, D, D, D, D, D, D, .row 2, .int .i64 t24, .int .i64 t25, D, D, D, D, D, D, D, D, D, D, D, D, D, D, D, D, D, D, D, D, D, D, D, D, D, D, D, D, D, D, D, D, D, D, D, D, D, D, D, D, D, D, D, D, D, D, D, D, D, D, D, D, D, D, D, D, D, D, D, D, D, D, D, D, D, D, D, D, D, D, D, D, D, D, D, D, D, D, D, D, D, D, D], rows := [(0, ⟨.int .i64, row⟩), (1, ⟨.int .i64, told⟩), (2, ⟨.int .i64, left⟩), (3, ⟨.sl (.int .i64), eachc0⟩)], boxes := [(0, [.row 3]), (1, [.int .i64 eachc1])] }
noncomputable def impl_fill_v1.tJ16 : List It := (findJ 16 impl_fill_v1.body []).getD []
noncomputable def impl_fill_v1.QJ16 (dep : Nat) (shift at0 t24 t25 : Int) (row told left : LI) (eachc0 : LLI) (eachc1 : Int) : Option R := eval (impl_fill_v1.cx (impl_fill_v1.X dep)) impl_fill_v1.fl impl_fill_v1.tJ16 (impl_fill_v1.sJ16 shift at0 t24 t25 row told left eachc0 eachc1)
noncomputable def impl_fill_v1.XJ16 (dep : Nat) (shift at0 t24 t25 : Int) (row told left : LI) (eachc0 : LLI) (eachc1 : Int) : Option (Bool × LI × LI × LI × LLI × Int) := dec impl_fill_v1.ret (impl_fill_v1.QJ16 dep shift at0 t24 t25 row told left eachc0 eachc1)
def impl_fill_v1.sJ9 (shift at0 i n to t24 t25 : Int) (row told left : LI) (eachc0 : LLI) (eachc1 : Int) : St := { slots := [.row 0, .row 1, .row 2, .int .i64 shift, .clo 84 [] [.ptr 0 0, .ptr 1 0], D, D, D, D, D, D, .int .i64 at0, .int .i64 i, .int .i64 n, .int .i64 to, D, D, D, D, D, D, D, D, .row 2, .int .i64 t24, .int .i64 t25, D, D, D, D, D, D, D, D, D, D, D, D, D, D, D, D, D, D, D, D, D, D, D, D, D, D, D, D, D, D, D, D, D, D, D, D, D, D, D, D, D, D, D, D, D, D, D, D, D, D, D, D, D, D, D, D, D, D, D, D, D, D, D, D, D, D, D, D, D, D, D, D, D, D, D, D, D, D, D, D, D, D, D], rows := [(0, ⟨.int .i64, row⟩), (1, ⟨.int .i64, told⟩), (2, ⟨.int .i64, left⟩), (3, ⟨.sl (.int .i64), eachc0⟩)], boxes := [(0, [.row 3]), (1, [.int .i64 eachc1])] }
noncomputable def impl_fill_v1.tJ9 : List It := (findJ 9 impl_fill_v1.body []).getD []
noncomputable def impl_fill_v1.QJ9 (dep : Nat) (shift at0 i n to t24 t25 : Int) (row told left : LI) (eachc0 : LLI) (eachc1 : Int) : Option R := eval (impl_fill_v1.cx (impl_fill_v1.X dep)) impl_fill_v1.fl impl_fill_v1.tJ9 (impl_fill_v1.sJ9 shift at0 i n to t24 t25 row told left eachc0 eachc1)
noncomputable def impl_fill_v1.XJ9 (dep : Nat) (shift at0 i n to t24 t25 : Int) (row told left : LI) (eachc0 : LLI) (eachc1 : Int) : Option (Bool × LI × LI × LI × LLI × Int) := dec impl_fill_v1.ret (impl_fill_v1.QJ9 dep shift at0 i n to t24 t25 row told left eachc0 eachc1)
def impl_fill_v1.sJ16a (shift at0 t24 t25 : Int) (row told left : LI) (eachc0 : LLI) (eachc1 : Int) : St := { slots := [.row 0, .row 1, .row 2, .int .i64 shift, .clo 84 [] [.ptr 0 0, .ptr 1 0], D, D, D, D, D, D, .int .i64 at0, D, D, D, D, D, D, D, D, D, D, D, .row 2, .int .i64 t24, .int .i64 t25, D, D, D, D, D, D, D, D, D, D, D, D, D, D, D, D, D, D, D, D, D, D, D, D, D, D, D, D, D, D, D, D, D, D, D, D, D, D, D, D, D, D, D, D, D, D, D, D, D, D, D, D, D, D, D, D, D, D, D, D, D, D, D, D, D, D, D, D, D, D, D, D, D, D, D, D, D, D, D, D, D, D, D], rows := [(0, ⟨.int .i64, row⟩), (1, ⟨.int .i64, told⟩), (2, ⟨.int .i64, left⟩), (5000000, ⟨.sl (.int .i64), eachc0⟩)], boxes := [(0, [.row 5000000]), (1, [.int .i64 eachc1])] }
noncomputable def impl_fill_v1.QJ16a (dep : Nat) (shift at0 t24 t25 : Int) (row told left : LI) (eachc0 : LLI) (eachc1 : Int) : Option R := eval (impl_fill_v1.cx (impl_fill_v1.X dep)) impl_fill_v1.fl impl_fill_v1.tJ16 (impl_fill_v1.sJ16a shift at0 t24 t25 row told left eachc0 eachc1)
noncomputable def impl_fill_v1.XJ16a (dep : Nat) (shift at0 t24 t25 : Int) (row told left : LI) (eachc0 : LLI) (eachc1 : Int) : Option (Bool × LI × LI × LI × LLI × Int) := dec impl_fill_v1.ret (impl_fill_v1.QJ16a dep shift at0 t24 t25 row told left eachc0 eachc1)
def impl_fill_v1.sL5a (shift at0 t24 t25 : Int) (row told left : LI) (eachc0 : LLI) (eachc1 : Int) : St := { slots := [.row 0, .row 1, .row 2, .int .i64 shift, .clo 84 [] [.ptr 0 0, .ptr 1 0], D, D, D, D, D, D, .int .i64 at0, D, D, D, D, D, D, D, D, D, D, D, .row 2, .int .i64 t24, .int .i64 t25, D, D, D, D, D, D, D, D, D, D, D, D, D, D, D, D, D, D, D, D, D, D, D, D, D, D, D, D, D, D, D, D, D, D, D, D, D, D, D, D, D, D, D, D, D, D, D, D, D, D, D, D, D, D, D, D, D, D, D, D, D, D, D, D, D, D, D, D, D, D, D, D, D, D, D, D, D, D, D, D, D, D, D], rows := [(0, ⟨.int .i64, row⟩), (1, ⟨.int .i64, told⟩), (2, ⟨.int .i64, left⟩), (5000000, ⟨.sl (.int .i64), eachc0⟩)], boxes := [(0, [.row 5000000]), (1, [.int .i64 eachc1])] }
noncomputable def impl_fill_v1.QL5a (dep : Nat) (shift at0 t24 t25 : Int) (row told left : LI) (eachc0 : LLI) (eachc1 : Int) : Option R := eval (impl_fill_v1.cx (impl_fill_v1.X dep)) impl_fill_v1.fl impl_fill_v1.tL5 (impl_fill_v1.sL5a shift at0 t24 t25 row told left eachc0 eachc1)
noncomputable def impl_fill_v1.XL5a (dep : Nat) (shift at0 t24 t25 : Int) (row told left : LI) (eachc0 : LLI) (eachc1 : Int) : Option (Bool × LI × LI × LI × LLI × Int) := dec impl_fill_v1.ret (impl_fill_v1.QL5a dep shift at0 t24 t25 row told left eachc0 eachc1)
def impl_fill_v1.sJ9a (shift at0 i n to t24 t25 : Int) (row told left : LI) (eachc0 : LLI) (eachc1 : Int) : St := { slots := [.row 0, .row 1, .row 2, .int .i64 shift, .clo 84 [] [.ptr 0 0, .ptr 1 0], D, D, D, D, D, D, .int .i64 at0, .int .i64 i, .int .i64 n, .int .i64 to, D, D, D, D, D, D, D, D, .row 2, .int .i64 t24, .int .i64 t25, D, D, D, D, D, D, D, D, D, D, D, D, D, D, D, D, D, D, D, D, D, D, D, D, D, D, D, D, D, D, D, D, D, D, D, D, D, D, D, D, D, D, D, D, D, D, D, D, D, D, D, D, D, D, D, D, D, D, D, D, D, D, D, D, D, D, D, D, D, D, D, D, D, D, D, D, D, D, D, D, D, D, D], rows := [(0, ⟨.int .i64, row⟩), (1, ⟨.int .i64, told⟩), (2, ⟨.int .i64, left⟩), (5000000, ⟨.sl (.int .i64), eachc0⟩)], boxes := [(0, [.row 5000000]), (1, [.int .i64 eachc1])] }
noncomputable def impl_fill_v1.QJ9a (dep : Nat) (shift at0 i n to t24 t25 : Int) (row told left : LI) (eachc0 : LLI) (eachc1 : Int) : Option R := eval (impl_fill_v1.cx (impl_fill_v1.X dep)) impl_fill_v1.fl impl_fill_v1.tJ9 (impl_fill_v1.sJ9a shift at0 i n to t24 t25 row told left eachc0 eachc1)
noncomputable def impl_fill_v1.XJ9a (dep : Nat) (shift at0 i n to t24 t25 : Int) (row told left : LI) (eachc0 : LLI) (eachc1 : Int) : Option (Bool × LI × LI × LI × LLI × Int) := dec impl_fill_v1.ret (impl_fill_v1.QJ9a dep shift at0 i n to t24 t25 row told left eachc0 eachc1)
theorem impl_fill_v1.okd : ∀ dep, EntOk Go.Proofs.Try.prog 99 (impl_fill_v1.Ed (impl_fill_v1.X dep))
  | 0 => mkE_ok (fun w args => Go.Proofs.Try.call99 args w) impl_fill_v1.hp impl_fill_v1.hap fun a b h => by cases h
  | dep + 1 => mkE_ok (fun w args => Go.Proofs.Try.call99 args w) impl_fill_v1.hp impl_fill_v1.hap fun a b h => vc_of_X (cx := (impl_fill_v1.cx (impl_fill_v1.X dep))) (fl := impl_fill_v1.fl) mixed (tyB_ok (cx := (impl_fill_v1.cx (impl_fill_v1.X dep))) tyOk) (show FnsL _ _ from (fns_cons slices_Index_int_int.ok (fns_cons impl_kind_all_1.ok (fns_cons (impl_fill_v1.okd dep) fns_nil)))) Go.Proofs.Try.func99 (code := impl_fill_v1.body) (by kernel_rfl) (n := 109) (by kernel_rfl) (by kernel_rfl) (by decide) (by decide) rfl rfl h
noncomputable def impl_fill_v1.E : Entry := impl_fill_v1.Ed impl_fill_v1.XX
theorem impl_fill_v1.ok : EntOk Go.Proofs.Try.prog 99 impl_fill_v1.E := impl_fill_v1.okd _
theorem impl_fill_v1.lin (dep : Nat) : (impl_fill_v1.cx (impl_fill_v1.X dep)).Lin := Lin.of_fns (P := Go.Proofs.Try.prog) (show FnsL _ _ from (fns_cons slices_Index_int_int.ok (fns_cons impl_kind_all_1.ok (fns_cons (impl_fill_v1.okd dep) fns_nil))))
def impl_fill_v1.T {α : Type} (pr : Pr) (rt : (Bool × LI × LI × LI × LLI × Int) → Option α) (kL5 : Int → Int → Int → Int → LI → LI → LI → LLI → Int → Option α) (call_0 : (LI × Int) → Option (Int)) (call_1 : (LI × LLI × Int) → Option (Bool × LI × LLI × Int)) (shift : Int) (row told left : LI) (eachc0 : LLI) (eachc1 : Int) : Option α :=
  (call_0 (row, (-1))).bind fun rr1 =>
    bif (pr.lt rr1 0) then
      (call_1 (row, eachc0, eachc1)).bind fun rr2 =>
        pr.fb rr2.1 fun y0 => pr.fh rr2.2.1 fun y1 => pr.fh rr2.2.2.1 fun y4 => pr.fi rr2.2.2.2 fun y5 => rt (y0, y1, told, left, y4, y5)
    else
      pr.fi rr1 fun y1 => pr.fi ((left.length : Nat) : Int) fun y2 => kL5 shift y1 y2 0 row told left eachc0 eachc1
theorem impl_fill_v1.Q_eq (dep : Nat) (shift : Int) (row told left : LI) (eachc0 : LLI) (eachc1 : Int) : impl_fill_v1.Q dep (shift, row, told, left, eachc0, eachc1) = impl_fill_v1.T Pr.std (fun b => some (impl_fill_v1.ret b)) (impl_fill_v1.QL5 dep) slices_Index_int_int.X impl_kind_all_1.X shift row told left eachc0 eachc1 := (eval_seg (impl_fill_v1.lin dep) 1000000 _ _).trans (by kernel_rfl)
theorem impl_fill_v1.X_eq (dep : Nat) (shift : Int) (row told left : LI) (eachc0 : LLI) (eachc1 : Int) : impl_fill_v1.X (dep + 1) (shift, row, told, left, eachc0, eachc1) = impl_fill_v1.T Pr.std some (impl_fill_v1.XL5 dep) slices_Index_int_int.X impl_kind_all_1.X shift row told left eachc0 eachc1 := by
  show dec impl_fill_v1.ret (impl_fill_v1.Q dep (shift, row, told, left, eachc0, eachc1)) = _
  rw [impl_fill_v1.Q_eq]
  simp only [impl_fill_v1.T, std_fi, std_fb, std_fl, std_fll, std_flll, std_flb, std_fh, dec_ite, dec_cond, dec_bind, dec_elim, dec_none, impl_fill_v1.dc]
  try rfl
theorem impl_fill_v1.T_mono {α : Type} {rt : (Bool × LI × LI × LI × LLI × Int) → Option α} {kL5 kL5_ : Int → Int → Int → Int → LI → LI → LI → LLI → Int → Option α} (hkL5 : ∀ x0 x1 x2 x3 x4 x5 x6 x7 x8, Le (kL5 x0 x1 x2 x3 x4 x5 x6 x7 x8) (kL5_ x0 x1 x2 x3 x4 x5 x6 x7 x8)) {call_0 call_0_ : (LI × Int) → Option (Int)} (hcall_0 : ∀ x, Le (call_0 x) (call_0_ x)) {call_1 call_1_ : (LI × LLI × Int) → Option (Bool × LI × LLI × Int)} (hcall_1 : ∀ x, Le (call_1 x) (call_1_ x)) {shift : Int} {row told left : LI} {eachc0 : LLI} {eachc1 : Int} : Le (impl_fill_v1.T Pr.std rt kL5 call_0 call_1 shift row told left eachc0 eachc1) (impl_fill_v1.T Pr.std rt kL5_ call_0_ call_1_ shift row told left eachc0 eachc1) := by
  unfold impl_fill_v1.T
  exact (Le.bind (hcall_0 _) (fun rr1 => (Le.cond (Le.bind (hcall_1 _) (fun rr2 => Le.rfl')) (Le.fi fun _ => (Le.fi fun _ => (hkL5 _ _ _ _ _ _ _ _ _))))))
def impl_fill_v1.TL5 {α : Type} (pr : Pr) (rt : (Bool × LI × LI × LI × LLI × Int) → Option α) (kJ16 : Int → Int → Int → Int → LI → LI → LI → LLI → Int → Option α) (kJ9 : Int → Int → Int → Int → Int → Int → Int → LI → LI → LI → LLI → Int → Option α) (shift at0 t24 t25 : Int) (row told left : LI) (eachc0 : LLI) (eachc1 : Int) : Option α :=
  bif (pr.lt t25 t24) then
    if (pr.inR t25 left.length) then
      if (pr.nlt ((t25).toNat) left.length) then
        if (!(pr.eq (pr.gd left ((t25).toNat) 0) 0)) then
          if (!(pr.ge (pr.wr .i64 ((pr.wr .i64 (at0 + (pr.gd left ((t25).toNat) 0))) + shift)) ((row.length : Nat) : Int))) then
            if (pr.inR (pr.wr .i64 ((pr.wr .i64 (at0 + (pr.gd left ((t25).toNat) 0))) + shift)) row.length) then
              if (pr.nlt (((pr.wr .i64 ((pr.wr .i64 (at0 + (pr.gd left ((t25).toNat) 0))) + shift))).toNat) row.length) then
                if (!(pr.ne (pr.gd row (((pr.wr .i64 ((pr.wr .i64 (at0 + (pr.gd left ((t25).toNat) 0))) + shift))).toNat) 0) (-1))) then
                  if (pr.inR at0 told.length) then
                    if (pr.nlt ((at0).toNat) told.length) then
                      if (pr.ne (pr.gd told ((at0).toNat) 0) 0) then
                        if (pr.inR at0 told.length) then
                          if (pr.nlt ((at0).toNat) told.length) then
                            if (!(pr.ne (pr.gd told ((at0).toNat) 0) (pr.gd left ((t25).toNat) 0))) then
                              if (pr.inR (pr.wr .i64 ((pr.wr .i64 (at0 + (pr.gd left ((t25).toNat) 0))) + shift)) told.length) then
                                if (pr.nlt (((pr.wr .i64 ((pr.wr .i64 (at0 + (pr.gd left ((t25).toNat) 0))) + shift))).toNat) told.length) then
                                  if (pr.ne (pr.gd told (((pr.wr .i64 ((pr.wr .i64 (at0 + (pr.gd left ((t25).toNat) 0))) + shift))).toNat) 0) 0) then
                                    if (pr.inR (pr.wr .i64 ((pr.wr .i64 (at0 + (pr.gd left ((t25).toNat) 0))) + shift)) told.length) then
                                      if (pr.nlt (((pr.wr .i64 ((pr.wr .i64 (at0 + (pr.gd left ((t25).toNat) 0))) + shift))).toNat) told.length) then
                                        bif (pr.ne (pr.gd told (((pr.wr .i64 ((pr.wr .i64 (at0 + (pr.gd left ((t25).toNat) 0))) + shift))).toNat) 0) (pr.gd left ((t25).toNat) 0)) then
                                          kJ16 shift at0 t24 t25 row told left eachc0 eachc1
                                        else
                                          pr.fi (pr.gd left ((t25).toNat) 0) fun y3 => pr.fi (pr.wr .i64 ((pr.wr .i64 (at0 + (pr.gd left ((t25).toNat) 0))) + shift)) fun y4 => kJ9 shift at0 t25 y3 y4 t24 t25 row told left eachc0 eachc1
                                      else
                                        none
                                    else
                                      none
                                  else
                                    pr.fi (pr.gd left ((t25).toNat) 0) fun y3 => pr.fi (pr.wr .i64 ((pr.wr .i64 (at0 + (pr.gd left ((t25).toNat) 0))) + shift)) fun y4 => kJ9 shift at0 t25 y3 y4 t24 t25 row told left eachc0 eachc1
                                else
                                  none
                              else
                                none
                            else
                              kJ16 shift at0 t24 t25 row told left eachc0 eachc1
                          else
                            none
                        else
                          none
                      else
                        if (pr.inR (pr.wr .i64 ((pr.wr .i64 (at0 + (pr.gd left ((t25).toNat) 0))) + shift)) told.length) then
                          if (pr.nlt (((pr.wr .i64 ((pr.wr .i64 (at0 + (pr.gd left ((t25).toNat) 0))) + shift))).toNat) told.length) then
                            if (pr.ne (pr.gd told (((pr.wr .i64 ((pr.wr .i64 (at0 + (pr.gd left ((t25).toNat) 0))) + shift))).toNat) 0) 0) then
                              if (pr.inR (pr.wr .i64 ((pr.wr .i64 (at0 + (pr.gd left ((t25).toNat) 0))) + shift)) told.length) then
                                if (pr.nlt (((pr.wr .i64 ((pr.wr .i64 (at0 + (pr.gd left ((t25).toNat) 0))) + shift))).toNat) told.length) then
                                  bif (pr.ne (pr.gd told (((pr.wr .i64 ((pr.wr .i64 (at0 + (pr.gd left ((t25).toNat) 0))) + shift))).toNat) 0) (pr.gd left ((t25).toNat) 0)) then
                                    kJ16 shift at0 t24 t25 row told left eachc0 eachc1
                                  else
                                    pr.fi (pr.gd left ((t25).toNat) 0) fun y3 => pr.fi (pr.wr .i64 ((pr.wr .i64 (at0 + (pr.gd left ((t25).toNat) 0))) + shift)) fun y4 => kJ9 shift at0 t25 y3 y4 t24 t25 row told left eachc0 eachc1
                                else
                                  none
                              else
                                none
                            else
                              pr.fi (pr.gd left ((t25).toNat) 0) fun y3 => pr.fi (pr.wr .i64 ((pr.wr .i64 (at0 + (pr.gd left ((t25).toNat) 0))) + shift)) fun y4 => kJ9 shift at0 t25 y3 y4 t24 t25 row told left eachc0 eachc1
                          else
                            none
                        else
                          none
                    else
                      none
                  else
                    none
                else
                  kJ16 shift at0 t24 t25 row told left eachc0 eachc1
              else
                none
            else
              none
          else
            kJ16 shift at0 t24 t25 row told left eachc0 eachc1
        else
          kJ16 shift at0 t24 t25 row told left eachc0 eachc1
      else
        none
    else
      none
  else
    rt (false, row, told, left, eachc0, eachc1)
theorem impl_fill_v1.QL5_eq (dep : Nat) (shift at0 t24 t25 : Int) (row told left : LI) (eachc0 : LLI) (eachc1 : Int) : impl_fill_v1.QL5 dep shift at0 t24 t25 row told left eachc0 eachc1 = impl_fill_v1.TL5 Pr.std (fun b => some (impl_fill_v1.ret b)) (impl_fill_v1.QJ16 dep) (impl_fill_v1.QJ9 dep) shift at0 t24 t25 row told left eachc0 eachc1 := (eval_seg (impl_fill_v1.lin dep) 1000000 _ _).trans (by kernel_rfl)
theorem impl_fill_v1.XL5_eq (dep : Nat) (shift at0 t24 t25 : Int) (row told left : LI) (eachc0 : LLI) (eachc1 : Int) : impl_fill_v1.XL5 dep shift at0 t24 t25 row told left eachc0 eachc1 = impl_fill_v1.TL5 Pr.std some (impl_fill_v1.XJ16 dep) (impl_fill_v1.XJ9 dep) shift at0 t24 t25 row told left eachc0 eachc1 := by
  show dec impl_fill_v1.ret (impl_fill_v1.QL5 dep shift at0 t24 t25 row told left eachc0 eachc1) = _
  rw [impl_fill_v1.QL5_eq]
  simp only [impl_fill_v1.TL5, std_fi, std_fb, std_fl, std_fll, std_flll, std_flb, std_fh, dec_ite, dec_cond, dec_bind, dec_elim, dec_none, impl_fill_v1.dc]
  try rfl
theorem impl_fill_v1.TL5_mono {α : Type} {rt : (Bool × LI × LI × LI × LLI × Int) → Option α} {kJ16 kJ16_ : Int → Int → Int → Int → LI → LI → LI → LLI → Int → Option α} (hkJ16 : ∀ x0 x1 x2 x3 x4 x5 x6 x7 x8, Le (kJ16 x0 x1 x2 x3 x4 x5 x6 x7 x8) (kJ16_ x0 x1 x2 x3 x4 x5 x6 x7 x8)) {kJ9 kJ9_ : Int → Int → Int → Int → Int → Int → Int → LI → LI → LI → LLI → Int → Option α} (hkJ9 : ∀ x0 x1 x2 x3 x4 x5 x6 x7 x8 x9 x10 x11, Le (kJ9 x0 x1 x2 x3 x4 x5 x6 x7 x8 x9 x10 x11) (kJ9_ x0 x1 x2 x3 x4 x5 x6 x7 x8 x9 x10 x11)) {shift at0 t24 t25 : Int} {row told left : LI} {eachc0 : LLI} {eachc1 : Int} : Le (impl_fill_v1.TL5 Pr.std rt kJ16 kJ9 shift at0 t24 t25 row told left eachc0 eachc1) (impl_fill_v1.TL5 Pr.std rt kJ16_ kJ9_ shift at0 t24 t25 row told left eachc0 eachc1) := by
  unfold impl_fill_v1.TL5
  exact (Le.cond (Le.ite (Le.ite (Le.ite (Le.ite (Le.ite (Le.ite (Le.ite (Le.ite (Le.ite (Le.ite (Le.ite (Le.ite (Le.ite (Le.ite (Le.ite (Le.ite (Le.ite (Le.ite (Le.cond (hkJ16 _ _ _ _ _ _ _ _ _) (Le.fi fun _ => (Le.fi fun _ => (hkJ9 _ _ _ _ _ _ _ _ _ _ _ _)))) Le.rfl') Le.rfl') (Le.fi fun _ => (Le.fi fun _ => (hkJ9 _ _ _ _ _ _ _ _ _ _ _ _)))) Le.rfl') Le.rfl') (hkJ16 _ _ _ _ _ _ _ _ _)) Le.rfl') Le.rfl') (Le.ite (Le.ite (Le.ite (Le.ite (Le.ite (Le.cond (hkJ16 _ _ _ _ _ _ _ _ _) (Le.fi fun _ => (Le.fi fun _ => (hkJ9 _ _ _ _ _ _ _ _ _ _ _ _)))) Le.rfl') Le.rfl') (Le.fi fun _ => (Le.fi fun _ => (hkJ9 _ _ _ _ _ _ _ _ _ _ _ _)))) Le.rfl') Le.rfl')) Le.rfl') Le.rfl') (hkJ16 _ _ _ _ _ _ _ _ _)) Le.rfl') Le.rfl') (hkJ16 _ _ _ _ _ _ _ _ _)) (hkJ16 _ _ _ _ _ _ _ _ _)) Le.rfl') Le.rfl') Le.rfl')
def impl_fill_v1.TJ16 {α : Type} (pr : Pr) (rt : (Bool × LI × LI × LI × LLI × Int) → Option α) (kL5 : Int → Int → Int → Int → LI → LI → LI → LLI → Int → Option α) (shift at0 t24 t25 : Int) (row told left : LI) (eachc0 : LLI) (eachc1 : Int) : Option α :=
  pr.fi (pr.wr .i64 (t25 + 1)) fun y3 => kL5 shift at0 t24 y3 row told left eachc0 eachc1
theorem impl_fill_v1.QJ16_eq (dep : Nat) (shift at0 t24 t25 : Int) (row told left : LI) (eachc0 : LLI) (eachc1 : Int) : impl_fill_v1.QJ16 dep shift at0 t24 t25 row told left eachc0 eachc1 = impl_fill_v1.TJ16 Pr.std (fun b => some (impl_fill_v1.ret b)) (impl_fill_v1.QL5 dep) shift at0 t24 t25 row told left eachc0 eachc1 := (eval_seg (impl_fill_v1.lin dep) 1000000 _ _).trans (by kernel_rfl)
theorem impl_fill_v1.XJ16_eq (dep : Nat) (shift at0 t24 t25 : Int) (row told left : LI) (eachc0 : LLI) (eachc1 : Int) : impl_fill_v1.XJ16 dep shift at0 t24 t25 row told left eachc0 eachc1 = impl_fill_v1.TJ16 Pr.std some (impl_fill_v1.XL5 dep) shift at0 t24 t25 row told left eachc0 eachc1 := by
  show dec impl_fill_v1.ret (impl_fill_v1.QJ16 dep shift at0 t24 t25 row told left eachc0 eachc1) = _
  rw [impl_fill_v1.QJ16_eq]
  simp only [impl_fill_v1.TJ16, std_fi, std_fb, std_fl, std_fll, std_flll, std_flb, std_fh, dec_ite, dec_cond, dec_bind, dec_elim, dec_none, impl_fill_v1.dc]
  try rfl
theorem impl_fill_v1.TJ16_mono {α : Type} {rt : (Bool × LI × LI × LI × LLI × Int) → Option α} {kL5 kL5_ : Int → Int → Int → Int → LI → LI → LI → LLI → Int → Option α} (hkL5 : ∀ x0 x1 x2 x3 x4 x5 x6 x7 x8, Le (kL5 x0 x1 x2 x3 x4 x5 x6 x7 x8) (kL5_ x0 x1 x2 x3 x4 x5 x6 x7 x8)) {shift at0 t24 t25 : Int} {row told left : LI} {eachc0 : LLI} {eachc1 : Int} : Le (impl_fill_v1.TJ16 Pr.std rt kL5 shift at0 t24 t25 row told left eachc0 eachc1) (impl_fill_v1.TJ16 Pr.std rt kL5_ shift at0 t24 t25 row told left eachc0 eachc1) := by
  unfold impl_fill_v1.TJ16
  exact (Le.fi fun _ => (hkL5 _ _ _ _ _ _ _ _ _))
def impl_fill_v1.TJ9 {α : Type} (pr : Pr) (rt : (Bool × LI × LI × LI × LLI × Int) → Option α) (kJ16a : Int → Int → Int → Int → LI → LI → LI → LLI → Int → Option α) (self : (Int × LI × LI × LI × LLI × Int) → Option (Bool × LI × LI × LI × LLI × Int)) (shift at0 i n to t24 t25 : Int) (row told left : LI) (eachc0 : LLI) (eachc1 : Int) : Option α :=
  if (pr.inR at0 row.length) then
    if ((pr.nlt ((at0).toNat) row.length) && true) then
      if (pr.inR to ((pr.st row ((at0).toNat) n).length)) then
        if ((pr.nlt ((to).toNat) (pr.st row ((at0).toNat) n).length) && true) then
          if (pr.inR i left.length) then
            if ((pr.nlt ((i).toNat) left.length) && true) then
              pr.fl (pr.st (pr.st row ((at0).toNat) n) ((to).toNat) n) fun y1 => pr.fl (pr.st left ((i).toNat) (0 : Int)) fun y3 => (self (shift, y1, told, y3, eachc0, eachc1)).bind fun rr1 =>
                if (pr.inR i rr1.2.2.2.1.length) then
                  if ((pr.nlt ((i).toNat) rr1.2.2.2.1.length) && true) then
                    if (pr.inR at0 rr1.2.1.length) then
                      if ((pr.nlt ((at0).toNat) rr1.2.1.length) && true) then
                        if (pr.inR to ((pr.st rr1.2.1 ((at0).toNat) (-1 : Int)).length)) then
                          if ((pr.nlt ((to).toNat) (pr.st rr1.2.1 ((at0).toNat) (-1 : Int)).length) && true) then
                            bif rr1.1 then
                              pr.fl (pr.st (pr.st rr1.2.1 ((at0).toNat) (-1 : Int)) ((to).toNat) (-1 : Int)) fun y1 => pr.fh rr1.2.2.1 fun y2 => pr.fl (pr.st rr1.2.2.2.1 ((i).toNat) n) fun y3 => pr.fh rr1.2.2.2.2.1 fun y4 => pr.fi rr1.2.2.2.2.2 fun y5 => rt (true, y1, y2, y3, y4, y5)
                            else
                              pr.fl (pr.st (pr.st rr1.2.1 ((at0).toNat) (-1 : Int)) ((to).toNat) (-1 : Int)) fun y4 => pr.fh rr1.2.2.1 fun y5 => pr.fl (pr.st rr1.2.2.2.1 ((i).toNat) n) fun y6 => pr.fh rr1.2.2.2.2.1 fun y7 => pr.fi rr1.2.2.2.2.2 fun y8 => kJ16a shift at0 t24 t25 y4 y5 y6 y7 y8
                          else
                            none
                        else
                          none
                      else
                        none
                    else
                      none
                  else
                    none
                else
                  none
            else
              none
          else
            none
        else
          none
      else
        none
    else
      none
  else
    none
theorem impl_fill_v1.QJ9_eq (dep : Nat) (shift at0 i n to t24 t25 : Int) (row told left : LI) (eachc0 : LLI) (eachc1 : Int) : impl_fill_v1.QJ9 dep shift at0 i n to t24 t25 row told left eachc0 eachc1 = impl_fill_v1.TJ9 Pr.std (fun b => some (impl_fill_v1.ret b)) (impl_fill_v1.QJ16a dep) (impl_fill_v1.X dep) shift at0 i n to t24 t25 row told left eachc0 eachc1 := (eval_seg (impl_fill_v1.lin dep) 1000000 _ _).trans (by kernel_rfl)
theorem impl_fill_v1.XJ9_eq (dep : Nat) (shift at0 i n to t24 t25 : Int) (row told left : LI) (eachc0 : LLI) (eachc1 : Int) : impl_fill_v1.XJ9 dep shift at0 i n to t24 t25 row told left eachc0 eachc1 = impl_fill_v1.TJ9 Pr.std some (impl_fill_v1.XJ16a dep) (impl_fill_v1.X dep) shift at0 i n to t24 t25 row told left eachc0 eachc1 := by
  show dec impl_fill_v1.ret (impl_fill_v1.QJ9 dep shift at0 i n to t24 t25 row told left eachc0 eachc1) = _
  rw [impl_fill_v1.QJ9_eq]
  simp only [impl_fill_v1.TJ9, std_fi, std_fb, std_fl, std_fll, std_flll, std_flb, std_fh, dec_ite, dec_cond, dec_bind, dec_elim, dec_none, impl_fill_v1.dc]
  try rfl
theorem impl_fill_v1.TJ9_mono {α : Type} {rt : (Bool × LI × LI × LI × LLI × Int) → Option α} {kJ16a kJ16a_ : Int → Int → Int → Int → LI → LI → LI → LLI → Int → Option α} (hkJ16a : ∀ x0 x1 x2 x3 x4 x5 x6 x7 x8, Le (kJ16a x0 x1 x2 x3 x4 x5 x6 x7 x8) (kJ16a_ x0 x1 x2 x3 x4 x5 x6 x7 x8)) {self self_ : (Int × LI × LI × LI × LLI × Int) → Option (Bool × LI × LI × LI × LLI × Int)} (hself : ∀ x, Le (self x) (self_ x)) {shift at0 i n to t24 t25 : Int} {row told left : LI} {eachc0 : LLI} {eachc1 : Int} : Le (impl_fill_v1.TJ9 Pr.std rt kJ16a self shift at0 i n to t24 t25 row told left eachc0 eachc1) (impl_fill_v1.TJ9 Pr.std rt kJ16a_ self_ shift at0 i n to t24 t25 row told left eachc0 eachc1) := by
  unfold impl_fill_v1.TJ9
  exact (Le.ite (Le.ite (Le.ite (Le.ite (Le.ite (Le.ite (Le.fl fun _ => (Le.fl fun _ => (Le.bind (hself _) (fun rr1 => (Le.ite (Le.ite (Le.ite (Le.ite (Le.ite (Le.ite (Le.cond Le.rfl' (Le.fl fun _ => (Le.fh fun _ => (Le.fl fun _ => (Le.fh fun _ => (Le.fi fun _ => (hkJ16a _ _ _ _ _ _ _ _ _))))))) Le.rfl') Le.rfl') Le.rfl') Le.rfl') Le.rfl') Le.rfl'))))) Le.rfl') Le.rfl') Le.rfl') Le.rfl') Le.rfl') Le.rfl')
def impl_fill_v1.TJ16a {α : Type} (pr : Pr) (rt : (Bool × LI × LI × LI × LLI × Int) → Option α) (kL5a : Int → Int → Int → Int → LI → LI → LI → LLI → Int → Option α) (shift at0 t24 t25 : Int) (row told left : LI) (eachc0 : LLI) (eachc1 : Int) : Option α :=
  pr.fi (pr.wr .i64 (t25 + 1)) fun y3 => kL5a shift at0 t24 y3 row told left eachc0 eachc1
theorem impl_fill_v1.QJ16a_eq (dep : Nat) (shift at0 t24 t25 : Int) (row told left : LI) (eachc0 : LLI) (eachc1 : Int) : impl_fill_v1.QJ16a dep shift at0 t24 t25 row told left eachc0 eachc1 = impl_fill_v1.TJ16a Pr.std (fun b => some (impl_fill_v1.ret b)) (impl_fill_v1.QL5a dep) shift at0 t24 t25 row told left eachc0 eachc1 := (eval_seg (impl_fill_v1.lin dep) 1000000 _ _).trans (by kernel_rfl)
theorem impl_fill_v1.XJ16a_eq (dep : Nat) (shift at0 t24 t25 : Int) (row told left : LI) (eachc0 : LLI) (eachc1 : Int) : impl_fill_v1.XJ16a dep shift at0 t24 t25 row told left eachc0 eachc1 = impl_fill_v1.TJ16a Pr.std some (impl_fill_v1.XL5a dep) shift at0 t24 t25 row told left eachc0 eachc1 := by
  show dec impl_fill_v1.ret (impl_fill_v1.QJ16a dep shift at0 t24 t25 row told left eachc0 eachc1) = _
  rw [impl_fill_v1.QJ16a_eq]
  simp only [impl_fill_v1.TJ16a, std_fi, std_fb, std_fl, std_fll, std_flll, std_flb, std_fh, dec_ite, dec_cond, dec_bind, dec_elim, dec_none, impl_fill_v1.dc]
  try rfl
theorem impl_fill_v1.TJ16a_mono {α : Type} {rt : (Bool × LI × LI × LI × LLI × Int) → Option α} {kL5a kL5a_ : Int → Int → Int → Int → LI → LI → LI → LLI → Int → Option α} (hkL5a : ∀ x0 x1 x2 x3 x4 x5 x6 x7 x8, Le (kL5a x0 x1 x2 x3 x4 x5 x6 x7 x8) (kL5a_ x0 x1 x2 x3 x4 x5 x6 x7 x8)) {shift at0 t24 t25 : Int} {row told left : LI} {eachc0 : LLI} {eachc1 : Int} : Le (impl_fill_v1.TJ16a Pr.std rt kL5a shift at0 t24 t25 row told left eachc0 eachc1) (impl_fill_v1.TJ16a Pr.std rt kL5a_ shift at0 t24 t25 row told left eachc0 eachc1) := by
  unfold impl_fill_v1.TJ16a
  exact (Le.fi fun _ => (hkL5a _ _ _ _ _ _ _ _ _))
def impl_fill_v1.TL5a {α : Type} (pr : Pr) (rt : (Bool × LI × LI × LI × LLI × Int) → Option α) (kJ16a : Int → Int → Int → Int → LI → LI → LI → LLI → Int → Option α) (kJ9a : Int → Int → Int → Int → Int → Int → Int → LI → LI → LI → LLI → Int → Option α) (shift at0 t24 t25 : Int) (row told left : LI) (eachc0 : LLI) (eachc1 : Int) : Option α :=
  bif (pr.lt t25 t24) then
    if (pr.inR t25 left.length) then
      if (pr.nlt ((t25).toNat) left.length) then
        if (!(pr.eq (pr.gd left ((t25).toNat) 0) 0)) then
          if (!(pr.ge (pr.wr .i64 ((pr.wr .i64 (at0 + (pr.gd left ((t25).toNat) 0))) + shift)) ((row.length : Nat) : Int))) then
            if (pr.inR (pr.wr .i64 ((pr.wr .i64 (at0 + (pr.gd left ((t25).toNat) 0))) + shift)) row.length) then
              if (pr.nlt (((pr.wr .i64 ((pr.wr .i64 (at0 + (pr.gd left ((t25).toNat) 0))) + shift))).toNat) row.length) then
                if (!(pr.ne (pr.gd row (((pr.wr .i64 ((pr.wr .i64 (at0 + (pr.gd left ((t25).toNat) 0))) + shift))).toNat) 0) (-1))) then
                  if (pr.inR at0 told.length) then
                    if (pr.nlt ((at0).toNat) told.length) then
                      if (pr.ne (pr.gd told ((at0).toNat) 0) 0) then
                        if (pr.inR at0 told.length) then
                          if (pr.nlt ((at0).toNat) told.length) then
                            if (!(pr.ne (pr.gd told ((at0).toNat) 0) (pr.gd left ((t25).toNat) 0))) then
                              if (pr.inR (pr.wr .i64 ((pr.wr .i64 (at0 + (pr.gd left ((t25).toNat) 0))) + shift)) told.length) then
                                if (pr.nlt (((pr.wr .i64 ((pr.wr .i64 (at0 + (pr.gd left ((t25).toNat) 0))) + shift))).toNat) told.length) then
                                  if (pr.ne (pr.gd told (((pr.wr .i64 ((pr.wr .i64 (at0 + (pr.gd left ((t25).toNat) 0))) + shift))).toNat) 0) 0) then
                                    if (pr.inR (pr.wr .i64 ((pr.wr .i64 (at0 + (pr.gd left ((t25).toNat) 0))) + shift)) told.length) then
                                      if (pr.nlt (((pr.wr .i64 ((pr.wr .i64 (at0 + (pr.gd left ((t25).toNat) 0))) + shift))).toNat) told.length) then
                                        bif (pr.ne (pr.gd told (((pr.wr .i64 ((pr.wr .i64 (at0 + (pr.gd left ((t25).toNat) 0))) + shift))).toNat) 0) (pr.gd left ((t25).toNat) 0)) then
                                          kJ16a shift at0 t24 t25 row told left eachc0 eachc1
                                        else
                                          pr.fi (pr.gd left ((t25).toNat) 0) fun y3 => pr.fi (pr.wr .i64 ((pr.wr .i64 (at0 + (pr.gd left ((t25).toNat) 0))) + shift)) fun y4 => kJ9a shift at0 t25 y3 y4 t24 t25 row told left eachc0 eachc1
                                      else
                                        none
                                    else
                                      none
                                  else
                                    pr.fi (pr.gd left ((t25).toNat) 0) fun y3 => pr.fi (pr.wr .i64 ((pr.wr .i64 (at0 + (pr.gd left ((t25).toNat) 0))) + shift)) fun y4 => kJ9a shift at0 t25 y3 y4 t24 t25 row told left eachc0 eachc1
                                else
                                  none
                              else
                                none
                            else
                              kJ16a shift at0 t24 t25 row told left eachc0 eachc1
                          else
                            none
                        else
                          none
                      else
                        if (pr.inR (pr.wr .i64 ((pr.wr .i64 (at0 + (pr.gd left ((t25).toNat) 0))) + shift)) told.length) then
                          if (pr.nlt (((pr.wr .i64 ((pr.wr .i64 (at0 + (pr.gd left ((t25).toNat) 0))) + shift))).toNat) told.length) then
                            if (pr.ne (pr.gd told (((pr.wr .i64 ((pr.wr .i64 (at0 + (pr.gd left ((t25).toNat) 0))) + shift))).toNat) 0) 0) then
                              if (pr.inR (pr.wr .i64 ((pr.wr .i64 (at0 + (pr.gd left ((t25).toNat) 0))) + shift)) told.length) then
                                if (pr.nlt (((pr.wr .i64 ((pr.wr .i64 (at0 + (pr.gd left ((t25).toNat) 0))) + shift))).toNat) told.length) then
                                  bif (pr.ne (pr.gd told (((pr.wr .i64 ((pr.wr .i64 (at0 + (pr.gd left ((t25).toNat) 0))) + shift))).toNat) 0) (pr.gd left ((t25).toNat) 0)) then
                                    kJ16a shift at0 t24 t25 row told left eachc0 eachc1
                                  else
                                    pr.fi (pr.gd left ((t25).toNat) 0) fun y3 => pr.fi (pr.wr .i64 ((pr.wr .i64 (at0 + (pr.gd left ((t25).toNat) 0))) + shift)) fun y4 => kJ9a shift at0 t25 y3 y4 t24 t25 row told left eachc0 eachc1
                                else
                                  none
                              else
                                none
                            else
                              pr.fi (pr.gd left ((t25).toNat) 0) fun y3 => pr.fi (pr.wr .i64 ((pr.wr .i64 (at0 + (pr.gd left ((t25).toNat) 0))) + shift)) fun y4 => kJ9a shift at0 t25 y3 y4 t24 t25 row told left eachc0 eachc1
                          else
                            none
                        else
                          none
                    else
                      none
                  else
                    none
                else
                  kJ16a shift at0 t24 t25 row told left eachc0 eachc1
              else
                none
            else
              none
          else
            kJ16a shift at0 t24 t25 row told left eachc0 eachc1
        else
          kJ16a shift at0 t24 t25 row told left eachc0 eachc1
      else
        none
    else
      none
  else
    rt (false, row, told, left, eachc0, eachc1)
theorem impl_fill_v1.QL5a_eq (dep : Nat) (shift at0 t24 t25 : Int) (row told left : LI) (eachc0 : LLI) (eachc1 : Int) : impl_fill_v1.QL5a dep shift at0 t24 t25 row told left eachc0 eachc1 = impl_fill_v1.TL5a Pr.std (fun b => some (impl_fill_v1.ret b)) (impl_fill_v1.QJ16a dep) (impl_fill_v1.QJ9a dep) shift at0 t24 t25 row told left eachc0 eachc1 := (eval_seg (impl_fill_v1.lin dep) 1000000 _ _).trans (by kernel_rfl)
theorem impl_fill_v1.XL5a_eq (dep : Nat) (shift at0 t24 t25 : Int) (row told left : LI) (eachc0 : LLI) (eachc1 : Int) : impl_fill_v1.XL5a dep shift at0 t24 t25 row told left eachc0 eachc1 = impl_fill_v1.TL5a Pr.std some (impl_fill_v1.XJ16a dep) (impl_fill_v1.XJ9a dep) shift at0 t24 t25 row told left eachc0 eachc1 := by
  show dec impl_fill_v1.ret (impl_fill_v1.QL5a dep shift at0 t24 t25 row told left eachc0 eachc1) = _
  rw [impl_fill_v1.QL5a_eq]
  simp only [impl_fill_v1.TL5a, std_fi, std_fb, std_fl, std_fll, std_flll, std_flb, std_fh, dec_ite, dec_cond, dec_bind, dec_elim, dec_none, impl_fill_v1.dc]
  try rfl
theorem impl_fill_v1.TL5a_mono {α : Type} {rt : (Bool × LI × LI × LI × LLI × Int) → Option α} {kJ16a kJ16a_ : Int → Int → Int → Int → LI → LI → LI → LLI → Int → Option α} (hkJ16a : ∀ x0 x1 x2 x3 x4 x5 x6 x7 x8, Le (kJ16a x0 x1 x2 x3 x4 x5 x6 x7 x8) (kJ16a_ x0 x1 x2 x3 x4 x5 x6 x7 x8)) {kJ9a kJ9a_ : Int → Int → Int → Int → Int → Int → Int → LI → LI → LI → LLI → Int → Option α} (hkJ9a : ∀ x0 x1 x2 x3 x4 x5 x6 x7 x8 x9 x10 x11, Le (kJ9a x0 x1 x2 x3 x4 x5 x6 x7 x8 x9 x10 x11) (kJ9a_ x0 x1 x2 x3 x4 x5 x6 x7 x8 x9 x10 x11)) {shift at0 t24 t25 : Int} {row told left : LI} {eachc0 : LLI} {eachc1 : Int} : Le (impl_fill_v1.TL5a Pr.std rt kJ16a kJ9a shift at0 t24 t25 row told left eachc0 eachc1) (impl_fill_v1.TL5a Pr.std rt kJ16a_ kJ9a_ shift at0 t24 t25 row told left eachc0 eachc1) := by
  unfold impl_fill_v1.TL5a
  exact (Le.cond (Le.ite (Le.ite (Le.ite (Le.ite (Le.ite (Le.ite (Le.ite (Le.ite (Le.ite (Le.ite (Le.ite (Le.ite (Le.ite (Le.ite (Le.ite (Le.ite (Le.ite (Le.ite (Le.cond (hkJ16a _ _ _ _ _ _ _ _ _) (Le.fi fun _ => (Le.fi fun _ => (hkJ9a _ _ _ _ _ _ _ _ _ _ _ _)))) Le.rfl') Le.rfl') (Le.fi fun _ => (Le.fi fun _ => (hkJ9a _ _ _ _ _ _ _ _ _ _ _ _)))) Le.rfl') Le.rfl') (hkJ16a _ _ _ _ _ _ _ _ _)) Le.rfl') Le.rfl') (Le.ite (Le.ite (Le.ite (Le.ite (Le.ite (Le.cond (hkJ16a _ _ _ _ _ _ _ _ _) (Le.fi fun _ => (Le.fi fun _ => (hkJ9a _ _ _ _ _ _ _ _ _ _ _ _)))) Le.rfl') Le.rfl') (Le.fi fun _ => (Le.fi fun _ => (hkJ9a _ _ _ _ _ _ _ _ _ _ _ _)))) Le.rfl') Le.rfl')) Le.rfl') Le.rfl') (hkJ16a _ _ _ _ _ _ _ _ _)) Le.rfl') Le.rfl') (hkJ16a _ _ _ _ _ _ _ _ _)) (hkJ16a _ _ _ _ _ _ _ _ _)) Le.rfl') Le.rfl') Le.rfl')
def impl_fill_v1.TJ9a {α : Type} (pr : Pr) (rt : (Bool × LI × LI × LI × LLI × Int) → Option α) (kJ16a : Int → Int → Int → Int → LI → LI → LI → LLI → Int → Option α) (self : (Int × LI × LI × LI × LLI × Int) → Option (Bool × LI × LI × LI × LLI × Int)) (shift at0 i n to t24 t25 : Int) (row told left : LI) (eachc0 : LLI) (eachc1 : Int) : Option α :=
  if (pr.inR at0 row.length) then
    if ((pr.nlt ((at0).toNat) row.length) && true) then
      if (pr.inR to ((pr.st row ((at0).toNat) n).length)) then
        if ((pr.nlt ((to).toNat) (pr.st row ((at0).toNat) n).length) && true) then
          if (pr.inR i left.length) then
            if ((pr.nlt ((i).toNat) left.length) && true) then
              pr.fl (pr.st (pr.st row ((at0).toNat) n) ((to).toNat) n) fun y1 => pr.fl (pr.st left ((i).toNat) (0 : Int)) fun y3 => (self (shift, y1, told, y3, eachc0, eachc1)).bind fun rr1 =>
                if (pr.inR i rr1.2.2.2.1.length) then
                  if ((pr.nlt ((i).toNat) rr1.2.2.2.1.length) && true) then
                    if (pr.inR at0 rr1.2.1.length) then
                      if ((pr.nlt ((at0).toNat) rr1.2.1.length) && true) then
                        if (pr.inR to ((pr.st rr1.2.1 ((at0).toNat) (-1 : Int)).length)) then
                          if ((pr.nlt ((to).toNat) (pr.st rr1.2.1 ((at0).toNat) (-1 : Int)).length) && true) then
                            bif rr1.1 then
                              pr.fl (pr.st (pr.st rr1.2.1 ((at0).toNat) (-1 : Int)) ((to).toNat) (-1 : Int)) fun y1 => pr.fh rr1.2.2.1 fun y2 => pr.fl (pr.st rr1.2.2.2.1 ((i).toNat) n) fun y3 => pr.fh rr1.2.2.2.2.1 fun y4 => pr.fi rr1.2.2.2.2.2 fun y5 => rt (true, y1, y2, y3, y4, y5)
                            else
                              pr.fl (pr.st (pr.st rr1.2.1 ((at0).toNat) (-1 : Int)) ((to).toNat) (-1 : Int)) fun y4 => pr.fh rr1.2.2.1 fun y5 => pr.fl (pr.st rr1.2.2.2.1 ((i).toNat) n) fun y6 => pr.fh rr1.2.2.2.2.1 fun y7 => pr.fi rr1.2.2.2.2.2 fun y8 => kJ16a shift at0 t24 t25 y4 y5 y6 y7 y8
                          else
                            none
                        else
                          none
                      else
                        none
                    else
                      none
                  else
                    none
                else
                  none
            else
              none
          else
            none
        else
          none
      else
        none
    else
      none
  else
    none
theorem impl_fill_v1.QJ9a_eq (dep : Nat) (shift at0 i n to t24 t25 : Int) (row told left : LI) (eachc0 : LLI) (eachc1 : Int) : impl_fill_v1.QJ9a dep shift at0 i n to t24 t25 row told left eachc0 eachc1 = impl_fill_v1.TJ9a Pr.std (fun b => some (impl_fill_v1.ret b)) (impl_fill_v1.QJ16a dep) (impl_fill_v1.X dep) shift at0 i n to t24 t25 row told left eachc0 eachc1 := (eval_seg (impl_fill_v1.lin dep) 1000000 _ _).trans (by kernel_rfl)
theorem impl_fill_v1.XJ9a_eq (dep : Nat) (shift at0 i n to t24 t25 : Int) (row told left : LI) (eachc0 : LLI) (eachc1 : Int) : impl_fill_v1.XJ9a dep shift at0 i n to t24 t25 row told left eachc0 eachc1 = impl_fill_v1.TJ9a Pr.std some (impl_fill_v1.XJ16a dep) (impl_fill_v1.X dep) shift at0 i n to t24 t25 row told left eachc0 eachc1 := by
  show dec impl_fill_v1.ret (impl_fill_v1.QJ9a dep shift at0 i n to t24 t25 row told left eachc0 eachc1) = _
  rw [impl_fill_v1.QJ9a_eq]
  simp only [impl_fill_v1.TJ9a, std_fi, std_fb, std_fl, std_fll, std_flll, std_flb, std_fh, dec_ite, dec_cond, dec_bind, dec_elim, dec_none, impl_fill_v1.dc]
  try rfl
theorem impl_fill_v1.TJ9a_mono {α : Type} {rt : (Bool × LI × LI × LI × LLI × Int) → Option α} {kJ16a kJ16a_ : Int → Int → Int → Int → LI → LI → LI → LLI → Int → Option α} (hkJ16a : ∀ x0 x1 x2 x3 x4 x5 x6 x7 x8, Le (kJ16a x0 x1 x2 x3 x4 x5 x6 x7 x8) (kJ16a_ x0 x1 x2 x3 x4 x5 x6 x7 x8)) {self self_ : (Int × LI × LI × LI × LLI × Int) → Option (Bool × LI × LI × LI × LLI × Int)} (hself : ∀ x, Le (self x) (self_ x)) {shift at0 i n to t24 t25 : Int} {row told left : LI} {eachc0 : LLI} {eachc1 : Int} : Le (impl_fill_v1.TJ9a Pr.std rt kJ16a self shift at0 i n to t24 t25 row told left eachc0 eachc1) (impl_fill_v1.TJ9a Pr.std rt kJ16a_ self_ shift at0 i n to t24 t25 row told left eachc0 eachc1) := by
  unfold impl_fill_v1.TJ9a
  exact (Le.ite (Le.ite (Le.ite (Le.ite (Le.ite (Le.ite (Le.fl fun _ => (Le.fl fun _ => (Le.bind (hself _) (fun rr1 => (Le.ite (Le.ite (Le.ite (Le.ite (Le.ite (Le.ite (Le.cond Le.rfl' (Le.fl fun _ => (Le.fh fun _ => (Le.fl fun _ => (Le.fh fun _ => (Le.fi fun _ => (hkJ16a _ _ _ _ _ _ _ _ _))))))) Le.rfl') Le.rfl') Le.rfl') Le.rfl') Le.rfl') Le.rfl'))))) Le.rfl') Le.rfl') Le.rfl') Le.rfl') Le.rfl') Le.rfl')
noncomputable def impl_fill_v1.Cs (fu : Nat) : (Int → Int → Int → Int → LI → LI → LI → LLI → Int → Option (Bool × LI × LI × LI × LLI × Int)) × (Int → Int → Int → Int → LI → LI → LI → LLI → Int → Option (Bool × LI × LI × LI × LLI × Int)) × (Int → Int → Int → Int → Int → Int → Int → LI → LI → LI → LLI → Int → Option (Bool × LI × LI × LI × LLI × Int)) × (Int → Int → Int → Int → LI → LI → LI → LLI → Int → Option (Bool × LI × LI × LI × LLI × Int)) × (Int → Int → Int → Int → LI → LI → LI → LLI → Int → Option (Bool × LI × LI × LI × LLI × Int)) × (Int → Int → Int → Int → Int → Int → Int → LI → LI → LI → LLI → Int → Option (Bool × LI × LI × LI × LLI × Int)) × ((Int × LI × LI × LI × LLI × Int) → Option (Bool × LI × LI × LI × LLI × Int)) := @Nat.rec (fun _ => (Int → Int → Int → Int → LI → LI → LI → LLI → Int → Option (Bool × LI × LI × LI × LLI × Int)) × (Int → Int → Int → Int → LI → LI → LI → LLI → Int → Option (Bool × LI × LI × LI × LLI × Int)) × (Int → Int → Int → Int → Int → Int → Int → LI → LI → LI → LLI → Int → Option (Bool × LI × LI × LI × LLI × Int)) × (Int → Int → Int → Int → LI → LI → LI → LLI → Int → Option (Bool × LI × LI × LI × LLI × Int)) × (Int → Int → Int → Int → LI → LI → LI → LLI → Int → Option (Bool × LI × LI × LI × LLI × Int)) × (Int → Int → Int → Int → Int → Int → Int → LI → LI → LI → LLI → Int → Option (Bool × LI × LI × LI × LLI × Int)) × ((Int × LI × LI × LI × LLI × Int) → Option (Bool × LI × LI × LI × LLI × Int))) ⟨fun _ _ _ _ _ _ _ _ _ => none, fun _ _ _ _ _ _ _ _ _ => none, fun _ _ _ _ _ _ _ _ _ _ _ _ => none, fun _ _ _ _ _ _ _ _ _ => none, fun _ _ _ _ _ _ _ _ _ => none, fun _ _ _ _ _ _ _ _ _ _ _ _ => none, fun _ => none⟩ (fun fu pv => ⟨fun shift at0 t24 t25 row told left eachc0 eachc1 => impl_fill_v1.TL5 Pr.quick some (pv.2.1) (pv.2.2.1) shift at0 t24 t25 row told left eachc0 eachc1, fun shift at0 t24 t25 row told left eachc0 eachc1 => impl_fill_v1.TJ16 Pr.quick some (pv.1) shift at0 t24 t25 row told left eachc0 eachc1, fun shift at0 i n to t24 t25 row told left eachc0 eachc1 => impl_fill_v1.TJ9 Pr.quick some (pv.2.2.2.1) (pv.2.2.2.2.2.2) shift at0 i n to t24 t25 row told left eachc0 eachc1, fun shift at0 t24 t25 row told left eachc0 eachc1 => impl_fill_v1.TJ16a Pr.quick some (pv.2.2.2.2.1) shift at0 t24 t25 row told left eachc0 eachc1, fun shift at0 t24 t25 row told left eachc0 eachc1 => impl_fill_v1.TL5a Pr.quick some (pv.2.2.2.1) (pv.2.2.2.2.2.1) shift at0 t24 t25 row told left eachc0 eachc1, fun shift at0 i n to t24 t25 row told left eachc0 eachc1 => impl_fill_v1.TJ9a Pr.quick some (pv.2.2.2.1) (pv.2.2.2.2.2.2) shift at0 i n to t24 t25 row told left eachc0 eachc1, fun a => impl_fill_v1.T Pr.quick some (pv.1) (slices_Index_int_int.C fu) (impl_kind_all_1.C fu) a.1 a.2.1 a.2.2.1 a.2.2.2.1 a.2.2.2.2.1 a.2.2.2.2.2⟩) fu
noncomputable def impl_fill_v1.CL5 (fu : Nat) : Int → Int → Int → Int → LI → LI → LI → LLI → Int → Option (Bool × LI × LI × LI × LLI × Int) := (impl_fill_v1.Cs fu).1
noncomputable def impl_fill_v1.CJ16 (fu : Nat) : Int → Int → Int → Int → LI → LI → LI → LLI → Int → Option (Bool × LI × LI × LI × LLI × Int) := (impl_fill_v1.Cs fu).2.1
noncomputable def impl_fill_v1.CJ9 (fu : Nat) : Int → Int → Int → Int → Int → Int → Int → LI → LI → LI → LLI → Int → Option (Bool × LI × LI × LI × LLI × Int) := (impl_fill_v1.Cs fu).2.2.1
noncomputable def impl_fill_v1.CJ16a (fu : Nat) : Int → Int → Int → Int → LI → LI → LI → LLI → Int → Option (Bool × LI × LI × LI × LLI × Int) := (impl_fill_v1.Cs fu).2.2.2.1
noncomputable def impl_fill_v1.CL5a (fu : Nat) : Int → Int → Int → Int → LI → LI → LI → LLI → Int → Option (Bool × LI × LI × LI × LLI × Int) := (impl_fill_v1.Cs fu).2.2.2.2.1
noncomputable def impl_fill_v1.CJ9a (fu : Nat) : Int → Int → Int → Int → Int → Int → Int → LI → LI → LI → LLI → Int → Option (Bool × LI × LI × LI × LLI × Int) := (impl_fill_v1.Cs fu).2.2.2.2.2.1
noncomputable def impl_fill_v1.C (fu : Nat) : (Int × LI × LI × LI × LLI × Int) → Option (Bool × LI × LI × LI × LLI × Int) := (impl_fill_v1.Cs fu).2.2.2.2.2.2
theorem impl_fill_v1.C_okd : ∀ fu dep, fu ≤ dep → dep ≤ 100000 → (∀ a, Le (impl_fill_v1.C fu a) (impl_fill_v1.X dep a)) ∧ (∀ shift at0 t24 t25 row told left eachc0 eachc1, Le (impl_fill_v1.CL5 fu shift at0 t24 t25 row told left eachc0 eachc1) (impl_fill_v1.XL5 dep shift at0 t24 t25 row told left eachc0 eachc1)) ∧ (∀ shift at0 t24 t25 row told left eachc0 eachc1, Le (impl_fill_v1.CJ16 fu shift at0 t24 t25 row told left eachc0 eachc1) (impl_fill_v1.XJ16 dep shift at0 t24 t25 row told left eachc0 eachc1)) ∧ (∀ shift at0 i n to t24 t25 row told left eachc0 eachc1, Le (impl_fill_v1.CJ9 fu shift at0 i n to t24 t25 row told left eachc0 eachc1) (impl_fill_v1.XJ9 dep shift at0 i n to t24 t25 row told left eachc0 eachc1)) ∧ (∀ shift at0 t24 t25 row told left eachc0 eachc1, Le (impl_fill_v1.CJ16a fu shift at0 t24 t25 row told left eachc0 eachc1) (impl_fill_v1.XJ16a dep shift at0 t24 t25 row told left eachc0 eachc1)) ∧ (∀ shift at0 t24 t25 row told left eachc0 eachc1, Le (impl_fill_v1.CL5a fu shift at0 t24 t25 row told left eachc0 eachc1) (impl_fill_v1.XL5a dep shift at0 t24 t25 row told left eachc0 eachc1)) ∧ (∀ shift at0 i n to t24 t25 row told left eachc0 eachc1, Le (impl_fill_v1.CJ9a fu shift at0 i n to t24 t25 row told left eachc0 eachc1) (impl_fill_v1.XJ9a dep shift at0 i n to t24 t25 row told left eachc0 eachc1))
  | 0, dep, _, _ => by
    refine ⟨?_, ?_, ?_, ?_, ?_, ?_, ?_⟩
    all_goals (intros; exact Le.none)
  | fu + 1, dep, hd, hd2 => by
    obtain ⟨dep, rfl⟩ : ∃ e, dep = e + 1 := ⟨dep - 1, by omega⟩
    have ih := fun e (he : fu ≤ e) (he2 : e ≤ 100000) => impl_fill_v1.C_okd fu e he he2
    refine ⟨?_, ?_, ?_, ?_, ?_, ?_, ?_⟩
    · intro a
      obtain ⟨shift, row, told, left, eachc0, eachc1⟩ := a
      show Le (impl_fill_v1.T Pr.quick some (impl_fill_v1.CL5 fu) (slices_Index_int_int.C fu) (impl_kind_all_1.C fu) shift row told left eachc0 eachc1) _
      rw [Pr.quick_eq, impl_fill_v1.X_eq]
      exact impl_fill_v1.T_mono ((ih dep (by omega) (by omega)).2.1) (fun x => slices_Index_int_int.C_ok fu (by omega) x) (fun x => impl_kind_all_1.C_ok fu (by omega) x)
    · intro shift at0 t24 t25 row told left eachc0 eachc1
      show Le (impl_fill_v1.TL5 Pr.quick some (impl_fill_v1.CJ16 fu) (impl_fill_v1.CJ9 fu) shift at0 t24 t25 row told left eachc0 eachc1) _
      rw [Pr.quick_eq, impl_fill_v1.XL5_eq]
      exact impl_fill_v1.TL5_mono ((ih (dep + 1) (by omega) (by omega)).2.2.1) ((ih (dep + 1) (by omega) (by omega)).2.2.2.1)
    · intro shift at0 t24 t25 row told left eachc0 eachc1
      show Le (impl_fill_v1.TJ16 Pr.quick some (impl_fill_v1.CL5 fu) shift at0 t24 t25 row told left eachc0 eachc1) _
      rw [Pr.quick_eq, impl_fill_v1.XJ16_eq]
      exact impl_fill_v1.TJ16_mono ((ih (dep + 1) (by omega) (by omega)).2.1)
    · intro shift at0 i n to t24 t25 row told left eachc0 eachc1
      show Le (impl_fill_v1.TJ9 Pr.quick some (impl_fill_v1.CJ16a fu) (impl_fill_v1.C fu) shift at0 i n to t24 t25 row told left eachc0 eachc1) _
      rw [Pr.quick_eq, impl_fill_v1.XJ9_eq]
      exact impl_fill_v1.TJ9_mono ((ih (dep + 1) (by omega) (by omega)).2.2.2.2.1) ((ih (dep + 1) (by omega) (by omega)).1)
    · intro shift at0 t24 t25 row told left eachc0 eachc1
      show Le (impl_fill_v1.TJ16a Pr.quick some (impl_fill_v1.CL5a fu) shift at0 t24 t25 row told left eachc0 eachc1) _
      rw [Pr.quick_eq, impl_fill_v1.XJ16a_eq]
      exact impl_fill_v1.TJ16a_mono ((ih (dep + 1) (by omega) (by omega)).2.2.2.2.2.1)
    · intro shift at0 t24 t25 row told left eachc0 eachc1
      show Le (impl_fill_v1.TL5a Pr.quick some (impl_fill_v1.CJ16a fu) (impl_fill_v1.CJ9a fu) shift at0 t24 t25 row told left eachc0 eachc1) _
      rw [Pr.quick_eq, impl_fill_v1.XL5a_eq]
      exact impl_fill_v1.TL5a_mono ((ih (dep + 1) (by omega) (by omega)).2.2.2.2.1) ((ih (dep + 1) (by omega) (by omega)).2.2.2.2.2.2)
    · intro shift at0 i n to t24 t25 row told left eachc0 eachc1
      show Le (impl_fill_v1.TJ9a Pr.quick some (impl_fill_v1.CJ16a fu) (impl_fill_v1.C fu) shift at0 i n to t24 t25 row told left eachc0 eachc1) _
      rw [Pr.quick_eq, impl_fill_v1.XJ9a_eq]
      exact impl_fill_v1.TJ9a_mono ((ih (dep + 1) (by omega) (by omega)).2.2.2.2.1) ((ih (dep + 1) (by omega) (by omega)).1)
theorem impl_fill_v1.C_ok (fu : Nat) (hfu : fu ≤ 100000) (a : Int × LI × LI × LI × LLI × Int) : Le (impl_fill_v1.C fu a) (impl_fill_v1.XX a) := (impl_fill_v1.C_okd fu 100000 hfu (Nat.le_refl _)).1 a
end Go.VS
