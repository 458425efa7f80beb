/- printed by gen.py: a part of the walk through the program. No condition. -/
import Derived.Test.YtnibmainjgcmaaaV13
import Derived.Test.YtnibmainjgcmaaaChecked
set_option maxRecDepth 100000
namespace Go.VS
abbrev LI := List Int
abbrev LLI := List (List Int)
def TY : List (Nat × TI) := [(3, .cell (.int .i64 0)), (4, .cell (.bool false)), (5, .cell (.int .u8 0)), (22, .slice 5 (.int .u8)), (28, .slice 31 (.sl (.int .i64))), (31, .slice 3 (.int .i64)), (50, .cell .fnil), (57, .cell .fnil), (60, .cell .dead), (64, .agg 9 [(0, 1, false), (1, 1, false), (2, 1, false), (3, 1, false), (4, 1, false), (5, 1, false), (6, 1, false), (7, 1, false), (8, 1, false)] [.snil, .int .i64 0, .int .i64 0, .int .i64 0, .int .i64 0, .int .i64 0, .int .i64 0, .int .i64 0, .snil]), (73, .cell .dead), (74, .cell (.int .u64 0)), (76, .agg 3 [(0, 1, false), (1, 1, false), (2, 1, false)] [.snil, .int .i64 0, .int .u64 0]), (83, .arr 21 31 [.snil, .snil, .snil, .snil, .snil, .snil, .snil, .snil, .snil, .snil, .snil, .snil, .snil, .snil, .snil, .snil, .snil, .snil, .snil, .snil, .snil])]
theorem tyOk : tyB Go.Proofs.Try.prog TY = true := by kernel_rfl
theorem mixed : Go.Proofs.Try.prog.follows .mixedOrders = true := by kernel_rfl
end Go.VS
-- printed by gen.py
set_option linter.unusedVariables false
set_option linter.unusedSimpArgs false
set_option maxRecDepth 100000
namespace Go.VS
/-! ### loop.example/g01232/laws.big -/
def laws_big.s0 (a : LI × LI) : St := { slots := [.sl (.int .u8) a.1, .sl (.int .u8) a.2], rows := [], boxes := [] }
def laws_big.pat : St → Option (LI × LI)
  | { slots := [.sl (.int .u8) code, .sl (.int .u8) more], rows := [], boxes := [], gd := [] } => some (code, more)
  | _ => none
theorem laws_big.hp : ∀ st a, laws_big.pat st = some a → st = laws_big.s0 a := by
  intro st a h
  unfold laws_big.pat at h
  split at h
  · cases h; rfl
  · cases h
def laws_big.ret (r : Bool) : R := ({ slots := [], rows := [], boxes := [] }, [.bool r])
def laws_big.ap (b : Bool) (K : St → List V → Option R) : Option R := K (laws_big.ret b).1 (laws_big.ret b).2
theorem laws_big.hap : ∀ b K, laws_big.ap b K = K (laws_big.ret b).1 (laws_big.ret b).2 := fun _ _ => rfl
theorem laws_big.inj : ∀ x y, laws_big.ret x = laws_big.ret y → x = y := by
  intro x y h
  cases h; rfl
theorem laws_big.dc (x : Bool) : dec laws_big.ret (some (laws_big.ret x)) = some x := dec_ret laws_big.inj x
noncomputable def laws_big.cx : Cx := { ty := TY, fns := [], nk := [], sharp := true }
noncomputable def laws_big.body : Code := Go.Proofs.Try.f5.body.getD .skip
def laws_big.fl : Fn := { loops := [], joins := [], nr := 0, nb := 0, rs := [.tmp 4], pre := [], mv := [], fz := [] }
noncomputable def laws_big.Q (a : LI × LI) : Option R := eval laws_big.cx laws_big.fl [.code laws_big.body] (start 16 (laws_big.s0 a))
noncomputable def laws_big.X (a : LI × LI) : Option (Bool) := dec laws_big.ret (laws_big.Q a)
theorem laws_big.fns : FnsOk Go.Proofs.Try.prog laws_big.cx := show FnsL _ _ from fns_nil
theorem laws_big.lin : laws_big.cx.Lin := Lin.of_fns laws_big.fns
noncomputable def laws_big.E : Entry := mkE [] laws_big.pat laws_big.X laws_big.ap
theorem laws_big.ok : EntOk Go.Proofs.Try.prog 5 laws_big.E := mkE_ok (fun w args => Go.Proofs.Try.call5 args w) laws_big.hp laws_big.hap fun a b h => vc_of_X mixed (tyB_ok (cx := laws_big.cx) tyOk) laws_big.fns (fl := laws_big.fl) Go.Proofs.Try.func5 (code := laws_big.body) (by kernel_rfl) (n := 16) (by kernel_rfl) (by kernel_rfl) (by decide) (by decide) rfl rfl h
def laws_big.T {α : Type} (pr : Pr) (rt : Bool → Option α) (code more : LI) : Option α :=
  if (!(pr.gt ((code.length : Nat) : Int) 1048576)) then
    pr.fb (pr.gt ((more.length : Nat) : Int) (pr.wr .i64 ((1048576 : Int) - ((code.length : Nat) : Int)))) fun y0 => rt y0
  else
    rt true
theorem laws_big.Q_eq (code more : LI) : laws_big.Q (code, more) = laws_big.T Pr.std (fun b => some (laws_big.ret b)) code more := (eval_seg laws_big.lin 1000000 _ _).trans (by kernel_rfl)
theorem laws_big.X_eq (code more : LI) : laws_big.X (code, more) = laws_big.T Pr.std some code more := by
  show dec laws_big.ret (laws_big.Q (code, more)) = _
  rw [laws_big.Q_eq]
  simp only [laws_big.T, std_fi, std_fb, std_fl, std_fll, std_flll, std_flb, std_fh, dec_ite, dec_cond, dec_bind, dec_elim, dec_none, laws_big.dc]
  try rfl
theorem laws_big.T_mono {α : Type} {rt : (Bool) → Option α} {code more : LI} : Le (laws_big.T Pr.std rt code more) (laws_big.T Pr.std rt code more) := by
  unfold laws_big.T
  exact (Le.ite Le.rfl' Le.rfl')
noncomputable def laws_big.C (fu : Nat) (a : LI × LI) : Option (Bool) := laws_big.T Pr.quick some a.1 a.2
theorem laws_big.C_ok (fu : Nat) (hfu : fu ≤ 100000) (a : LI × LI) : Le (laws_big.C fu a) (laws_big.X a) := by
  obtain ⟨code, more⟩ := a
  show Le (laws_big.T Pr.quick some code more) _
  rw [Pr.quick_eq, laws_big.X_eq]
  exact laws_big.T_mono
/-! ### (*loop.example/g01232/spec.l1Cur).next -/
def spec_l1Cur_next.s0 (a : LI × Int × Int) : St := { slots := [.ptr 0 0], rows := [], boxes := [(0, [.sl (.int .u8) a.1, .int .i64 a.2.1, .int .u64 a.2.2])] }
def spec_l1Cur_next.pat : St → Option (LI × Int × Int)
  | { slots := [.ptr 0 0], rows := [], boxes := [(0, [.sl (.int .u8) c_0, .int .i64 c_1, .int .u64 c_2])], gd := [] } => some (c_0, c_1, c_2)
  | _ => none
theorem spec_l1Cur_next.hp : ∀ st a, spec_l1Cur_next.pat st = some a → st = spec_l1Cur_next.s0 a := by
  intro st a h
  unfold spec_l1Cur_next.pat at h
  split at h
  · cases h; rfl
  · cases h
def spec_l1Cur_next.ret (r : Int × LI × Int × Int) : R := ({ slots := [], rows := [], boxes := [(0, [.sl (.int .u8) r.2.1, .int .i64 r.2.2.1, .int .u64 r.2.2.2])] }, [.int .i64 r.1])
def spec_l1Cur_next.ap (b : Int × LI × Int × Int) (K : St → List V → Option R) : Option R := K (spec_l1Cur_next.ret b).1 (spec_l1Cur_next.ret b).2
theorem spec_l1Cur_next.hap : ∀ b K, spec_l1Cur_next.ap b K = K (spec_l1Cur_next.ret b).1 (spec_l1Cur_next.ret b).2 := fun _ _ => rfl
theorem spec_l1Cur_next.inj : ∀ x y, spec_l1Cur_next.ret x = spec_l1Cur_next.ret y → x = y := by
  intro x y h
  obtain ⟨x1, x2, x3, x4⟩ := x; obtain ⟨y1, y2, y3, y4⟩ := y; cases h; rfl
theorem spec_l1Cur_next.dc (x : Int × LI × Int × Int) : dec spec_l1Cur_next.ret (some (spec_l1Cur_next.ret x)) = some x := dec_ret spec_l1Cur_next.inj x
noncomputable def spec_l1Cur_next.cx : Cx := { ty := TY, fns := [], nk := [], sharp := true }
noncomputable def spec_l1Cur_next.body : Code := Go.Proofs.Try.f104.body.getD .skip
def spec_l1Cur_next.fl : Fn := { loops := [], joins := [], nr := 0, nb := 1, rs := [.tmp 2], pre := [], mv := [], fz := [] }
noncomputable def spec_l1Cur_next.Q (a : LI × Int × Int) : Option R := eval spec_l1Cur_next.cx spec_l1Cur_next.fl [.code spec_l1Cur_next.body] (start 62 (spec_l1Cur_next.s0 a))
noncomputable def spec_l1Cur_next.X (a : LI × Int × Int) : Option (Int × LI × Int × Int) := dec spec_l1Cur_next.ret (spec_l1Cur_next.Q a)
theorem spec_l1Cur_next.fns : FnsOk Go.Proofs.Try.prog spec_l1Cur_next.cx := show FnsL _ _ from fns_nil
theorem spec_l1Cur_next.lin : spec_l1Cur_next.cx.Lin := Lin.of_fns spec_l1Cur_next.fns
noncomputable def spec_l1Cur_next.E : Entry := mkE [[true]] spec_l1Cur_next.pat spec_l1Cur_next.X spec_l1Cur_next.ap
theorem spec_l1Cur_next.ok : EntOk Go.Proofs.Try.prog 104 spec_l1Cur_next.E := mkE_ok (fun w args => Go.Proofs.Try.call104 args w) spec_l1Cur_next.hp spec_l1Cur_next.hap fun a b h => vc_of_X mixed (tyB_ok (cx := spec_l1Cur_next.cx) tyOk) spec_l1Cur_next.fns (fl := spec_l1Cur_next.fl) Go.Proofs.Try.func104 (code := spec_l1Cur_next.body) (by kernel_rfl) (n := 62) (by kernel_rfl) (by kernel_rfl) (by decide) (by decide) rfl rfl h
def spec_l1Cur_next.T {α : Type} (pr : Pr) (rt : (Int × LI × Int × Int) → Option α) (c_0 : LI) (c_1 c_2 : Int) : Option α :=
  bif (pr.lt c_1 ((c_0.length : Nat) : Int)) then
    if (pr.inR c_1 c_0.length) then
      bif (pr.le (pr.wr .i64 (c_1 + 1)) ((c_0.length : Nat) : Int)) then
        pr.fi (pr.wr .i64 (pr.gd c_0 ((c_1).toNat) 0)) fun y0 => pr.fi (pr.wr .i64 (c_1 + 1)) fun y2 => pr.fi (pr.wr .u64 ((pr.wr .u64 ((pr.wr .u64 (c_2 * 6364136223846793005)) + (pr.wr .u64 (pr.wr .i64 (pr.gd c_0 ((c_1).toNat) 0))))) + 1442695040888963407)) fun y3 => rt (y0, c_0, y2, y3)
      else
        pr.fi (pr.wr .i64 (pr.band .u64 (pr.shr .u64 (pr.wr .u64 ((pr.wr .u64 ((pr.wr .u64 (c_2 * 6364136223846793005)) + (pr.wr .u64 (pr.wr .i64 (pr.gd c_0 ((c_1).toNat) 0))))) + 1442695040888963407)) 40) 255)) fun y0 => pr.fi (pr.wr .i64 (c_1 + 1)) fun y2 => pr.fi (pr.wr .u64 ((pr.wr .u64 ((pr.wr .u64 (c_2 * 6364136223846793005)) + (pr.wr .u64 (pr.wr .i64 (pr.gd c_0 ((c_1).toNat) 0))))) + 1442695040888963407)) fun y3 => rt (y0, c_0, y2, y3)
    else
      none
  else
    bif (pr.le (pr.wr .i64 (c_1 + 1)) ((c_0.length : Nat) : Int)) then
      pr.fi (pr.wr .i64 (c_1 + 1)) fun y2 => pr.fi (pr.wr .u64 ((pr.wr .u64 ((pr.wr .u64 (c_2 * 6364136223846793005)) + 0)) + 1442695040888963407)) fun y3 => rt (0, c_0, y2, y3)
    else
      pr.fi (pr.wr .i64 (pr.band .u64 (pr.shr .u64 (pr.wr .u64 ((pr.wr .u64 ((pr.wr .u64 (c_2 * 6364136223846793005)) + 0)) + 1442695040888963407)) 40) 255)) fun y0 => pr.fi (pr.wr .i64 (c_1 + 1)) fun y2 => pr.fi (pr.wr .u64 ((pr.wr .u64 ((pr.wr .u64 (c_2 * 6364136223846793005)) + 0)) + 1442695040888963407)) fun y3 => rt (y0, c_0, y2, y3)
theorem spec_l1Cur_next.Q_eq (c_0 : LI) (c_1 c_2 : Int) : spec_l1Cur_next.Q (c_0, c_1, c_2) = spec_l1Cur_next.T Pr.std (fun b => some (spec_l1Cur_next.ret b)) c_0 c_1 c_2 := (eval_seg spec_l1Cur_next.lin 1000000 _ _).trans (by kernel_rfl)
theorem spec_l1Cur_next.X_eq (c_0 : LI) (c_1 c_2 : Int) : spec_l1Cur_next.X (c_0, c_1, c_2) = spec_l1Cur_next.T Pr.std some c_0 c_1 c_2 := by
  show dec spec_l1Cur_next.ret (spec_l1Cur_next.Q (c_0, c_1, c_2)) = _
  rw [spec_l1Cur_next.Q_eq]
  simp only [spec_l1Cur_next.T, std_fi, std_fb, std_fl, std_fll, std_flll, std_flb, std_fh, dec_ite, dec_cond, dec_bind, dec_elim, dec_none, spec_l1Cur_next.dc]
  try rfl
theorem spec_l1Cur_next.T_mono {α : Type} {rt : (Int × LI × Int × Int) → Option α} {c_0 : LI} {c_1 c_2 : Int} : Le (spec_l1Cur_next.T Pr.std rt c_0 c_1 c_2) (spec_l1Cur_next.T Pr.std rt c_0 c_1 c_2) := by
  unfold spec_l1Cur_next.T
  exact (Le.cond (Le.ite (Le.cond Le.rfl' Le.rfl') Le.rfl') (Le.cond Le.rfl' Le.rfl'))
noncomputable def spec_l1Cur_next.C (fu : Nat) (a : LI × Int × Int) : Option (Int × LI × Int × Int) := spec_l1Cur_next.T Pr.quick some a.1 a.2.1 a.2.2
theorem spec_l1Cur_next.C_ok (fu : Nat) (hfu : fu ≤ 100000) (a : LI × Int × Int) : Le (spec_l1Cur_next.C fu a) (spec_l1Cur_next.X a) := by
  obtain ⟨c_0, c_1, c_2⟩ := a
  show Le (spec_l1Cur_next.T Pr.quick some c_0 c_1 c_2) _
  rw [Pr.quick_eq, spec_l1Cur_next.X_eq]
  exact spec_l1Cur_next.T_mono
/-! ### (*loop.example/g01232/spec.l1Cur).pick -/
def spec_l1Cur_pick.s0 (a : Int × LI × Int × Int) : St := { slots := [.ptr 0 0, .int .i64 a.1], rows := [], boxes := [(0, [.sl (.int .u8) a.2.1, .int .i64 a.2.2.1, .int .u64 a.2.2.2])] }
def spec_l1Cur_pick.pat : St → Option (Int × LI × Int × Int)
  | { slots := [.ptr 0 0, .int .i64 n], rows := [], boxes := [(0, [.sl (.int .u8) c_0, .int .i64 c_1, .int .u64 c_2])], gd := [] } => some (n, c_0, c_1, c_2)
  | _ => none
theorem spec_l1Cur_pick.hp : ∀ st a, spec_l1Cur_pick.pat st = some a → st = spec_l1Cur_pick.s0 a := by
  intro st a h
  unfold spec_l1Cur_pick.pat at h
  split at h
  · cases h; rfl
  · cases h
def spec_l1Cur_pick.ret (r : Int × LI × Int × Int) : R := ({ slots := [], rows := [], boxes := [(0, [.sl (.int .u8) r.2.1, .int .i64 r.2.2.1, .int .u64 r.2.2.2])] }, [.int .i64 r.1])
def spec_l1Cur_pick.ap (b : Int × LI × Int × Int) (K : St → List V → Option R) : Option R := K (spec_l1Cur_pick.ret b).1 (spec_l1Cur_pick.ret b).2
theorem spec_l1Cur_pick.hap : ∀ b K, spec_l1Cur_pick.ap b K = K (spec_l1Cur_pick.ret b).1 (spec_l1Cur_pick.ret b).2 := fun _ _ => rfl
theorem spec_l1Cur_pick.inj : ∀ x y, spec_l1Cur_pick.ret x = spec_l1Cur_pick.ret y → x = y := by
  intro x y h
  obtain ⟨x1, x2, x3, x4⟩ := x; obtain ⟨y1, y2, y3, y4⟩ := y; cases h; rfl
theorem spec_l1Cur_pick.dc (x : Int × LI × Int × Int) : dec spec_l1Cur_pick.ret (some (spec_l1Cur_pick.ret x)) = some x := dec_ret spec_l1Cur_pick.inj x
noncomputable def spec_l1Cur_pick.cx : Cx := { ty := TY, fns := [(104, spec_l1Cur_next.E)], nk := [], sharp := true }
noncomputable def spec_l1Cur_pick.body : Code := Go.Proofs.Try.f97.body.getD .skip
def spec_l1Cur_pick.fl : Fn := { loops := [], joins := [], nr := 0, nb := 1, rs := [.tmp 4], pre := [], mv := [], fz := [] }
noncomputable def spec_l1Cur_pick.Q (a : Int × LI × Int × Int) : Option R := eval spec_l1Cur_pick.cx spec_l1Cur_pick.fl [.code spec_l1Cur_pick.body] (start 20 (spec_l1Cur_pick.s0 a))
noncomputable def spec_l1Cur_pick.X (a : Int × LI × Int × Int) : Option (Int × LI × Int × Int) := dec spec_l1Cur_pick.ret (spec_l1Cur_pick.Q a)
theorem spec_l1Cur_pick.fns : FnsOk Go.Proofs.Try.prog spec_l1Cur_pick.cx := show FnsL _ _ from (fns_cons spec_l1Cur_next.ok fns_nil)
theorem spec_l1Cur_pick.lin : spec_l1Cur_pick.cx.Lin := Lin.of_fns spec_l1Cur_pick.fns
noncomputable def spec_l1Cur_pick.E : Entry := mkE [[true]] spec_l1Cur_pick.pat spec_l1Cur_pick.X spec_l1Cur_pick.ap
theorem spec_l1Cur_pick.ok : EntOk Go.Proofs.Try.prog 97 spec_l1Cur_pick.E := mkE_ok (fun w args => Go.Proofs.Try.call97 args w) spec_l1Cur_pick.hp spec_l1Cur_pick.hap fun a b h => vc_of_X mixed (tyB_ok (cx := spec_l1Cur_pick.cx) tyOk) spec_l1Cur_pick.fns (fl := spec_l1Cur_pick.fl) Go.Proofs.Try.func97 (code := spec_l1Cur_pick.body) (by kernel_rfl) (n := 20) (by kernel_rfl) (by kernel_rfl) (by decide) (by decide) rfl rfl h
def spec_l1Cur_pick.T {α : Type} (pr : Pr) (rt : (Int × LI × Int × Int) → Option α) (call_0 : (LI × Int × Int) → Option (Int × LI × Int × Int)) (n : Int) (c_0 : LI) (c_1 c_2 : Int) : Option α :=
  bif (pr.le n 1) then
    rt (0, c_0, c_1, c_2)
  else
    (call_0 (c_0, c_1, c_2)).bind fun rr1 =>
      bif (pr.gt n 200) then
        pr.fh rr1.2.1 fun y0 => pr.fi rr1.2.2.1 fun y1 => pr.fi rr1.2.2.2 fun y2 => (call_0 (y0, y1, y2)).bind fun rr2 =>
          if (pr.ne n 0) then
            pr.fi (Int.tmod (pr.wr .i64 ((pr.wr .i64 (rr1.1 * 256)) + rr2.1)) n) fun y0 => pr.fh rr2.2.1 fun y1 => pr.fi rr2.2.2.1 fun y2 => pr.fi rr2.2.2.2 fun y3 => rt (y0, y1, y2, y3)
          else
            none
      else
        if (pr.ne n 0) then
          pr.fi (Int.tmod rr1.1 n) fun y0 => pr.fh rr1.2.1 fun y1 => pr.fi rr1.2.2.1 fun y2 => pr.fi rr1.2.2.2 fun y3 => rt (y0, y1, y2, y3)
        else
          none
theorem spec_l1Cur_pick.Q_eq (n : Int) (c_0 : LI) (c_1 c_2 : Int) : spec_l1Cur_pick.Q (n, c_0, c_1, c_2) = spec_l1Cur_pick.T Pr.std (fun b => some (spec_l1Cur_pick.ret b)) spec_l1Cur_next.X n c_0 c_1 c_2 := (eval_seg spec_l1Cur_pick.lin 1000000 _ _).trans (by kernel_rfl)
theorem spec_l1Cur_pick.X_eq (n : Int) (c_0 : LI) (c_1 c_2 : Int) : spec_l1Cur_pick.X (n, c_0, c_1, c_2) = spec_l1Cur_pick.T Pr.std some spec_l1Cur_next.X n c_0 c_1 c_2 := by
  show dec spec_l1Cur_pick.ret (spec_l1Cur_pick.Q (n, c_0, c_1, c_2)) = _
  rw [spec_l1Cur_pick.Q_eq]
  simp only [spec_l1Cur_pick.T, std_fi, std_fb, std_fl, std_fll, std_flll, std_flb, std_fh, dec_ite, dec_cond, dec_bind, dec_elim, dec_none, spec_l1Cur_pick.dc]
  try rfl
theorem spec_l1Cur_pick.T_mono {α : Type} {rt : (Int × LI × Int × Int) → Option α} {call_0 call_0_ : (LI × Int × Int) → Option (Int × LI × Int × Int)} (hcall_0 : ∀ x, Le (call_0 x) (call_0_ x)) {n : Int} {c_0 : LI} {c_1 c_2 : Int} : Le (spec_l1Cur_pick.T Pr.std rt call_0 n c_0 c_1 c_2) (spec_l1Cur_pick.T Pr.std rt call_0_ n c_0 c_1 c_2) := by
  unfold spec_l1Cur_pick.T
  exact (Le.cond Le.rfl' (Le.bind (hcall_0 _) (fun rr1 => (Le.cond (Le.fh fun _ => (Le.fi fun _ => (Le.fi fun _ => (Le.bind (hcall_0 _) (fun rr2 => (Le.ite Le.rfl' Le.rfl')))))) (Le.ite Le.rfl' Le.rfl')))))
noncomputable def spec_l1Cur_pick.C (fu : Nat) (a : Int × LI × Int × Int) : Option (Int × LI × Int × Int) := spec_l1Cur_pick.T Pr.quick some (spec_l1Cur_next.C fu) a.1 a.2.1 a.2.2.1 a.2.2.2
theorem spec_l1Cur_pick.C_ok (fu : Nat) (hfu : fu ≤ 100000) (a : Int × LI × Int × Int) : Le (spec_l1Cur_pick.C fu a) (spec_l1Cur_pick.X a) := by
  obtain ⟨n, c_0, c_1, c_2⟩ := a
  show Le (spec_l1Cur_pick.T Pr.quick some (spec_l1Cur_next.C fu) n c_0 c_1 c_2) _
  rw [Pr.quick_eq, spec_l1Cur_pick.X_eq]
  exact spec_l1Cur_pick.T_mono (fun x => spec_l1Cur_next.C_ok fu hfu x)
/-! ### (*loop.example/g01232/spec.l1Cur).among -/
def spec_l1Cur_among.s0 (a : LI × LI × Int × Int) : St := { slots := [.ptr 0 0, .row 0], rows := [(0, ⟨.int .i64, a.1⟩)], boxes := [(0, [.sl (.int .u8) a.2.1, .int .i64 a.2.2.1, .int .u64 a.2.2.2])] }
def spec_l1Cur_among.pat : St → Option (LI × LI × Int × Int)
  | { slots := [.ptr 0 0, .row 0], rows := [(0, ⟨.int .i64, list⟩)], boxes := [(0, [.sl (.int .u8) c_0, .int .i64 c_1, .int .u64 c_2])], gd := [] } => some (list, c_0, c_1, c_2)
  | _ => none
theorem spec_l1Cur_among.hp : ∀ st a, spec_l1Cur_among.pat st = some a → st = spec_l1Cur_among.s0 a := by
  intro st a h
  unfold spec_l1Cur_among.pat at h
  split at h
  · cases h; rfl
  · cases h
def spec_l1Cur_among.ret (r : Int × LI × LI × Int × Int) : R := ({ slots := [], rows := [(0, ⟨.int .i64, r.2.1⟩)], boxes := [(0, [.sl (.int .u8) r.2.2.1, .int .i64 r.2.2.2.1, .int .u64 r.2.2.2.2])] }, [.int .i64 r.1])
def spec_l1Cur_among.ap (b : Int × LI × LI × Int × Int) (K : St → List V → Option R) : Option R := K (spec_l1Cur_among.ret b).1 (spec_l1Cur_among.ret b).2
theorem spec_l1Cur_among.hap : ∀ b K, spec_l1Cur_among.ap b K = K (spec_l1Cur_among.ret b).1 (spec_l1Cur_among.ret b).2 := fun _ _ => rfl
theorem spec_l1Cur_among.inj : ∀ x y, spec_l1Cur_among.ret x = spec_l1Cur_among.ret y → x = y := by
  intro x y h
  obtain ⟨x1, x2, x3, x4, x5⟩ := x; obtain ⟨y1, y2, y3, y4, y5⟩ := y; cases h; rfl
theorem spec_l1Cur_among.dc (x : Int × LI × LI × Int × Int) : dec spec_l1Cur_among.ret (some (spec_l1Cur_among.ret x)) = some x := dec_ret spec_l1Cur_among.inj x
noncomputable def spec_l1Cur_among.cx : Cx := { ty := TY, fns := [(97, spec_l1Cur_pick.E)], nk := [], sharp := true }
noncomputable def spec_l1Cur_among.body : Code := Go.Proofs.Try.f76.body.getD .skip
def spec_l1Cur_among.fl : Fn := { loops := [], joins := [], nr := 1, nb := 1, rs := [.tmp 4], pre := [], mv := [], fz := [] }
noncomputable def spec_l1Cur_among.Q (a : LI × LI × Int × Int) : Option R := eval spec_l1Cur_among.cx spec_l1Cur_among.fl [.code spec_l1Cur_among.body] (start 12 (spec_l1Cur_among.s0 a))
noncomputable def spec_l1Cur_among.X (a : LI × LI × Int × Int) : Option (Int × LI × LI × Int × Int) := dec spec_l1Cur_among.ret (spec_l1Cur_among.Q a)
theorem spec_l1Cur_among.fns : FnsOk Go.Proofs.Try.prog spec_l1Cur_among.cx := show FnsL _ _ from (fns_cons spec_l1Cur_pick.ok fns_nil)
theorem spec_l1Cur_among.lin : spec_l1Cur_among.cx.Lin := Lin.of_fns spec_l1Cur_among.fns
noncomputable def spec_l1Cur_among.E : Entry := mkE [[true], [true]] spec_l1Cur_among.pat spec_l1Cur_among.X spec_l1Cur_among.ap
theorem spec_l1Cur_among.ok : EntOk Go.Proofs.Try.prog 76 spec_l1Cur_among.E := mkE_ok (fun w args => Go.Proofs.Try.call76 args w) spec_l1Cur_among.hp spec_l1Cur_among.hap fun a b h => vc_of_X mixed (tyB_ok (cx := spec_l1Cur_among.cx) tyOk) spec_l1Cur_among.fns (fl := spec_l1Cur_among.fl) Go.Proofs.Try.func76 (code := spec_l1Cur_among.body) (by kernel_rfl) (n := 12) (by kernel_rfl) (by kernel_rfl) (by decide) (by decide) rfl rfl h
def spec_l1Cur_among.T {α : Type} (pr : Pr) (rt : (Int × LI × LI × Int × Int) → Option α) (call_0 : (Int × LI × Int × Int) → Option (Int × LI × Int × Int)) (list c_0 : LI) (c_1 c_2 : Int) : Option α :=
  pr.fi ((list.length : Nat) : Int) fun y0 => (call_0 (y0, c_0, c_1, c_2)).bind fun rr1 =>
    if (pr.inR rr1.1 list.length) then
      if (pr.nlt ((rr1.1).toNat) list.length) then
        pr.fi (pr.gd list ((rr1.1).toNat) 0) fun y0 => pr.fh rr1.2.1 fun y2 => pr.fi rr1.2.2.1 fun y3 => pr.fi rr1.2.2.2 fun y4 => rt (y0, list, y2, y3, y4)
      else
        none
    else
      none
theorem spec_l1Cur_among.Q_eq (list c_0 : LI) (c_1 c_2 : Int) : spec_l1Cur_among.Q (list, c_0, c_1, c_2) = spec_l1Cur_among.T Pr.std (fun b => some (spec_l1Cur_among.ret b)) spec_l1Cur_pick.X list c_0 c_1 c_2 := (eval_seg spec_l1Cur_among.lin 1000000 _ _).trans (by kernel_rfl)
theorem spec_l1Cur_among.X_eq (list c_0 : LI) (c_1 c_2 : Int) : spec_l1Cur_among.X (list, c_0, c_1, c_2) = spec_l1Cur_among.T Pr.std some spec_l1Cur_pick.X list c_0 c_1 c_2 := by
  show dec spec_l1Cur_among.ret (spec_l1Cur_among.Q (list, c_0, c_1, c_2)) = _
  rw [spec_l1Cur_among.Q_eq]
  simp only [spec_l1Cur_among.T, std_fi, std_fb, std_fl, std_fll, std_flll, std_flb, std_fh, dec_ite, dec_cond, dec_bind, dec_elim, dec_none, spec_l1Cur_among.dc]
  try rfl
theorem spec_l1Cur_among.T_mono {α : Type} {rt : (Int × LI × LI × Int × Int) → Option α} {call_0 call_0_ : (Int × LI × Int × Int) → Option (Int × LI × Int × Int)} (hcall_0 : ∀ x, Le (call_0 x) (call_0_ x)) {list c_0 : LI} {c_1 c_2 : Int} : Le (spec_l1Cur_among.T Pr.std rt call_0 list c_0 c_1 c_2) (spec_l1Cur_among.T Pr.std rt call_0_ list c_0 c_1 c_2) := by
  unfold spec_l1Cur_among.T
  exact (Le.fi fun _ => (Le.bind (hcall_0 _) (fun rr1 => (Le.ite (Le.ite Le.rfl' Le.rfl') Le.rfl'))))
noncomputable def spec_l1Cur_among.C (fu : Nat) (a : LI × LI × Int × Int) : Option (Int × LI × LI × Int × Int) := spec_l1Cur_among.T Pr.quick some (spec_l1Cur_pick.C fu) a.1 a.2.1 a.2.2.1 a.2.2.2
theorem spec_l1Cur_among.C_ok (fu : Nat) (hfu : fu ≤ 100000) (a : LI × LI × Int × Int) : Le (spec_l1Cur_among.C fu a) (spec_l1Cur_among.X a) := by
  obtain ⟨list, c_0, c_1, c_2⟩ := a
  show Le (spec_l1Cur_among.T Pr.quick some (spec_l1Cur_pick.C fu) list c_0 c_1 c_2) _
  rw [Pr.quick_eq, spec_l1Cur_among.X_eq]
  exact spec_l1Cur_among.T_mono (fun x => spec_l1Cur_pick.C_ok fu hfu x)
/-! ### loop.example/g01232/spec.DrawCountLangford -/
def spec_DrawCountLangford.s0 (a : LI) : St := { slots := [.sl (.int .u8) a], rows := [], boxes := [] }
def spec_DrawCountLangford.pat : St → Option LI
  | { slots := [.sl (.int .u8) code], rows := [], boxes := [], gd := [] } => some code
  | _ => none
theorem spec_DrawCountLangford.hp : ∀ st a, spec_DrawCountLangford.pat st = some a → st = spec_DrawCountLangford.s0 a := by
  intro st a h
  unfold spec_DrawCountLangford.pat at h
  split at h
  · cases h; rfl
  · cases h
def spec_DrawCountLangford.ret (r : Int × Int) : R := ({ slots := [], rows := [], boxes := [] }, [.int .i64 r.1, .int .i64 r.2])
def spec_DrawCountLangford.ap (b : Int × Int) (K : St → List V → Option R) : Option R := K (spec_DrawCountLangford.ret b).1 (spec_DrawCountLangford.ret b).2
theorem spec_DrawCountLangford.hap : ∀ b K, spec_DrawCountLangford.ap b K = K (spec_DrawCountLangford.ret b).1 (spec_DrawCountLangford.ret b).2 := fun _ _ => rfl
theorem spec_DrawCountLangford.inj : ∀ x y, spec_DrawCountLangford.ret x = spec_DrawCountLangford.ret y → x = y := by
  intro x y h
  obtain ⟨x1, x2⟩ := x; obtain ⟨y1, y2⟩ := y; cases h; rfl
theorem spec_DrawCountLangford.dc (x : Int × Int) : dec spec_DrawCountLangford.ret (some (spec_DrawCountLangford.ret x)) = some x := dec_ret spec_DrawCountLangford.inj x
noncomputable def spec_DrawCountLangford.cx : Cx := { ty := TY, fns := [(76, spec_l1Cur_among.E)], nk := [(1007, [some (.int .u8), none, none])], sharp := true }
noncomputable def spec_DrawCountLangford.body : Code := Go.Proofs.Try.f44.body.getD .skip
def spec_DrawCountLangford.fl : Fn := { loops := [], joins := [], nr := 0, nb := 0, rs := [.tmp 2, .tmp 3], pre := [], mv := [], fz := [] }
noncomputable def spec_DrawCountLangford.Q (a : LI) : Option R := eval spec_DrawCountLangford.cx spec_DrawCountLangford.fl [.code spec_DrawCountLangford.body] (start 14 (spec_DrawCountLangford.s0 a))
noncomputable def spec_DrawCountLangford.X (a : LI) : Option (Int × Int) := dec spec_DrawCountLangford.ret (spec_DrawCountLangford.Q a)
theorem spec_DrawCountLangford.fns : FnsOk Go.Proofs.Try.prog spec_DrawCountLangford.cx := show FnsL _ _ from (fns_cons spec_l1Cur_among.ok fns_nil)
theorem spec_DrawCountLangford.lin : spec_DrawCountLangford.cx.Lin := Lin.of_fns spec_DrawCountLangford.fns
noncomputable def spec_DrawCountLangford.E : Entry := mkE [] spec_DrawCountLangford.pat spec_DrawCountLangford.X spec_DrawCountLangford.ap
theorem spec_DrawCountLangford.ok : EntOk Go.Proofs.Try.prog 44 spec_DrawCountLangford.E := mkE_ok (fun w args => Go.Proofs.Try.call44 args w) spec_DrawCountLangford.hp spec_DrawCountLangford.hap fun a b h => vc_of_X mixed (tyB_ok (cx := spec_DrawCountLangford.cx) tyOk) spec_DrawCountLangford.fns (fl := spec_DrawCountLangford.fl) Go.Proofs.Try.func44 (code := spec_DrawCountLangford.body) (by kernel_rfl) (n := 14) (by kernel_rfl) (by kernel_rfl) (by decide) (by decide) rfl rfl h
def spec_DrawCountLangford.T {α : Type} (pr : Pr) (rt : (Int × Int) → Option α) (call_0 : (LI × LI × Int × Int) → Option (Int × LI × LI × Int × Int)) (code : LI) : Option α :=
  pr.fl [(1 : Int), (3 : Int), (4 : Int), (5 : Int), (6 : Int), (7 : Int), (4 : Int), (3 : Int), (7 : Int), (0 : Int), (10 : Int)] fun y0 => (call_0 (y0, code, 0, 0)).bind fun rr1 =>
    pr.fl [(1 : Int), (1 : Int), (1 : Int), (2 : Int), (3 : Int), (0 : Int), (11 : Int), (12 : Int)] fun y0 => pr.fh rr1.2.2.1 fun y1 => pr.fi rr1.2.2.2.1 fun y2 => pr.fi rr1.2.2.2.2 fun y3 => (call_0 (y0, y1, y2, y3)).bind fun rr2 =>
      pr.fi rr1.1 fun y0 => pr.fi rr2.1 fun y1 => rt (y0, y1)
theorem spec_DrawCountLangford.Q_eq (code : LI) : spec_DrawCountLangford.Q code = spec_DrawCountLangford.T Pr.std (fun b => some (spec_DrawCountLangford.ret b)) spec_l1Cur_among.X code := (eval_seg spec_DrawCountLangford.lin 1000000 _ _).trans (by kernel_rfl)
theorem spec_DrawCountLangford.X_eq (code : LI) : spec_DrawCountLangford.X code = spec_DrawCountLangford.T Pr.std some spec_l1Cur_among.X code := by
  show dec spec_DrawCountLangford.ret (spec_DrawCountLangford.Q code) = _
  rw [spec_DrawCountLangford.Q_eq]
  simp only [spec_DrawCountLangford.T, std_fi, std_fb, std_fl, std_fll, std_flll, std_flb, std_fh, dec_ite, dec_cond, dec_bind, dec_elim, dec_none, spec_DrawCountLangford.dc]
  try rfl
theorem spec_DrawCountLangford.T_mono {α : Type} {rt : (Int × Int) → Option α} {call_0 call_0_ : (LI × LI × Int × Int) → Option (Int × LI × LI × Int × Int)} (hcall_0 : ∀ x, Le (call_0 x) (call_0_ x)) {code : LI} : Le (spec_DrawCountLangford.T Pr.std rt call_0 code) (spec_DrawCountLangford.T Pr.std rt call_0_ code) := by
  unfold spec_DrawCountLangford.T
  exact (Le.fl fun _ => (Le.bind (hcall_0 _) (fun rr1 => (Le.fl fun _ => (Le.fh fun _ => (Le.fi fun _ => (Le.fi fun _ => (Le.bind (hcall_0 _) (fun rr2 => Le.rfl')))))))))
noncomputable def spec_DrawCountLangford.C (fu : Nat) (a : LI) : Option (Int × Int) := spec_DrawCountLangford.T Pr.quick some (spec_l1Cur_among.C fu) a
theorem spec_DrawCountLangford.C_ok (fu : Nat) (hfu : fu ≤ 100000) (a : LI) : Le (spec_DrawCountLangford.C fu a) (spec_DrawCountLangford.X a) := by
  show Le (spec_DrawCountLangford.T Pr.quick some (spec_l1Cur_among.C fu) a) _
  rw [Pr.quick_eq, spec_DrawCountLangford.X_eq]
  exact spec_DrawCountLangford.T_mono (fun x => spec_l1Cur_among.C_ok fu hfu x)
/-! ### loop.example/g01232/spec.DrawAllLangford -/
def spec_DrawAllLangford.s0 (a : LI) : St := { slots := [.sl (.int .u8) a], rows := [], boxes := [] }
def spec_DrawAllLangford.pat : St → Option LI
  | { slots := [.sl (.int .u8) code], rows := [], boxes := [], gd := [] } => some code
  | _ => none
theorem spec_DrawAllLangford.hp : ∀ st a, spec_DrawAllLangford.pat st = some a → st = spec_DrawAllLangford.s0 a := by
  intro st a h
  unfold spec_DrawAllLangford.pat at h
  split at h
  · cases h; rfl
  · cases h
def spec_DrawAllLangford.ret (r : Int × Int) : R := ({ slots := [], rows := [], boxes := [] }, [.int .i64 r.1, .int .i64 r.2])
def spec_DrawAllLangford.ap (b : Int × Int) (K : St → List V → Option R) : Option R := K (spec_DrawAllLangford.ret b).1 (spec_DrawAllLangford.ret b).2
theorem spec_DrawAllLangford.hap : ∀ b K, spec_DrawAllLangford.ap b K = K (spec_DrawAllLangford.ret b).1 (spec_DrawAllLangford.ret b).2 := fun _ _ => rfl
theorem spec_DrawAllLangford.inj : ∀ x y, spec_DrawAllLangford.ret x = spec_DrawAllLangford.ret y → x = y := by
  intro x y h
  obtain ⟨x1, x2⟩ := x; obtain ⟨y1, y2⟩ := y; cases h; rfl
theorem spec_DrawAllLangford.dc (x : Int × Int) : dec spec_DrawAllLangford.ret (some (spec_DrawAllLangford.ret x)) = some x := dec_ret spec_DrawAllLangford.inj x
noncomputable def spec_DrawAllLangford.cx : Cx := { ty := TY, fns := [(44, spec_DrawCountLangford.E)], nk := [], sharp := true }
noncomputable def spec_DrawAllLangford.body : Code := Go.Proofs.Try.f6.body.getD .skip
def spec_DrawAllLangford.fl : Fn := { loops := [], joins := [], nr := 0, nb := 0, rs := [.tmp 2, .tmp 3], pre := [], mv := [], fz := [] }
noncomputable def spec_DrawAllLangford.Q (a : LI) : Option R := eval spec_DrawAllLangford.cx spec_DrawAllLangford.fl [.code spec_DrawAllLangford.body] (start 8 (spec_DrawAllLangford.s0 a))
noncomputable def spec_DrawAllLangford.X (a : LI) : Option (Int × Int) := dec spec_DrawAllLangford.ret (spec_DrawAllLangford.Q a)
theorem spec_DrawAllLangford.fns : FnsOk Go.Proofs.Try.prog spec_DrawAllLangford.cx := show FnsL _ _ from (fns_cons spec_DrawCountLangford.ok fns_nil)
theorem spec_DrawAllLangford.lin : spec_DrawAllLangford.cx.Lin := Lin.of_fns spec_DrawAllLangford.fns
noncomputable def spec_DrawAllLangford.E : Entry := mkE [] spec_DrawAllLangford.pat spec_DrawAllLangford.X spec_DrawAllLangford.ap
theorem spec_DrawAllLangford.ok : EntOk Go.Proofs.Try.prog 6 spec_DrawAllLangford.E := mkE_ok (fun w args => Go.Proofs.Try.call6 args w) spec_DrawAllLangford.hp spec_DrawAllLangford.hap fun a b h => vc_of_X mixed (tyB_ok (cx := spec_DrawAllLangford.cx) tyOk) spec_DrawAllLangford.fns (fl := spec_DrawAllLangford.fl) Go.Proofs.Try.func6 (code := spec_DrawAllLangford.body) (by kernel_rfl) (n := 8) (by kernel_rfl) (by kernel_rfl) (by decide) (by decide) rfl rfl h
def spec_DrawAllLangford.T {α : Type} (pr : Pr) (rt : (Int × Int) → Option α) (call_0 : LI → Option (Int × Int)) (code : LI) : Option α :=
  (call_0 code).bind fun rr1 =>
    pr.fi rr1.1 fun y0 => pr.fi rr1.2 fun y1 => rt (y0, y1)
theorem spec_DrawAllLangford.Q_eq (code : LI) : spec_DrawAllLangford.Q code = spec_DrawAllLangford.T Pr.std (fun b => some (spec_DrawAllLangford.ret b)) spec_DrawCountLangford.X code := (eval_seg spec_DrawAllLangford.lin 1000000 _ _).trans (by kernel_rfl)
theorem spec_DrawAllLangford.X_eq (code : LI) : spec_DrawAllLangford.X code = spec_DrawAllLangford.T Pr.std some spec_DrawCountLangford.X code := by
  show dec spec_DrawAllLangford.ret (spec_DrawAllLangford.Q code) = _
  rw [spec_DrawAllLangford.Q_eq]
  simp only [spec_DrawAllLangford.T, std_fi, std_fb, std_fl, std_fll, std_flll, std_flb, std_fh, dec_ite, dec_cond, dec_bind, dec_elim, dec_none, spec_DrawAllLangford.dc]
  try rfl
theorem spec_DrawAllLangford.T_mono {α : Type} {rt : (Int × Int) → Option α} {call_0 call_0_ : LI → Option (Int × Int)} (hcall_0 : ∀ x, Le (call_0 x) (call_0_ x)) {code : LI} : Le (spec_DrawAllLangford.T Pr.std rt call_0 code) (spec_DrawAllLangford.T Pr.std rt call_0_ code) := by
  unfold spec_DrawAllLangford.T
  exact (Le.bind (hcall_0 _) (fun rr1 => Le.rfl'))
noncomputable def spec_DrawAllLangford.C (fu : Nat) (a : LI) : Option (Int × Int) := spec_DrawAllLangford.T Pr.quick some (spec_DrawCountLangford.C fu) a
theorem spec_DrawAllLangford.C_ok (fu : Nat) (hfu : fu ≤ 100000) (a : LI) : Le (spec_DrawAllLangford.C fu a) (spec_DrawAllLangford.X a) := by
  show Le (spec_DrawAllLangford.T Pr.quick some (spec_DrawCountLangford.C fu) a) _
  rw [Pr.quick_eq, spec_DrawAllLangford.X_eq]
  exact spec_DrawAllLangford.T_mono (fun x => spec_DrawCountLangford.C_ok fu hfu x)
/-! ### loop.example/g01232/impl.sought -/
def impl_sought.s0 (a : Int) : St := { slots := [.int .i64 a], rows := [], boxes := [] }
def impl_sought.pat : St → Option (Int)
  | { slots := [.int .i64 n], rows := [], boxes := [], gd := [] } => some n
  | _ => none
theorem impl_sought.hp : ∀ st a, impl_sought.pat st = some a → st = impl_sought.s0 a := by
  intro st a h
  unfold impl_sought.pat at h
  split at h
  · cases h; rfl
  · cases h
def impl_sought.ret (r : Bool) : R := ({ slots := [], rows := [], boxes := [] }, [.bool r])
def impl_sought.ap (b : Bool) (K : St → List V → Option R) : Option R := K (impl_sought.ret b).1 (impl_sought.ret b).2
theorem impl_sought.hap : ∀ b K, impl_sought.ap b K = K (impl_sought.ret b).1 (impl_sought.ret b).2 := fun _ _ => rfl
theorem impl_sought.inj : ∀ x y, impl_sought.ret x = impl_sought.ret y → x = y := by
  intro x y h
  cases h; rfl
theorem impl_sought.dc (x : Bool) : dec impl_sought.ret (some (impl_sought.ret x)) = some x := dec_ret impl_sought.inj x
noncomputable def impl_sought.cx : Cx := { ty := TY, fns := [], nk := [], sharp := true }
noncomputable def impl_sought.body : Code := Go.Proofs.Try.f77.body.getD .skip
def impl_sought.fl : Fn := { loops := [], joins := [], nr := 0, nb := 0, rs := [.tmp 2], pre := [], mv := [], fz := [] }
noncomputable def impl_sought.Q (a : Int) : Option R := eval impl_sought.cx impl_sought.fl [.code impl_sought.body] (start 9 (impl_sought.s0 a))
noncomputable def impl_sought.X (a : Int) : Option (Bool) := dec impl_sought.ret (impl_sought.Q a)
theorem impl_sought.fns : FnsOk Go.Proofs.Try.prog impl_sought.cx := show FnsL _ _ from fns_nil
theorem impl_sought.lin : impl_sought.cx.Lin := Lin.of_fns impl_sought.fns
noncomputable def impl_sought.E : Entry := mkE [] impl_sought.pat impl_sought.X impl_sought.ap
theorem impl_sought.ok : EntOk Go.Proofs.Try.prog 77 impl_sought.E := mkE_ok (fun w args => Go.Proofs.Try.call77 args w) impl_sought.hp impl_sought.hap fun a b h => vc_of_X mixed (tyB_ok (cx := impl_sought.cx) tyOk) impl_sought.fns (fl := impl_sought.fl) Go.Proofs.Try.func77 (code := impl_sought.body) (by kernel_rfl) (n := 9) (by kernel_rfl) (by kernel_rfl) (by decide) (by decide) rfl rfl h
def impl_sought.T {α : Type} (pr : Pr) (rt : Bool → Option α) (n : Int) : Option α :=
  if (pr.ge n 1) then
    pr.fb (pr.le n 9) fun y0 => rt y0
  else
    rt false
theorem impl_sought.Q_eq (n : Int) : impl_sought.Q n = impl_sought.T Pr.std (fun b => some (impl_sought.ret b)) n := (eval_seg impl_sought.lin 1000000 _ _).trans (by kernel_rfl)
theorem impl_sought.X_eq (n : Int) : impl_sought.X n = impl_sought.T Pr.std some n := by
  show dec impl_sought.ret (impl_sought.Q n) = _
  rw [impl_sought.Q_eq]
  simp only [impl_sought.T, std_fi, std_fb, std_fl, std_fll, std_flll, std_flb, std_fh, dec_ite, dec_cond, dec_bind, dec_elim, dec_none, impl_sought.dc]
  try rfl
theorem impl_sought.T_mono {α : Type} {rt : (Bool) → Option α} {n : Int} : Le (impl_sought.T Pr.std rt n) (impl_sought.T Pr.std rt n) := by
  unfold impl_sought.T
  exact (Le.ite Le.rfl' Le.rfl')
noncomputable def impl_sought.C (fu : Nat) (a : Int) : Option (Bool) := impl_sought.T Pr.quick some a
theorem impl_sought.C_ok (fu : Nat) (hfu : fu ≤ 100000) (a : Int) : Le (impl_sought.C fu a) (impl_sought.X a) := by
  show Le (impl_sought.T Pr.quick some a) _
  rw [Pr.quick_eq, impl_sought.X_eq]
  exact impl_sought.T_mono
/-! ### loop.example/g01232/impl.isNumber -/
def impl_isNumber.s0 (a : Int) : St := { slots := [.int .i64 a], rows := [], boxes := [] }
def impl_isNumber.pat : St → Option (Int)
  | { slots := [.int .i64 n], rows := [], boxes := [], gd := [] } => some n
  | _ => none
theorem impl_isNumber.hp : ∀ st a, impl_isNumber.pat st = some a → st = impl_isNumber.s0 a := by
  intro st a h
  unfold impl_isNumber.pat at h
  split at h
  · cases h; rfl
  · cases h
def impl_isNumber.ret (r : Bool) : R := ({ slots := [], rows := [], boxes := [] }, [.bool r])
def impl_isNumber.ap (b : Bool) (K : St → List V → Option R) : Option R := K (impl_isNumber.ret b).1 (impl_isNumber.ret b).2
theorem impl_isNumber.hap : ∀ b K, impl_isNumber.ap b K = K (impl_isNumber.ret b).1 (impl_isNumber.ret b).2 := fun _ _ => rfl
theorem impl_isNumber.inj : ∀ x y, impl_isNumber.ret x = impl_isNumber.ret y → x = y := by
  intro x y h
  cases h; rfl
theorem impl_isNumber.dc (x : Bool) : dec impl_isNumber.ret (some (impl_isNumber.ret x)) = some x := dec_ret impl_isNumber.inj x
noncomputable def impl_isNumber.cx : Cx := { ty := TY, fns := [], nk := [], sharp := true }
noncomputable def impl_isNumber.body : Code := Go.Proofs.Try.f53.body.getD .skip
def impl_isNumber.fl : Fn := { loops := [], joins := [], nr := 0, nb := 0, rs := [.tmp 2], pre := [], mv := [], fz := [] }
noncomputable def impl_isNumber.Q (a : Int) : Option R := eval impl_isNumber.cx impl_isNumber.fl [.code impl_isNumber.body] (start 9 (impl_isNumber.s0 a))
noncomputable def impl_isNumber.X (a : Int) : Option (Bool) := dec impl_isNumber.ret (impl_isNumber.Q a)
theorem impl_isNumber.fns : FnsOk Go.Proofs.Try.prog impl_isNumber.cx := show FnsL _ _ from fns_nil
theorem impl_isNumber.lin : impl_isNumber.cx.Lin := Lin.of_fns impl_isNumber.fns
noncomputable def impl_isNumber.E : Entry := mkE [] impl_isNumber.pat impl_isNumber.X impl_isNumber.ap
theorem impl_isNumber.ok : EntOk Go.Proofs.Try.prog 53 impl_isNumber.E := mkE_ok (fun w args => Go.Proofs.Try.call53 args w) impl_isNumber.hp impl_isNumber.hap fun a b h => vc_of_X mixed (tyB_ok (cx := impl_isNumber.cx) tyOk) impl_isNumber.fns (fl := impl_isNumber.fl) Go.Proofs.Try.func53 (code := impl_isNumber.body) (by kernel_rfl) (n := 9) (by kernel_rfl) (by kernel_rfl) (by decide) (by decide) rfl rfl h
def impl_isNumber.T {α : Type} (pr : Pr) (rt : Bool → Option α) (n : Int) : Option α :=
  if (pr.ge n 1) then
    pr.fb (pr.le n 20) fun y0 => rt y0
  else
    rt false
theorem impl_isNumber.Q_eq (n : Int) : impl_isNumber.Q n = impl_isNumber.T Pr.std (fun b => some (impl_isNumber.ret b)) n := (eval_seg impl_isNumber.lin 1000000 _ _).trans (by kernel_rfl)
theorem impl_isNumber.X_eq (n : Int) : impl_isNumber.X n = impl_isNumber.T Pr.std some n := by
  show dec impl_isNumber.ret (impl_isNumber.Q n) = _
  rw [impl_isNumber.Q_eq]
  simp only [impl_isNumber.T, std_fi, std_fb, std_fl, std_fll, std_flll, std_flb, std_fh, dec_ite, dec_cond, dec_bind, dec_elim, dec_none, impl_isNumber.dc]
  try rfl
theorem impl_isNumber.T_mono {α : Type} {rt : (Bool) → Option α} {n : Int} : Le (impl_isNumber.T Pr.std rt n) (impl_isNumber.T Pr.std rt n) := by
  unfold impl_isNumber.T
  exact (Le.ite Le.rfl' Le.rfl')
noncomputable def impl_isNumber.C (fu : Nat) (a : Int) : Option (Bool) := impl_isNumber.T Pr.quick some a
theorem impl_isNumber.C_ok (fu : Nat) (hfu : fu ≤ 100000) (a : Int) : Le (impl_isNumber.C fu a) (impl_isNumber.X a) := by
  show Le (impl_isNumber.T Pr.quick some a) _
  rw [Pr.quick_eq, impl_isNumber.X_eq]
  exact impl_isNumber.T_mono
/-! ### loop.example/g01232/impl.soughtFrom -/
def impl_soughtFrom.s0 (a : Int × Int) : St := { slots := [.int .i64 a.1, .int .i64 a.2], rows := [], boxes := [] }
def impl_soughtFrom.pat : St → Option (Int × Int)
  | { slots := [.int .i64 n, .int .i64 d], rows := [], boxes := [], gd := [] } => some (n, d)
  | _ => none
theorem impl_soughtFrom.hp : ∀ st a, impl_soughtFrom.pat st = some a → st = impl_soughtFrom.s0 a := by
  intro st a h
  unfold impl_soughtFrom.pat at h
  split at h
  · cases h; rfl
  · cases h
def impl_soughtFrom.ret (r : Bool) : R := ({ slots := [], rows := [], boxes := [] }, [.bool r])
def impl_soughtFrom.ap (b : Bool) (K : St → List V → Option R) : Option R := K (impl_soughtFrom.ret b).1 (impl_soughtFrom.ret b).2
theorem impl_soughtFrom.hap : ∀ b K, impl_soughtFrom.ap b K = K (impl_soughtFrom.ret b).1 (impl_soughtFrom.ret b).2 := fun _ _ => rfl
theorem impl_soughtFrom.inj : ∀ x y, impl_soughtFrom.ret x = impl_soughtFrom.ret y → x = y := by
  intro x y h
  cases h; rfl
theorem impl_soughtFrom.dc (x : Bool) : dec impl_soughtFrom.ret (some (impl_soughtFrom.ret x)) = some x := dec_ret impl_soughtFrom.inj x
noncomputable def impl_soughtFrom.cx : Cx := { ty := TY, fns := [(77, impl_sought.E), (53, impl_isNumber.E)], nk := [], sharp := true }
noncomputable def impl_soughtFrom.body : Code := Go.Proofs.Try.f45.body.getD .skip
def impl_soughtFrom.fl : Fn := { loops := [], joins := [], nr := 0, nb := 0, rs := [.tmp 4], pre := [], mv := [], fz := [] }
noncomputable def impl_soughtFrom.Q (a : Int × Int) : Option R := eval impl_soughtFrom.cx impl_soughtFrom.fl [.code impl_soughtFrom.body] (start 17 (impl_soughtFrom.s0 a))
noncomputable def impl_soughtFrom.X (a : Int × Int) : Option (Bool) := dec impl_soughtFrom.ret (impl_soughtFrom.Q a)
theorem impl_soughtFrom.fns : FnsOk Go.Proofs.Try.prog impl_soughtFrom.cx := show FnsL _ _ from (fns_cons impl_sought.ok (fns_cons impl_isNumber.ok fns_nil))
theorem impl_soughtFrom.lin : impl_soughtFrom.cx.Lin := Lin.of_fns impl_soughtFrom.fns
noncomputable def impl_soughtFrom.E : Entry := mkE [] impl_soughtFrom.pat impl_soughtFrom.X impl_soughtFrom.ap
theorem impl_soughtFrom.ok : EntOk Go.Proofs.Try.prog 45 impl_soughtFrom.E := mkE_ok (fun w args => Go.Proofs.Try.call45 args w) impl_soughtFrom.hp impl_soughtFrom.hap fun a b h => vc_of_X mixed (tyB_ok (cx := impl_soughtFrom.cx) tyOk) impl_soughtFrom.fns (fl := impl_soughtFrom.fl) Go.Proofs.Try.func45 (code := impl_soughtFrom.body) (by kernel_rfl) (n := 17) (by kernel_rfl) (by kernel_rfl) (by decide) (by decide) rfl rfl h
def impl_soughtFrom.T {α : Type} (pr : Pr) (rt : Bool → Option α) (call_0 : (Int) → Option (Bool)) (call_1 : (Int) → Option (Bool)) (n d : Int) : Option α :=
  (call_0 n).bind fun rr1 =>
    if rr1 then
      (call_1 d).bind fun rr2 =>
        if rr2 then
          pr.fb (pr.le (pr.wr .i64 (d + n)) 20) fun y0 => rt y0
        else
          rt false
    else
      rt false
theorem impl_soughtFrom.Q_eq (n d : Int) : impl_soughtFrom.Q (n, d) = impl_soughtFrom.T Pr.std (fun b => some (impl_soughtFrom.ret b)) impl_sought.X impl_isNumber.X n d := (eval_seg impl_soughtFrom.lin 1000000 _ _).trans (by kernel_rfl)
theorem impl_soughtFrom.X_eq (n d : Int) : impl_soughtFrom.X (n, d) = impl_soughtFrom.T Pr.std some impl_sought.X impl_isNumber.X n d := by
  show dec impl_soughtFrom.ret (impl_soughtFrom.Q (n, d)) = _
  rw [impl_soughtFrom.Q_eq]
  simp only [impl_soughtFrom.T, std_fi, std_fb, std_fl, std_fll, std_flll, std_flb, std_fh, dec_ite, dec_cond, dec_bind, dec_elim, dec_none, impl_soughtFrom.dc]
  try rfl
theorem impl_soughtFrom.T_mono {α : Type} {rt : (Bool) → Option α} {call_0 call_0_ : (Int) → Option (Bool)} (hcall_0 : ∀ x, Le (call_0 x) (call_0_ x)) {call_1 call_1_ : (Int) → Option (Bool)} (hcall_1 : ∀ x, Le (call_1 x) (call_1_ x)) {n d : Int} : Le (impl_soughtFrom.T Pr.std rt call_0 call_1 n d) (impl_soughtFrom.T Pr.std rt call_0_ call_1_ n d) := by
  unfold impl_soughtFrom.T
  exact (Le.bind (hcall_0 _) (fun rr1 => (Le.ite (Le.bind (hcall_1 _) (fun rr2 => (Le.ite Le.rfl' Le.rfl'))) Le.rfl')))
noncomputable def impl_soughtFrom.C (fu : Nat) (a : Int × Int) : Option (Bool) := impl_soughtFrom.T Pr.quick some (impl_sought.C fu) (impl_isNumber.C fu) a.1 a.2
theorem impl_soughtFrom.C_ok (fu : Nat) (hfu : fu ≤ 100000) (a : Int × Int) : Le (impl_soughtFrom.C fu a) (impl_soughtFrom.X a) := by
  obtain ⟨n, d⟩ := a
  show Le (impl_soughtFrom.T Pr.quick some (impl_sought.C fu) (impl_isNumber.C fu) n d) _
  rw [Pr.quick_eq, impl_soughtFrom.X_eq]
  exact impl_soughtFrom.T_mono (fun x => impl_sought.C_ok fu hfu x) (fun x => impl_isNumber.C_ok fu hfu x)
end Go.VS
