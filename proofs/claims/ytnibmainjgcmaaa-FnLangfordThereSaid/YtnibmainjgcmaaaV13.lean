/- slices.Clone: its test for nil is told by hand. -/
import Derived.Test.YtnibmainjgcmaaaV12
import Derived.Lib.SliceRun
import Derived.Below
import Derived.SizedLaws
import Derived.ChangeSlices
set_option linter.unusedVariables false
set_option linter.unusedSimpArgs false
namespace Go.VS
section
variable {P : Program} {cx : Cx} {st : St} {c c' c1 : Cfg} {a : Act} {w w' : World}

/-- A call, out of its way to its end. -/
theorem calls_of_ends {f : FuncId} {fl : Fn} {fn : Func} {code : Code} (hf : P.funcs[f]? = some fn) (hb : fn.body = some code) {st fin : St} {res : List V} (hr : ∀ k, look st.rows k ≠ none → k < fl.nr) (hbx : ∀ k, look st.boxes k ≠ none → k < fl.nb) (hnr : fl.nr ≤ 1000) (hnb : fl.nb ≤ 1000)
    (he : ∀ (w : World) (c : Cfg) (a : Act) (vals : Array Value), LR (ClR c w) st.slots vals.toList → (∀ i, i < vals.size → a.tmps.getD i undef = vals.getD i undef) → Rel (start fn.ntmps st) c a w → Ends P fn fl c a w [.code code] fin res) : VC P f st fin res := by
  intro w c vals hmr hl cs
  let b : Frame := { (default : Frame) with fn := f, kind := .normal }
  have henter : Frame.enter P f vals .normal =
      b.at { tmps := vals ++ Array.replicate (fn.ntmps - vals.size) undef, defers := [] } [.code code] := by
    simp [Frame.enter, Frame.at, hf, hb, b]
  have hlen := LR.length hl
  simp only [Array.length_toList] at hlen
  have hrel : Rel (start fn.ntmps st) c { tmps := vals ++ Array.replicate (fn.ntmps - vals.size) undef, defers := [] } w := by
    refine ⟨⟨hmr.rows, hmr.boxes, hmr.lt⟩, by simp [start, hlen], fun i => ?_, rfl⟩
    unfold SlotR
    show TR c w (getV (st.slots ++ List.replicate (fn.ntmps - st.slots.length) .dead) i) _
    have hll : LR (TR c w) (st.slots ++ List.replicate (fn.ntmps - st.slots.length) .dead) (vals.toList ++ List.replicate (fn.ntmps - vals.size) undef) := by
      refine LR.append (LR.mono (fun _ _ h => h.tr) hl) ?_
      rw [hlen]
      generalize fn.ntmps - vals.size = m
      induction m with
      | zero => trivial
      | succ m ihm => exact ⟨trivial, ihm⟩
    by_cases hi : i < (st.slots ++ List.replicate (fn.ntmps - st.slots.length) V.dead).length
    · have := hll.get i hi
      have e : (vals ++ Array.replicate (fn.ntmps - vals.size) undef).getD i undef = (vals.toList ++ List.replicate (fn.ntmps - vals.size) undef).getD i undef := by
        rw [Array.getD_eq_getD_getElem?, List.getD_eq_getElem?_getD]
        congr 1
        rw [← Array.getElem?_toList]
        simp
      show TR c w _ ((vals ++ Array.replicate (fn.ntmps - vals.size) undef).getD i undef)
      rw [e]; exact this
    · rw [getV_ge (by omega)]; trivial
  obtain ⟨a', w', todo', c', h1, h2, h3⟩ := he w c _ vals hl (fun i hi => by simp [Array.getElem?_append, hi]) hrel b cs
  obtain ⟨hd, v, c2, q1, q2, q3, q4, q5, q6⟩ := h3
  refine ⟨.returned v, w', _, ⟨v, c2, rfl, q2, h2.zero.trans q3, fun k hk => ?_, fun k hk => ?_, q6⟩, by rw [henter]; exact h1, rfl, rfl, hd, rfl, fn, hf, q1⟩
  · have := hr k hk
    rw [q4 k this]; exact (h2.low k (by omega)).1
  · have := hbx k hk
    rw [q5 k this]; exact (h2.low k (by omega)).2

/-- A region on the way. -/
theorem Ends.region {fn : Func} {fl : Fn} {id : Nat} {ops : Array Oper} {draw : Bool} {todo : List Item} {fin : St} {res : List V} {I : Act → World → Cfg → Prop}
    (hw : ∀ b cs, ∃ e a' w', (e = .normal ∧ ∃ c', I a' w' c' ∧ Step c c' w w') ∧ Arrives P (lone (b.at a (.code (.region id ops draw) :: todo)) cs w) b todo cs e a' w')
    (hn : ∀ a' w' c', I a' w' c' → Ends P fn fl c' a' w' todo fin res) : Ends P fn fl c a w (.code (.region id ops draw) :: todo) fin res := by
  intro b cs
  obtain ⟨e, a1, w1, ⟨rfl, c1, hi, s1⟩, harr⟩ := hw b cs
  obtain ⟨a2, w2, todo', c2, t1, t2, t3⟩ := hn _ _ _ hi b cs
  exact ⟨a2, w2, todo', c2, Steps.trans harr t1, s1.trans t2, t3⟩

/-- What Clone's test yields. -/
theorem clone_vc (hm : P.follows .mixedOrders = true) (hty : TyOk P cx) (hfn : FnsOk P cx) {f : FuncId} {fl : Fn} {fn : Func} {code A B : Code} {i0 i1 : Nat} {o0 o1 o2 : Oper} {T eT : TypeId} {e : K} {xs : List e.T}
    (hf : P.funcs[f]? = some fn) (hb : fn.body = some code) (hrs : fl.rs = fn.results.toList) (hnr : fl.nr = 0) (hnb : fl.nb = 0) (hnt : fn.ntmps = 8) (hns : cx.nk = [])
    (hcode : code = .seq (.region i0 #[o0] false) (.seq (.seq (.region i1 #[o1, o2] false) (.cond (.tmp 4) A .skip)) B))
    (ho0 : o0.op = .assign (.const (.slice none 0 0)) ∧ o0.dst = some 2 ∧ o0.guard = none) (ho1 : o1.op = .move (.tmp 0) ∧ o1.dst = some 3 ∧ o1.guard = none)
    (ho2 : (∃ t', o2.op = .binOp .eql T (.tmp 3) (.const (.slice none 0 0)) t') ∧ o2.dst = some 4 ∧ o2.guard = none) (hl : look cx.ty T = some (.slice eT e))
    {n : Nat} (hA : evalN cx fl n [.code A, .code B] { slots := [.sl e xs, D, .snil, .sl e xs, .bool true, D, D, D], rows := [], boxes := [] } = some ({ slots := [], rows := [(0, ⟨e, []⟩)], boxes := [] }, [.row 0]))
    (hB : evalN cx fl n [.code .skip, .code B] { slots := [.sl e xs, D, .snil, .sl e xs, .bool false, D, D, D], rows := [], boxes := [] } = some ({ slots := [], rows := [(0, ⟨e, xs⟩)], boxes := [] }, [.row 0])) :
    VC P f { slots := [.sl e xs], rows := [], boxes := [] } { slots := [], rows := [(0, ⟨e, xs⟩)], boxes := [] } [.row 0] := by
  obtain ⟨d0, op0, ty0, pos0, af0, g0⟩ := o0
  obtain ⟨d1, op1, ty1, pos1, af1, g1⟩ := o1
  obtain ⟨d2, op2, ty2, pos2, af2, g2⟩ := o2
  obtain ⟨rfl, rfl, rfl⟩ := ho0
  obtain ⟨rfl, rfl, rfl⟩ := ho1
  obtain ⟨⟨t', rfl⟩, rfl, rfl⟩ := ho2
  refine calls_of_ends (fl := fl) hf hb (fun k h => absurd rfl h) (fun k h => absurd rfl h) (by omega) (by omega) fun w c a vals hlr hvals h => ?_
  rw [hcode]
  have hu : P.underlying T = some (.slice eT) := (hty _ _ hl).1
  refine Ends.step ?_ fun b cs => step_seq
  -- the first region
  have hreg0 := region_sound (id := i0) (ops := #[{ dst := some 2, op := .assign (.const (.slice none 0 0)), type := ty0, pos := pos0, after := af0, guard := none }]) (draw := false) (K := fun s => some (s, [])) (r := ({ slots := [.sl e xs, D, .snil, D, D, D, D, D], rows := [], boxes := [] }, [])) (Q := fun ex a' w' => ex = .normal ∧ ∃ c', Rel { slots := [.sl e xs, D, .snil, D, D, D, D, D], rows := [], boxes := [] } c' a' w' ∧ Step c c' w w') hm hty hfn h (by
      rw [hnt]
      unfold regionK
      simp only [Bool.false_eq_true, if_false]
      show runOps cx false _ [0] _ _ = _
      simp [runOps, opK, runOp, pureN, pureOp, elLoad, opd, ofConst, St.put, start, setV, killAll, cutG, St.noG, deadAll, nilBoxes, hns, List.replicate])
    (fun ch a d v w hh => by cases hh.1) (fun st' c' a' w' h1 h2 h3 => ⟨rfl, c', by cases h1; exact h2, h3⟩)
  refine Ends.region (I := fun a' w' c' => Rel { slots := [.sl e xs, D, .snil, D, D, D, D, D], rows := [], boxes := [] } c' a' w') (fun b cs => ?_) fun a1 w1 c1 h1 => ?_
  · obtain ⟨ex, a', w', ⟨q1, c', q2, q3⟩, harr⟩ := hreg0 b _ cs
    exact ⟨ex, a', w', ⟨q1, c', q2, q3⟩, harr⟩
  refine Ends.step ?_ fun b cs => step_seq
  refine Ends.step ?_ fun b cs => step_seq
  -- the test
  have hv0 : TR c1 w1 (.sl e xs) (a1.eval (.tmp 0)) := opd_sound h1 holds_nil (.tmp 0)
  have hv1 : FR w1 c1.free (.sl e) xs (a1.eval (.tmp 0)) := hv0
  obtain ⟨Ad, cap, e1, e2, e3, e4⟩ := hv1
  have hsz : a1.tmps.size = 8 := by rw [← h1.size]; rfl
  have hr3 : Rel { slots := [.sl e xs, D, .snil, .sl e xs, D, D, D, D], rows := [], boxes := [] } c1 (a1.put (some 3) (a1.eval (.tmp 0))) w1 := h1.put (d := some 3) (v := .sl e xs) hv0
  have hr4 : Rel { slots := [.sl e xs, D, .snil, .sl e xs, .bool Ad.isNone, D, D, D], rows := [], boxes := [] } c1 ((a1.put (some 3) (a1.eval (.tmp 0))).put (some 4) (.bool Ad.isNone)) w1 := hr3.put (d := some 4) (v := .bool Ad.isNone) rfl
  have hwp : (Code.region i1 #[{ dst := some 3, op := .move (.tmp 0), type := ty1, pos := pos1, after := af1, guard := none }, { dst := some 4, op := .binOp .eql T (.tmp 3) (.const (.slice none 0 0)) t', type := ty2, pos := pos2, after := af2, guard := none }] false).wp P (fun ex a' w' => ex = .normal ∧ a' = (a1.put (some 3) (a1.eval (.tmp 0))).put (some 4) (.bool Ad.isNone) ∧ w' = w1) a1 w1 := by
    refine wp_region ?_
    show wpOps P _ _ [0, 1] a1 w1
    rw [wpOps_cons]
    unfold wpOp
    simp only [List.getElem?_toArray, List.getElem?_cons_zero]
    rw [if_pos (by unfold Region.wanted; rfl)]
    left
    unfold Oper.wp
    have x1 : (execOp a1.eval { dst := some 3, op := .move (.tmp 0), type := ty1, pos := pos1, after := af1, guard := none }).run P w1 = .ok (.value (a1.eval (.tmp 0))) w1 := by simp [execOp]
    rw [x1]
    simp only [Oper.upon]
    rw [wpOps_cons]
    unfold wpOp
    simp only [List.getElem?_toArray, List.getElem?_cons_succ, List.getElem?_cons_zero]
    rw [if_pos (by unfold Region.wanted; rfl)]
    left
    unfold Oper.wp
    have x3 : (a1.put (some 3) (a1.eval (.tmp 0))).eval (.tmp 3) = .slice Ad xs.length cap := by
      have : (a1.put (some 3) (a1.eval (.tmp 0))).eval (.tmp 3) = a1.eval (.tmp 0) := by
        simp [Act.eval, Act.put, hsz]
      rw [this, e1]
    have x2 : (execOp (a1.put (some 3) (a1.eval (.tmp 0))).eval { dst := some 4, op := .binOp .eql T (.tmp 3) (.const (.slice none 0 0)) t', type := ty2, pos := pos2, after := af2, guard := none }).run P w1 = .ok (.value (.bool Ad.isNone)) w1 := by
      have := Lib.run_eql_slice_nil (P := P) w1 T eT Ad xs.length cap 0 0 hu
      have hg : (eqGuard .eql T (.tmp 3) (.const (.slice none 0 0)) (.slice Ad xs.length cap) (.slice none 0 0)).run P w1 = .ok () w1 := by
        unfold eqGuard; simp [Sem.run, pure, bind, Sem.bind]
      simp only [execOp, x3]
      simp [Act.eval, this, hg]
    rw [x2]
    simp only [Oper.upon]
    exact ⟨rfl, rfl, rfl⟩
  refine Ends.region (I := fun a' w' c' => a' = (a1.put (some 3) (a1.eval (.tmp 0))).put (some 4) (.bool Ad.isNone) ∧ w' = w1 ∧ c' = c1) (fun b cs => ?_) fun a2 w2 c2 h2 => ?_
  · obtain ⟨ex, a', w', ⟨q1, q2, q3⟩, harr⟩ := hwp b _ cs
    refine ⟨ex, a', w', ⟨q1, c1, ⟨q2, q3, rfl⟩, ?_⟩, harr⟩
    rw [q3]; exact Step.refl _ _
  obtain ⟨rfl, rfl, rfl⟩ := h2
  have ht : ((a1.put (some 3) (a1.eval (.tmp 0))).put (some 4) (.bool Ad.isNone)).eval (.tmp 4) = .bool Ad.isNone := opd_sound hr4 holds_nil (.tmp 4)
  refine Ends.step ?_ fun b cs => step_cond (t := Ad.isNone) ht
  cases hA' : Ad.isNone with
  | true =>
    have hx0 : xs = [] := by
      cases xs with
      | nil => rfl
      | cons x xs =>
        obtain ⟨ad, h', _⟩ := e4 (by simp)
        rw [h'] at hA'; cases hA'
    subst hx0
    rw [hA'] at hr4
    exact eval_sound hm hty hfn hrs n [.code A, .code B] hr4 hA
  | false =>
    rw [hA'] at hr4
    exact eval_sound hm hty hfn hrs n [.code .skip, .code B] hr4 hB

end
end Go.VS
/- A law over two slices of bytes: the call, out of what is told of it. -/
set_option linter.unusedVariables false
set_option linter.unusedSimpArgs false
namespace Go.VS
section
variable {P : Program} {w w' : World}

/-- A slice of bytes in memory. -/
def Bytes (w : World) (a : Option Addr) (len cap : Nat) (zs : List Int) : Prop :=
  (a = none ∧ len = 0 ∧ cap = 0 ∧ zs = []) ∨
  ∃ x, a = some x ∧ len ≤ cap ∧ zs.length = cap ∧ (∀ i, i < zs.length → w.cell? (x.add i) = some (.int .u8 (zs.getD i 0))) ∧ ∀ n ∈ zs, (Lit.int .u8 n).wf = true

def cfg0 : Cfg := { hdr := fun _ => (none, 0, 0), box := fun _ => 0, ow := fun _ => none }

theorem Bytes.fr {a : Option Addr} {len cap : Nat} {zs : List Int} (h : Bytes w a len cap zs) (hl : len < LIM) : FR w cfg0.free (.sl (.int .u8)) (zs.take len) (.slice a len cap) := by
  rcases h with ⟨rfl, rfl, rfl, rfl⟩ | ⟨x, rfl, h1, h2, h3, _⟩
  · exact ⟨none, 0, rfl, by simp, by simp [LIM], fun h => by simp at h⟩
  · have hlen : (zs.take len).length = len := by simp; omega
    refine ⟨some x, cap, by rw [hlen], by rw [hlen]; exact h1, by rw [hlen]; exact hl, fun h0 => ⟨x, rfl, rfl, fun i y hi => ?_⟩⟩
    have hi' := (List.getElem?_eq_some_iff.1 hi)
    obtain ⟨hlt, hy⟩ := hi'
    rw [hlen] at hlt
    refine ⟨_, h3 i (by omega), ?_⟩
    show _ = _
    congr 1
    rw [List.getElem_take] at hy
    simp [List.getD, show i < zs.length by omega]
    exact hy

theorem Bytes.mem {a : Option Addr} {len cap : Nat} {zs : List Int} (h : Bytes w a len cap zs) : ∀ n ∈ zs.take len, 0 ≤ n ∧ n < 256 := by
  intro n hn
  rcases h with ⟨_, _, _, rfl⟩ | ⟨x, _, _, _, _, h4⟩
  · simp at hn
  · have := h4 n (List.mem_of_mem_take hn)
    simp [Lit.wf, IntKind.min, IntKind.max, IntKind.signed, IntKind.bits] at this
    omega

theorem Bytes.len {a : Option Addr} {len cap : Nat} {zs : List Int} (h : Bytes w a len cap zs) : (zs.take len).length = len := by
  rcases h with ⟨_, rfl, _, rfl⟩ | ⟨x, _, h1, h2, _⟩
  · rfl
  · simp; omega

/-- The walk of a law over two slices of bytes. -/
theorem law2 {f : FuncId} (hvc : ∀ xs ys : List Int, (∀ n ∈ xs, 0 ≤ n ∧ n < 256) → (∀ n ∈ ys, 0 ≤ n ∧ n < 256) → VC P f { slots := [.sl (.int .u8) xs, .sl (.int .u8) ys], rows := [], boxes := [] } { slots := [], rows := [], boxes := [] } [.bool true])
    {a0 a1 : Option Addr} {l0 l1 c0 c1 : Nat} {z0 z1 : List Int} (w : World) (h0 : Bytes w a0 l0 c0 z0) (h1 : Bytes w a1 l1 c1 z1) (b0 : l0 < LIM) (b1 : l1 < LIM) :
    Calls P f #[.slice a0 l0 c0, .slice a1 l1 c1] w fun e w' => e = .returned (.bool true) ∧ RowKit.Below w.heap.size w w' := by
  refine Calls.mono (hvc _ _ h0.mem h1.mem w cfg0 #[.slice a0 l0 c0, .slice a1 l1 c1] ⟨(fun n r h => by cases h), (fun n r h => by cases h), fun b hb => absurd rfl hb⟩ ⟨h0.fr b0, h1.fr b1, trivial⟩) fun e w' he => ?_
  obtain ⟨v, c', rfl, _, hs, _, _, hres⟩ := he
  refine ⟨by have : v = .bool true := hres; rw [this], ⟨hs.os, hs.tape, hs.output, hs.size, fun k hk => hs.keep k hk (.inl rfl)⟩⟩

end
end Go.VS
namespace Go.VS.Row
open Go.ChangeShapes Go.WideShapes
/-- How long a slice of bytes may be, by its weight. -/
theorem weight {H : Type} {enc : TypeId × Value → H} {P : Program} {W : World} {base : Nat} {spare : Nat → Bool} {held : Bool} {t e : TypeId} {a : Option Addr} {len cap : Nat} {d : DataW H} {ps : List MemPlace} {ts : List TypeId} {ds : List (DataW H)} {j : Nat}
    (hs : (DataW.weightsEach P ts ds).all (· ≤ reachBytes) = true) (ht : ts[j]? = some t) (hd : ds[j]? = some d) (hu : P.underlying t = some (.slice e)) (he : P.underlying e = some (.int .u8)) (hc : P.cellsOf e = 1) (hB : P.bytesOf e = 1)
    (h : DataW.Trod enc P W base spare held t (.slice a len cap) d ps) : len < LIM := by
  obtain ⟨n, hn⟩ := h
  have key : len ≤ 140737488351232 := by
    rcases open_ints hu he hc hn with ⟨hcs, _⟩ | ⟨x, l, c, zs, hcs, _, hl, _, hz, hx, _, _⟩
    · simp [Value.cells] at hcs
      omega
    · simp [Value.cells] at hcs
      obtain ⟨_, rfl, rfl⟩ := hcs
      have hdx := (Prod.mk.inj hx).1
      subst hdx
      have hw := sized_slice hs ht hd hu
      rw [hB, Nat.mul_one] at hw
      have hcap : len ≤ zs.length := by
        rw [hz]
        split <;> omega
      have e : (lits (H := H) .u8 (zs.take len)).length + (lits (H := H) .u8 (zs.drop len)).length = zs.length := by
        simp [lits]; omega
      rw [e] at hw
      exact Nat.le_trans hcap hw
  unfold LIM
  omega
end Go.VS.Row
/- What is reckoned with fuel, and what is told of it. -/
set_option linter.unusedVariables false
namespace Go.VS

/-- What the first yields, the second yields. -/
def Le {A : Type} (o o' : Option A) : Prop := ∀ r, o = some r → o' = some r

theorem Le.rfl' {A : Type} {o : Option A} : Le o o := fun _ h => h
theorem Le.none {A : Type} {o : Option A} : Le none o := fun _ h => by cases h
theorem Le.ite {A : Type} {c : Prop} [Decidable c] {a b a' b' : Option A} (h : Le a a') (k : Le b b') : Le (if c then a else b) (if c then a' else b') := by
  split
  · exact h
  · exact k
theorem Le.cond {A : Type} {c : Bool} {a b a' b' : Option A} (h : Le a a') (k : Le b b') : Le (bif c then a else b) (bif c then a' else b') := by
  cases c
  · exact k
  · exact h
theorem Le.bind {A B : Type} {o o' : Option B} {f f' : B → Option A} (h : Le o o') (k : ∀ x, Le (f x) (f' x)) : Le (o.bind f) (o'.bind f') := by
  intro r hr
  cases ho : o with
  | none => rw [ho] at hr; cases hr
  | some x => rw [ho] at hr; rw [h x ho]; exact k x r hr
theorem Le.elim {A B C : Type} {s : B ⊕ C} {f f' : B → Option A} {g g' : C → Option A} (h : ∀ x, Le (f x) (f' x)) (k : ∀ x, Le (g x) (g' x)) : Le (Sum.elim f g s) (Sum.elim f' g' s) := by
  cases s with
  | inl x => exact h x
  | inr x => exact k x
theorem Le.ite_left {A : Type} {c : Prop} [Decidable c] {a b o : Option A} (h : c → Le a o) (k : ¬c → Le b o) : Le (if c then a else b) o := by
  by_cases hc : c
  · rw [if_pos hc]; exact h hc
  · rw [if_neg hc]; exact k hc

/-- An answer may be changed where it is put together. -/
theorem dec_some' {A : Type} {ret : A → R} (hi : ∀ x y, ret x = ret y → x = y) (b : A) : dec ret ((fun b => some (ret b)) b) = some b := dec_ret hi b

/-! ### What the told functions are made of: as the evaluator has it, and for quick reckoning -/

structure Pr where
  wr : IntKind → Int → Int
  inR : Int → Int → Bool
  gd : {α : Type} → List α → Nat → α → α
  st : {α : Type} → List α → Nat → α → List α
  lt : Int → Int → Bool
  le : Int → Int → Bool
  gt : Int → Int → Bool
  ge : Int → Int → Bool
  eq : Int → Int → Bool
  ne : Int → Int → Bool
  nlt : Nat → Nat → Bool
  bor : IntKind → Int → Int → Int
  band : IntKind → Int → Int → Int
  bxor : IntKind → Int → Int → Int
  bandn : IntKind → Int → Int → Int
  shl : IntKind → Int → Int → Int
  shr : IntKind → Int → Int → Int
  fi : {β : Type} → Int → (Int → β) → β
  fb : {β : Type} → Bool → (Bool → β) → β
  fl : {β : Type} → List Int → (List Int → β) → β
  fll : {β : Type} → List (List Int) → (List (List Int) → β) → β
  flll : {β : Type} → List (List (List Int)) → (List (List (List Int)) → β) → β
  flb : {β : Type} → List Bool → (List Bool → β) → β
  fh : {α β : Type} → List α → (List α → β) → β

def Pr.std : Pr where
  wr := IntKind.wrap
  inR := inRange
  gd := List.getD
  st := List.set
  lt a b := decide (a < b)
  le a b := decide (a ≤ b)
  gt a b := decide (a > b)
  ge a b := decide (a ≥ b)
  eq a b := a == b
  ne a b := a != b
  nlt a b := decide (a < b)
  bor k a b := k.wrap (((BitVec.ofInt k.bits a ||| BitVec.ofInt k.bits b).toNat : Nat) : Int)
  band k a b := k.wrap (((BitVec.ofInt k.bits a &&& BitVec.ofInt k.bits b).toNat : Nat) : Int)
  bxor k a b := k.wrap (((BitVec.ofInt k.bits a ^^^ BitVec.ofInt k.bits b).toNat : Nat) : Int)
  bandn k a b := k.wrap (((BitVec.ofInt k.bits a &&& ~~~(BitVec.ofInt k.bits b)).toNat : Nat) : Int)
  shl k a b := k.wrap (a * 2 ^ (min b.toNat k.bits))
  shr k a b := a.fdiv (2 ^ (min b.toNat k.bits))
  fi x k := k x
  fb x k := k x
  fl x k := k x
  fll x k := k x
  flll x k := k x
  flb x k := k x
  fh x k := k x

namespace Quick

def wr (k : IntKind) (n : Int) : Int := match k, n with
  | .i64, .ofNat m => if Nat.blt m 9223372036854775808 then .ofNat m else IntKind.wrap .i64 (.ofNat m)
  | .i64, .negSucc m => if Nat.blt m 9223372036854775808 then .negSucc m else IntKind.wrap .i64 (.negSucc m)
  | k, n => IntKind.wrap k n

theorem wr_eq : wr = IntKind.wrap := by
  funext k n
  unfold wr
  split
  · rename_i m
    split
    · rename_i h
      rw [IntKind.wrap_i64]
      simp only [Nat.blt_eq] at h
      simp only [Int.ofNat_eq_natCast]
      omega
    · rfl
  · rename_i m
    split
    · rename_i h
      rw [IntKind.wrap_i64]
      simp only [Nat.blt_eq] at h
      omega
    · rfl
  · rfl

def lt : Int → Int → Bool
  | .ofNat a, .ofNat b => Nat.blt a b
  | .ofNat _, .negSucc _ => false
  | .negSucc _, .ofNat _ => true
  | .negSucc a, .negSucc b => Nat.blt b a

theorem lt_eq : lt = fun a b => decide (a < b) := by
  funext a b
  unfold lt
  split
  · rename_i a b; rw [Bool.eq_iff_iff, Nat.blt_eq, decide_eq_true_iff]; simp only [Int.ofNat_eq_natCast]; omega
  · rename_i a b; rw [Bool.eq_iff_iff, decide_eq_true_iff]; simp only [Int.ofNat_eq_natCast, Bool.false_eq_true, false_iff]; omega
  · rename_i a b; rw [Bool.eq_iff_iff, decide_eq_true_iff]; simp only [Int.ofNat_eq_natCast, true_iff]; omega
  · rename_i a b; rw [Bool.eq_iff_iff, Nat.blt_eq, decide_eq_true_iff]; omega

def le : Int → Int → Bool
  | .ofNat a, .ofNat b => Nat.ble a b
  | .ofNat _, .negSucc _ => false
  | .negSucc _, .ofNat _ => true
  | .negSucc a, .negSucc b => Nat.ble b a

theorem le_eq : le = fun a b => decide (a ≤ b) := by
  funext a b
  unfold le
  split
  · rename_i a b; rw [Bool.eq_iff_iff, Nat.ble_eq, decide_eq_true_iff]; simp only [Int.ofNat_eq_natCast]; omega
  · rename_i a b; rw [Bool.eq_iff_iff, decide_eq_true_iff]; simp only [Int.ofNat_eq_natCast, Bool.false_eq_true, false_iff]; omega
  · rename_i a b; rw [Bool.eq_iff_iff, decide_eq_true_iff]; simp only [Int.ofNat_eq_natCast, true_iff]; omega
  · rename_i a b; rw [Bool.eq_iff_iff, Nat.ble_eq, decide_eq_true_iff]; omega

def eq : Int → Int → Bool
  | .ofNat a, .ofNat b => Nat.beq a b
  | .ofNat _, .negSucc _ => false
  | .negSucc _, .ofNat _ => false
  | .negSucc a, .negSucc b => Nat.beq a b

theorem eq_eq : eq = fun a b => a == b := by
  funext a b
  unfold eq
  split
  · rename_i a b; rw [Bool.eq_iff_iff, Nat.beq_eq, beq_iff_eq]; simp only [Int.ofNat_eq_natCast]; omega
  · rename_i a b; rw [Bool.eq_iff_iff, beq_iff_eq]; simp only [Int.ofNat_eq_natCast, Bool.false_eq_true, false_iff]; omega
  · rename_i a b; rw [Bool.eq_iff_iff, beq_iff_eq]; simp only [Int.ofNat_eq_natCast, Bool.false_eq_true, false_iff]; omega
  · rename_i a b; rw [Bool.eq_iff_iff, Nat.beq_eq, beq_iff_eq]; omega

noncomputable def gd {α : Type} (xs : List α) : Nat → α → α :=
  @List.rec α (fun _ => Nat → α → α) (fun _ d => d) (fun x _ ih n d => @Nat.rec (fun _ => α) x (fun m _ => ih m d) n) xs

theorem gd_eq {α : Type} : ∀ (xs : List α) (n : Nat) (d : α), gd xs n d = xs.getD n d
  | [], _, _ => rfl
  | x :: _, 0, _ => rfl
  | x :: xs, n + 1, d => by
    have := gd_eq xs n d
    show gd xs n d = _
    rw [this]; simp

noncomputable def st {α : Type} (xs : List α) : Nat → α → List α :=
  @List.rec α (fun _ => Nat → α → List α) (fun _ _ => []) (fun x xs ih n v => @Nat.rec (fun _ => List α) (v :: xs) (fun m _ => x :: ih m v) n) xs

theorem st_eq {α : Type} : ∀ (xs : List α) (n : Nat) (v : α), st xs n v = xs.set n v
  | [], _, _ => rfl
  | x :: _, 0, _ => rfl
  | x :: xs, n + 1, v => by
    have := st_eq xs n v
    show x :: st xs n v = _
    rw [this]; simp

def inR (i n : Int) : Bool := le 0 i && lt i n
theorem inR_eq : inR = inRange := by
  funext i n
  simp [inR, inRange, le_eq, lt_eq]

/-- Both are no less than 0 and of 63 bits. -/
def small (x : Nat) : Bool := Nat.blt x 9223372036854775808

theorem wrap_small {k : IntKind} {n : Nat} (h : n < 2 ^ 63) (hk : k = .i64) : k.wrap (n : Int) = n := by
  subst hk
  rw [IntKind.wrap_i64]
  omega

theorem ofInt_small {n : Nat} (h : n < 2 ^ 63) : (BitVec.ofInt 64 (n : Int)).toNat = n := by
  rw [BitVec.toNat_ofInt]
  omega

def bor (k : IntKind) (a b : Int) : Int := match k, a, b with
  | .i64, .ofNat x, .ofNat y => if small x && small y then .ofNat (Nat.lor x y) else Pr.std.bor .i64 (.ofNat x) (.ofNat y)
  | k, a, b => Pr.std.bor k a b

def band (k : IntKind) (a b : Int) : Int := match k, a, b with
  | .i64, .ofNat x, .ofNat y => if small x && small y then .ofNat (Nat.land x y) else Pr.std.band .i64 (.ofNat x) (.ofNat y)
  | k, a, b => Pr.std.band k a b

def bandn (k : IntKind) (a b : Int) : Int := match k, a, b with
  | .i64, .ofNat x, .ofNat y => if small x && small y then .ofNat (Nat.xor x (Nat.land x y)) else Pr.std.bandn .i64 (.ofNat x) (.ofNat y)
  | k, a, b => Pr.std.bandn k a b

def shl (k : IntKind) (a b : Int) : Int := match k, a, b with
  | .i64, .ofNat x, .ofNat y => if Nat.ble y 62 && small (x * 2 ^ y) then .ofNat (x * 2 ^ y) else Pr.std.shl .i64 (.ofNat x) (.ofNat y)
  | k, a, b => Pr.std.shl k a b

def shr (k : IntKind) (a b : Int) : Int := match k, a, b with
  | .i64, .ofNat x, .ofNat y => if Nat.ble y 62 then .ofNat (x / 2 ^ y) else Pr.std.shr .i64 (.ofNat x) (.ofNat y)
  | k, a, b => Pr.std.shr k a b

theorem bor_eq : bor = Pr.std.bor := by
  funext k a b
  unfold bor
  split
  · rename_i x y
    split
    · rename_i h
      simp only [small, Bool.and_eq_true, Nat.blt_eq] at h
      have h1 : x < 2 ^ 63 := by omega
      have h2 : y < 2 ^ 63 := by omega
      show _ = IntKind.wrap .i64 (((BitVec.ofInt 64 (x : Int) ||| BitVec.ofInt 64 (y : Int)).toNat : Nat) : Int)
      rw [BitVec.toNat_or, ofInt_small h1, ofInt_small h2, wrap_small (Nat.or_lt_two_pow h1 h2) rfl]
      rfl
    · rfl
  · rfl

theorem band_eq : band = Pr.std.band := by
  funext k a b
  unfold band
  split
  · rename_i x y
    split
    · rename_i h
      simp only [small, Bool.and_eq_true, Nat.blt_eq] at h
      have h1 : x < 2 ^ 63 := by omega
      have h2 : y < 2 ^ 63 := by omega
      show _ = IntKind.wrap .i64 (((BitVec.ofInt 64 (x : Int) &&& BitVec.ofInt 64 (y : Int)).toNat : Nat) : Int)
      rw [BitVec.toNat_and, ofInt_small h1, ofInt_small h2, wrap_small (Nat.and_lt_two_pow _ h2) rfl]
      rfl
    · rfl
  · rfl

theorem bandn_eq : bandn = Pr.std.bandn := by
  funext k a b
  unfold bandn
  split
  · rename_i x y
    split
    · rename_i h
      simp only [small, Bool.and_eq_true, Nat.blt_eq] at h
      have h1 : x < 2 ^ 63 := by omega
      have h2 : y < 2 ^ 63 := by omega
      show _ = IntKind.wrap .i64 (((BitVec.ofInt 64 (x : Int) &&& ~~~(BitVec.ofInt 64 (y : Int))).toNat : Nat) : Int)
      have e : (BitVec.ofInt 64 (x : Int) &&& ~~~(BitVec.ofInt 64 (y : Int))).toNat = Nat.xor x (Nat.land x y) := by
        have : BitVec.ofInt 64 (x : Int) &&& ~~~(BitVec.ofInt 64 (y : Int)) = BitVec.ofInt 64 (x : Int) ^^^ (BitVec.ofInt 64 (x : Int) &&& BitVec.ofInt 64 (y : Int)) := by
          ext i hi
          simp
          generalize (BitVec.ofNat 64 x)[i] = p
          generalize (BitVec.ofNat 64 y)[i] = q
          cases p <;> cases q <;> rfl
        rw [this, BitVec.toNat_xor, BitVec.toNat_and, ofInt_small h1, ofInt_small h2]
        rfl
      rw [e]
      exact (wrap_small (n := Nat.xor x (Nat.land x y)) (Nat.xor_lt_two_pow h1 (Nat.and_lt_two_pow _ h2)) rfl).symm
    · rfl
  · rfl

theorem shl_eq : shl = Pr.std.shl := by
  funext k a b
  unfold shl
  split
  · rename_i x y
    split
    · rename_i h
      simp only [small, Bool.and_eq_true, Nat.blt_eq, Nat.ble_eq] at h
      show _ = IntKind.wrap .i64 ((x : Int) * 2 ^ (min (Int.toNat (y : Int)) 64))
      have e1 : min (Int.toNat (y : Int)) 64 = y := by simp; omega
      have e2 : (x : Int) * 2 ^ y = ((x * 2 ^ y : Nat) : Int) := by simp
      rw [e1, e2, wrap_small (by omega) rfl]
      rfl
    · rfl
  · rfl

theorem shr_eq : shr = Pr.std.shr := by
  funext k a b
  unfold shr
  split
  · rename_i x y
    split
    · rename_i h
      simp only [Nat.ble_eq] at h
      show _ = Int.fdiv (x : Int) (2 ^ (min (Int.toNat (y : Int)) 64))
      have e1 : min (Int.toNat (y : Int)) 64 = y := by simp; omega
      rw [e1, Int.fdiv_eq_ediv_of_nonneg _ (Int.le_of_lt (Int.pow_pos (by omega)))]
      show ((x / 2 ^ y : Nat) : Int) = _
      simp
    · rfl
  · rfl

/-- A number, reckoned before it is handed on. -/
def fn {β : Type} (n : Nat) (k : Nat → β) : β := match n with
  | 0 => k 0
  | m + 1 => k (m + 1)
def fi {β : Type} (x : Int) (k : Int → β) : β := match x with
  | .ofNat n => fn n fun n => k (.ofNat n)
  | .negSucc n => fn n fun n => k (.negSucc n)
def fb {β : Type} (x : Bool) (k : Bool → β) : β := match x with
  | true => k true
  | false => k false
noncomputable def fls {β A : Type} (f : A → (A → β) → β) (xs : List A) : (List A → β) → β :=
  @List.rec A (fun _ => (List A → β) → β) (fun k => k []) (fun x _ ih k => f x fun x => ih fun xs => k (x :: xs)) xs

def fh {α β : Type} (xs : List α) (k : List α → β) : β := match xs with
  | [] => k []
  | x :: t => k (x :: t)
theorem fh_eq {α β : Type} (xs : List α) (k : List α → β) : fh xs k = k xs := by cases xs <;> rfl
theorem fn_eq {β : Type} (n : Nat) (k : Nat → β) : fn n k = k n := by cases n <;> rfl
theorem fi_eq {β : Type} (x : Int) (k : Int → β) : fi x k = k x := by
  cases x with
  | ofNat n => exact fn_eq n fun n => k (.ofNat n)
  | negSucc n => exact fn_eq n fun n => k (.negSucc n)
theorem fb_eq {β : Type} (x : Bool) (k : Bool → β) : fb x k = k x := by cases x <;> rfl
theorem fls_eq {β A : Type} {f : A → (A → β) → β} (h : ∀ x k, f x k = k x) : ∀ (xs : List A) (k : List A → β), fls f xs k = k xs
  | [], _ => rfl
  | x :: xs, k => by
    show f x (fun x => fls f xs fun xs => k (x :: xs)) = _
    rw [h, fls_eq h xs]

end Quick

noncomputable def Pr.quick : Pr where
  wr := Quick.wr
  inR := Quick.inR
  gd := Quick.gd
  st := Quick.st
  lt := Quick.lt
  le := Quick.le
  gt a b := Quick.lt b a
  ge a b := Quick.le b a
  eq := Quick.eq
  ne a b := !Quick.eq a b
  nlt := Nat.blt
  bor := Quick.bor
  band := Quick.band
  bxor := Pr.std.bxor
  bandn := Quick.bandn
  shl := Quick.shl
  shr := Quick.shr
  fi := Quick.fi
  fb := Quick.fb
  fl := Quick.fls Quick.fi
  fll := Quick.fls (Quick.fls Quick.fi)
  flll := Quick.fls (Quick.fls (Quick.fls Quick.fi))
  flb := Quick.fls Quick.fb
  fh := Quick.fh

theorem std_fi {β : Type} (x : Int) (k : Int → β) : Pr.std.fi x k = k x := rfl
theorem std_fb {β : Type} (x : Bool) (k : Bool → β) : Pr.std.fb x k = k x := rfl
theorem std_fl {β : Type} (x : List Int) (k : List Int → β) : Pr.std.fl x k = k x := rfl
theorem std_fll {β : Type} (x : List (List Int)) (k : List (List Int) → β) : Pr.std.fll x k = k x := rfl
theorem std_flll {β : Type} (x : List (List (List Int))) (k : List (List (List Int)) → β) : Pr.std.flll x k = k x := rfl
theorem std_fh {α β : Type} (x : List α) (k : List α → β) : Pr.std.fh x k = k x := rfl
theorem std_flb {β : Type} (x : List Bool) (k : List Bool → β) : Pr.std.flb x k = k x := rfl

theorem Pr.quick_eq : Pr.quick = Pr.std := by
  unfold Pr.quick
  show _ = Pr.mk _ _ _ _ _ _ _ _ _ _ _ _ _ _ _ _ _ _ _ _ _ _ _ _
  rw [Pr.mk.injEq]
  refine ⟨Quick.wr_eq, Quick.inR_eq, ?_, ?_, Quick.lt_eq, Quick.le_eq, ?_, ?_, Quick.eq_eq, ?_, ?_, Quick.bor_eq, Quick.band_eq, rfl, Quick.bandn_eq, Quick.shl_eq, Quick.shr_eq, ?_, ?_, ?_, ?_, ?_, ?_, ?_⟩
  · funext α xs n d; exact Quick.gd_eq xs n d
  · funext α xs n d; exact Quick.st_eq xs n d
  · rw [Quick.lt_eq]
  · rw [Quick.le_eq]
  · rw [Quick.eq_eq]; rfl
  · funext a b
    rw [Bool.eq_iff_iff, Nat.blt_eq, decide_eq_true_iff]
  · funext β x k; exact Quick.fi_eq x k
  · funext β x k; exact Quick.fb_eq x k
  · funext β x k; exact Quick.fls_eq Quick.fi_eq x k
  · funext β x k; exact Quick.fls_eq (Quick.fls_eq Quick.fi_eq) x k
  · funext β x k; exact Quick.fls_eq (Quick.fls_eq (Quick.fls_eq Quick.fi_eq)) x k
  · funext β x k; exact Quick.fls_eq Quick.fb_eq x k
  · funext α β x k; exact Quick.fh_eq x k

/-- A number handed on, both ways. -/
theorem Le.fi {A : Type} {x : Int} {k k' : Int → Option A} (h : ∀ y, Le (k y) (k' y)) : Le (Pr.std.fi x k) (Pr.std.fi x k') := h x
theorem Le.fb {A : Type} {x : Bool} {k k' : Bool → Option A} (h : ∀ y, Le (k y) (k' y)) : Le (Pr.std.fb x k) (Pr.std.fb x k') := h x
theorem Le.fl {A : Type} {x : List Int} {k k' : List Int → Option A} (h : ∀ y, Le (k y) (k' y)) : Le (Pr.std.fl x k) (Pr.std.fl x k') := h x
theorem Le.fll {A : Type} {x : List (List Int)} {k k' : List (List Int) → Option A} (h : ∀ y, Le (k y) (k' y)) : Le (Pr.std.fll x k) (Pr.std.fll x k') := h x
theorem Le.flll {A : Type} {x : List (List (List Int))} {k k' : List (List (List Int)) → Option A} (h : ∀ y, Le (k y) (k' y)) : Le (Pr.std.flll x k) (Pr.std.flll x k') := h x
theorem Le.fh {A α : Type} {x : List α} {k k' : List α → Option A} (h : ∀ y, Le (k y) (k' y)) : Le (Pr.std.fh x k) (Pr.std.fh x k') := h x
theorem Le.flb {A : Type} {x : List Bool} {k k' : List Bool → Option A} (h : ∀ y, Le (k y) (k' y)) : Le (Pr.std.flb x k) (Pr.std.flb x k') := h x

end Go.VS
