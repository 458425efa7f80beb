/- What the evaluator's values say of a world; operations that only compute and read. -/
import Derived.Test.YtnibmainjgcmaaaV0
import Derived.WalkKit
set_option linter.unusedVariables false
set_option linter.unusedSimpArgs false
namespace Go.VS

inductive Res where
  | row (n : Nat)
  | box (b : Nat)
  | ext
  deriving DecidableEq

/-- Where the names lie: a row's slice value, a box's block, and whose a block is. -/
structure Cfg where
  hdr : Nat → Option Addr × Nat × Nat
  box : Nat → Nat
  ow : Nat → Option Res

def Cfg.hv (c : Cfg) (n : Nat) : Value := .slice (c.hdr n).1 (c.hdr n).2.1 (c.hdr n).2.2

def Cfg.free (c : Cfg) (b : Nat) : Prop := c.ow b = none

/-- The length that no slice reaches. -/
def LIM : Nat := 140737488355328

/-- An element or a frozen slice, in memory that may only be read. -/
def FR (w : World) (fr : Nat → Prop) : (e : K) → e.T → Value → Prop
  | .int k, n, v => v = .int k n
  | .bool, b, v => v = .bool b
  | .str, s, v => v = .string s
  | .sl e, xs, v => ∃ A cap, v = .slice A (List.length xs) cap ∧ List.length xs ≤ cap ∧ List.length xs < LIM ∧
      (0 < List.length xs → ∃ ad, A = some ad ∧ fr ad.block ∧ ∀ i x, xs[i]? = some x → ∃ u, w.cell? (ad.add i) = some u ∧ FR w fr e x u)

def FC (w : World) (fr : Nat → Prop) : V → Value → Prop
  | .int k n, v => v = .int k n
  | .bool b, v => v = .bool b
  | .str s, v => v = .string s
  | .sl e xs, v => FR w fr (.sl e) xs v
  | .snil, v => v = .slice none 0 0
  | .fnil, v => v = .nilFunc
  | _, _ => False

def LR (r : V → Value → Prop) : List V → List Value → Prop
  | [], [] => True
  | v :: vs, x :: xs => r v x ∧ LR r vs xs
  | _, _ => False

def CR (c : Cfg) (w : World) : V → Value → Prop
  | .int k n, v => v = .int k n
  | .bool b, v => v = .bool b
  | .lit b, v => v = .bool b
  | .str s, v => v = .string s
  | .sl e xs, v => FR w c.free (.sl e) xs v
  | .snil, v => v = .slice none 0 0
  | .row n, v => v = c.hv n
  | .view n lo hi, v => ∃ A len cap, c.hv n = .slice A len cap ∧ lo ≤ hi ∧ hi ≤ len ∧
      v = .slice (if cap = lo then A else A.map (·.add lo)) (hi - lo) (cap - lo)
  | .el n i, v => ∃ g len cap, c.hv n = .slice (some ⟨g, 0, none⟩) len cap ∧ i < len ∧ v = .pointer (some ⟨g, i, none⟩)
  | .fel e xs i, v => ∃ x u ad, xs[i]? = some x ∧ v = .pointer (some ad) ∧ c.free ad.block ∧ w.cell? ad = some u ∧ FR w c.free e x u
  | .ptr b o, v => v = .pointer (some ⟨c.box b, o, none⟩)
  | .fp cs o, v => ∃ g arr ty fz, v = .pointer (some ⟨g, o, none⟩) ∧ c.free g ∧ w.heap[g]? = some (.cells arr ty fz) ∧ LR (FC w c.free) cs arr.toList
  | .fnil, v => v = .nilFunc
  | .dead, _ => True
  | _, _ => False

def AR (c : Cfg) (w : World) : V → Value → Prop
  | .agg vs, v => ∃ cs : Array Value, v = .agg cs ∧ LR (CR c w) vs cs.toList
  | x, v => CR c w x v

def ClR (c : Cfg) (w : World) : V → Value → Prop
  | .clo f fi ca, v => ∃ a b : Array Value, v = .func (.func f) a b ∧ LR (AR c w) fi a.toList ∧ LR (AR c w) ca b.toList
  | x, v => AR c w x v

def TR (c : Cfg) (w : World) : V → Value → Prop
  | .tup vs, v => ∃ cs : Array Value, v = .tuple cs ∧ LR (ClR c w) vs cs.toList
  | x, v => ClR c w x v

def OwnR (c : Cfg) (w : World) (n : Nat) (r : Row) : Prop :=
  ∃ A cap, c.hv n = .slice A r.xs.length cap ∧ r.xs.length < LIM ∧
    ((A = none ∧ r.xs = [] ∧ cap = 0) ∨
     ∃ (g : Nat) (arr : Array Value) (ty : TypeId), A = some ⟨g, 0, none⟩ ∧ c.ow g = some (.row n) ∧ w.heap[g]? = some (.cells arr ty (0, 0)) ∧ arr.size = cap ∧ r.xs.length ≤ cap ∧
       ∀ (i : Nat) x, r.xs[i]? = some x → ∃ u : Value, arr[i]? = some u ∧ FR w c.free r.e x u)

def BoxR (c : Cfg) (w : World) (b : Nat) (cs : List V) : Prop :=
  c.ow (c.box b) = some (.box b) ∧ ∃ arr ty, w.heap[c.box b]? = some (.cells arr ty (0, 0)) ∧ LR (CR c w) cs arr.toList

structure MRel (st : St) (c : Cfg) (w : World) : Prop where
  rows : ∀ n r, look st.rows n = some r → OwnR c w n r
  boxes : ∀ b cs, look st.boxes b = some cs → BoxR c w b cs
  lt : ∀ b, c.ow b ≠ none → b < w.heap.size

/-- What a slot says. -/
def SlotR (st : St) (c : Cfg) (w : World) (a : Act) (i : Nat) : Prop :=
  match guardOf st.gd i with
  | none => TR c w (getV st.slots i) (a.tmps.getD i undef)
  | some (t, b) => getV st.slots i = .dead ∨ (a.tmps.getD t undef = .bool b ∧ TR c w (getV st.slots i) (a.tmps.getD i undef)) ∨
      (a.tmps.getD t undef ≠ .bool b ∧ a.tmps.getD i undef = undef)

structure Rel (st : St) (c : Cfg) (a : Act) (w : World) : Prop where
  mem : MRel st c w
  size : st.slots.length = a.tmps.size
  slot : ∀ i, SlotR st c w a i
  defers : a.defers = []

/-! ### The table of types -/

def IsZero : V → Value → Prop
  | .int k n, v => v = .int k n
  | .bool b, v => v = .bool b
  | .str s, v => v = .string s
  | .snil, v => v = .slice none 0 0
  | .fnil, v => v = .nilFunc
  | .dead, _ => True
  | _, _ => False

def zeroDesc : V → TypeDesc → Prop
  | .int k _, d => d = .int k
  | .bool _, d => d = .bool
  | .str _, d => d = .string
  | _, d => match d with
    | .struct _ => False
    | .array _ _ => False
    | _ => True

def isAggB : TypeDesc → Bool
  | .struct _ => true
  | .array _ _ => true
  | _ => false

def FieldOk (P : Program) (f : Field) (x : Nat × Nat × Bool) : Prop :=
  f.offset = x.1 ∧ (∃ i, P.info? f.type = some i ∧ i.size = x.2.1) ∧ 0 < x.2.1 ∧ (∃ d, P.underlying f.type = some d ∧ isAggB d = x.2.2) ∧ (x.2.2 = false → x.2.1 = 1)

def TIOk (P : Program) (t : TypeId) : TI → Prop
  | .cell z => (∃ d, P.underlying t = some d ∧ zeroDesc z d) ∧ ∃ i v, P.info? t = some i ∧ i.size = 1 ∧ i.zero = some v ∧ IsZero z v ∧ v.cells = #[v]
  | .slice eT e => P.underlying t = some (.slice eT) ∧ (∃ i, P.info? t = some i ∧ i.size = 1 ∧ i.zero = some (.slice none 0 0)) ∧
      ∃ i v, P.info? eT = some i ∧ i.size = 1 ∧ i.bytes ≤ 24 ∧ i.zero = some v ∧ v.cells = #[v] ∧ ∀ w fr, FR w fr e e.dflt v
  | .agg n fs zs => ∃ fields cells, P.underlying t = some (.struct fields) ∧ (∃ i, P.info? t = some i ∧ i.size = n ∧ i.zero = some (.agg cells)) ∧
      zs.length = n ∧ LR IsZero zs cells.toList ∧ fields.size = fs.length ∧ (∀ (i : Nat) (f : Field) x, fields[i]? = some f → fs[i]? = some x → FieldOk P f x)
  | .arr n eT zs => ∃ cells, P.underlying t = some (.array n eT) ∧ (∃ i, P.info? t = some i ∧ i.size = n ∧ i.zero = some (.agg cells)) ∧ zs.length = n ∧ LR IsZero zs cells.toList ∧
      (∃ i, P.info? eT = some i ∧ i.size = 1) ∧ ∃ d, P.underlying eT = some d ∧ isAggB d = false

def TyOk (P : Program) (cx : Cx) : Prop := ∀ t ti, look cx.ty t = some ti → TIOk P t ti

/-! ### Small laws -/

theorem LR.length {r : V → Value → Prop} : ∀ {vs : List V} {xs : List Value}, LR r vs xs → vs.length = xs.length
  | [], [], _ => rfl
  | _ :: _, _ :: _, h => by simp [LR.length h.2]
  | [], _ :: _, h => h.elim
  | _ :: _, [], h => h.elim

theorem LR.mono {r r' : V → Value → Prop} (h : ∀ v x, r v x → r' v x) : ∀ {vs : List V} {xs : List Value}, LR r vs xs → LR r' vs xs
  | [], [], _ => trivial
  | _ :: _, _ :: _, hl => ⟨h _ _ hl.1, LR.mono h hl.2⟩
  | [], _ :: _, h => h.elim
  | _ :: _, [], h => h.elim

theorem LR.get {r : V → Value → Prop} : ∀ {vs : List V} {xs : List Value}, LR r vs xs → ∀ i, i < vs.length → r (getV vs i) (xs.getD i undef)
  | v :: vs, x :: xs, h, 0, _ => h.1
  | v :: vs, x :: xs, h, i + 1, hi => by
    have := LR.get h.2 i (by simpa using hi)
    simpa [getV] using this
  | [], _, _, _, hi => by simp at hi
  | _ :: _, [], h, _, _ => h.elim

theorem getV_ge : ∀ {vs : List V} {i : Nat}, vs.length ≤ i → getV vs i = .dead
  | [], _, _ => rfl
  | _ :: vs, i + 1, h => getV_ge (vs := vs) (by simpa using h)
  | _ :: _, 0, h => by simp at h

theorem LR.map {r r' : V → Value → Prop} (f : V → V) (h : ∀ v x, r v x → r' (f v) x) : ∀ {vs : List V} {xs : List Value}, LR r vs xs → LR r' (vs.map f) xs
  | [], [], _ => trivial
  | _ :: _, _ :: _, hl => ⟨h _ _ hl.1, LR.map f h hl.2⟩
  | [], _ :: _, h => h.elim
  | _ :: _, [], h => h.elim

theorem LR.drop {r : V → Value → Prop} : ∀ {vs : List V} {xs : List Value} (n : Nat), LR r vs xs → LR r (vs.drop n) (xs.drop n)
  | _, _, 0, h => h
  | [], [], _ + 1, _ => trivial
  | _ :: _, _ :: _, n + 1, h => by simpa using LR.drop n h.2
  | [], _ :: _, _ + 1, h => h.elim
  | _ :: _, [], _ + 1, h => h.elim

theorem LR.take {r : V → Value → Prop} : ∀ {vs : List V} {xs : List Value} (n : Nat), LR r vs xs → LR r (vs.take n) (xs.take n)
  | _, _, 0, _ => by simp [LR]
  | [], [], _ + 1, _ => trivial
  | _ :: _, _ :: _, n + 1, h => ⟨h.1, LR.take n h.2⟩
  | [], _ :: _, _ + 1, h => h.elim
  | _ :: _, [], _ + 1, h => h.elim

theorem LR.append {r : V → Value → Prop} : ∀ {vs vs' : List V} {xs xs' : List Value}, LR r vs xs → LR r vs' xs' → LR r (vs ++ vs') (xs ++ xs')
  | [], _, [], _, _, h => h
  | _ :: _, _, _ :: _, _, h, h' => ⟨h.1, LR.append h.2 h'⟩
  | [], _, _ :: _, _, h, _ => h.elim
  | _ :: _, _, [], _, h, _ => h.elim

/-- Nothing that is told is told of another world. -/
theorem FR.agree {w w' : World} {fr : Nat → Prop} (h : ∀ b, fr b → w'.heap[b]? = w.heap[b]?) : ∀ (e : K) (x : e.T) (v : Value), FR w fr e x v → FR w' fr e x v
  | .int _, _, _, hr => hr
  | .bool, _, _, hr => hr
  | .str, _, _, hr => hr
  | .sl e, xs, v, hr => by
    obtain ⟨A, cap, h1, h2, h3, h4⟩ := hr
    refine ⟨A, cap, h1, h2, h3, fun h0 => ?_⟩
    obtain ⟨ad, ha, hf, hc⟩ := h4 h0
    refine ⟨ad, ha, hf, fun i x hi => ?_⟩
    obtain ⟨u, hu, hx⟩ := hc i x hi
    have hb : (ad.add i).block = ad.block := by unfold Addr.add; split <;> rfl
    exact ⟨u, by rw [← hu]; unfold World.cell?; rw [hb, h _ hf], FR.agree h e x u hx⟩

theorem FR.weaken {w : World} {fr fr' : Nat → Prop} (h : ∀ b, fr b → fr' b) : ∀ (e : K) (x : e.T) (v : Value), FR w fr e x v → FR w fr' e x v
  | .int _, _, _, hr => hr
  | .bool, _, _, hr => hr
  | .str, _, _, hr => hr
  | .sl e, xs, v, hr => by
    obtain ⟨A, cap, h1, h2, h3, h4⟩ := hr
    refine ⟨A, cap, h1, h2, h3, fun h0 => ?_⟩
    obtain ⟨ad, ha, hf, hc⟩ := h4 h0
    exact ⟨ad, ha, h _ hf, fun i x hi => let ⟨u, hu, hx⟩ := hc i x hi; ⟨u, hu, FR.weaken h e x u hx⟩⟩

theorem FR.cast {w : World} {fr : Nat → Prop} {a b : K} (h : a = b) (xs : List a.T) (v : Value) (hr : FR w fr (.sl a) xs v) : FR w fr (.sl b) (castL h xs) v := by
  subst h; exact hr

/-- A frozen value as an element. -/
theorem FR.toK {c : Cfg} {w : World} {e : K} {v : V} {x : Value} {y : e.T} (h : toK e v = some y) (hr : CR c w v x) : FR w c.free e y x := by
  cases e with
  | int k =>
    cases v <;> simp only [VS.toK] at h <;> first | cases h | skip
    split at h
    · rename_i hk; subst hk; cases h; exact hr
    · cases h
  | bool => cases v <;> simp only [VS.toK] at h <;> cases h <;> exact hr
  | str => cases v <;> simp only [VS.toK] at h <;> cases h <;> exact hr
  | sl e =>
    cases v <;> simp only [VS.toK] at h <;> first | (cases h; done) | skip
    · split at h
      · cases h; exact FR.cast _ _ _ hr
      · cases h
    · cases h; exact ⟨none, 0, hr, by simp, by simp [LIM], fun h0 => by simp at h0⟩

theorem CR.ofK {c : Cfg} {w : World} : ∀ {e : K} {x : e.T} {v : Value}, FR w c.free e x v → CR c w (ofK e x) v
  | .int _, _, _, h => h
  | .bool, _, _, h => h
  | .str, _, _, h => h
  | .sl _, _, _, h => h

theorem CR.ar {c : Cfg} {w : World} {v : V} {x : Value} (h : CR c w v x) : AR c w v x := by cases v <;> first | exact h | exact h.elim
theorem AR.clr {c : Cfg} {w : World} {v : V} {x : Value} (h : AR c w v x) : ClR c w v x := by cases v <;> first | exact h | exact h.elim
theorem ClR.tr {c : Cfg} {w : World} {v : V} {x : Value} (h : ClR c w v x) : TR c w v x := by cases v <;> first | exact h | exact h.elim
theorem CR.tr {c : Cfg} {w : World} {v : V} {x : Value} (h : CR c w v x) : TR c w v x := h.ar.clr.tr
theorem FC.cr {c : Cfg} {w : World} {v : V} {x : Value} (h : FC w c.free v x) : CR c w v x := by cases v <;> first | exact h | exact h.elim

theorem TR.unlit {c : Cfg} {w : World} {v : V} {x : Value} (h : TR c w v x) : TR c w (unlit v) x := by
  cases v <;> exact h

theorem TR.const {c : Cfg} {w : World} (v : Value) : TR c w (ofConst v) v := by
  unfold ofConst
  split <;> first | rfl | trivial

end Go.VS
/- Operations that only compute and read: what they yield. -/
set_option linter.unusedVariables false
set_option linter.unusedSimpArgs false
namespace Go.VS

def Holds (a : Act) (gs : List (Nat × Bool)) : Prop := ∀ t b, (t, b) ∈ gs → a.tmps.getD t undef = .bool b

theorem hasG_mem {gs : List (Nat × Bool)} {t : Nat} {w : Bool} (h : hasG gs t w = true) : (t, w) ∈ gs := by
  unfold hasG at h
  obtain ⟨p, hp, hq⟩ := List.any_eq_true.1 h
  simp at hq
  obtain ⟨h1, h2⟩ := hq
  subst h1; subst h2
  exact hp

theorem opd_sound {st : St} {c : Cfg} {a : Act} {w : World} {gs : List (Nat × Bool)} (h : Rel st c a w) (hg : Holds a gs) (o : Operand) : TR c w (opd st gs o) (a.eval o) := by
  cases o with
  | tmp t =>
    have hs := h.slot t
    unfold SlotR at hs
    cases hq : guardOf st.gd t with
    | none =>
      rw [hq] at hs
      simp only [opd, hq]
      exact TR.unlit hs
    | some p =>
      obtain ⟨t', b⟩ := p
      rw [hq] at hs
      simp only [opd, hq]
      split
      · rename_i hw
        have := hg _ _ (hasG_mem hw)
        rcases hs with hd | ⟨_, hs⟩ | ⟨hn, _⟩
        · rw [hd]; trivial
        · exact TR.unlit hs
        · exact absurd this hn
      · trivial
  | const v => exact TR.const v
  | func f => exact ⟨#[], #[], rfl, trivial, trivial⟩
  | global g => trivial

section
variable {c : Cfg} {w : World}
theorem TR.int {k : IntKind} {n : Int} {x : Value} (h : TR c w (.int k n) x) : x = .int k n := h
theorem TR.bool {b : Bool} {x : Value} (h : TR c w (.bool b) x) : x = .bool b := h
theorem TR.str {s : ByteArray} {x : Value} (h : TR c w (.str s) x) : x = .string s := h
end

/-- What an operation yields, in every world that agrees with this one on the block that it reads (if any). -/
def Gives (P : Program) (c : Cfg) (w : World) (a : Act) (op : Op) (v : V) (cl : Nat) (el : Bool) : Prop :=
  ∃ (x : Value) (bl : Option Nat), TR c w v x ∧ (cl = 0 → bl = none) ∧
    (∀ g, bl = some g → g < w.heap.size ∧ (el = false → ∀ n, c.ow g ≠ some (.row n))) ∧
    ∀ (w' : World) (dst : Option Tmp) (ty : TypeId) (pos : String) (after : Array Edge) (gd : Option (Nat × Bool)), (∀ g, bl = some g → w'.heap[g]? = w.heap[g]?) →
      (execOp a.eval { dst, op, type := ty, pos, after, guard := gd }).run P w' = .ok (.value x) w'

theorem Gives.pure {P : Program} {c : Cfg} {w : World} {a : Act} {op : Op} {v : V} {cl : Nat} {el : Bool} {x : Value} (hx : TR c w v x)
    (h : ∀ (w' : World) (dst : Option Tmp) (ty : TypeId) (pos : String) (after : Array Edge) (gd : Option (Nat × Bool)),
      (execOp a.eval { dst, op, type := ty, pos, after, guard := gd }).run P w' = .ok (.value x) w') : Gives P c w a op v cl el :=
  ⟨x, none, hx, fun _ => rfl, (fun _ h => by cases h), fun w' dst ty pos after gd _ => h w' dst ty pos after gd⟩

section
variable {P : Program} {cx : Cx} {st : St} {c : Cfg} {a : Act} {w : World} {gs : List (Nat × Bool)}

theorem bin_sound {op : BinOp} {t : TypeId} {x y : Operand} {yt : TypeId} {u v r : V} {q : Option Bool} {cl : Nat} {el : Bool} (hx : TR c w u (a.eval x)) (hy : TR c w v (a.eval y))
    (hb : ∀ b, u = .bool b → P.underlying t = some .bool) (h : binV op u v = some (q, r)) (hq : ∀ b, q = some b → b = true) : Gives P c w a (.binOp op t x y yt) r cl el := by
  unfold binV at h
  split at h
  · -- whole numbers
    rename_i k m k' n
    have hx := TR.int hx
    have hy := TR.int hy
    have he : ∀ w', (eqGuard op t x y (.int k m) (.int k' n)).run P w' = .ok () w' := by
      intro w'; unfold eqGuard; cases op <;> simp [Sem.run, pure, bind, Sem.bind]
    split at h
    · cases h
      have := hq _ rfl
      refine Gives.pure (x := .int k (k.wrap (m * 2 ^ (min n.toNat k.bits)))) rfl fun w' dst ty pos after gd => ?_
      simp at this
      simp [execOp, hx, hy, Go.binOp, Op.shift, Sem.run, pure, bind, Sem.bind, eqGuard, show ¬ n < 0 by omega]
    · cases h
      have := hq _ rfl
      refine Gives.pure (x := .int k (m.fdiv (2 ^ (min n.toNat k.bits)))) rfl fun w' dst ty pos after gd => ?_
      simp at this
      simp [execOp, hx, hy, Go.binOp, Op.shift, Sem.run, pure, bind, Sem.bind, eqGuard, show ¬ n < 0 by omega]
    · split at h
      · rename_i hk
        subst hk
        split at h <;> first | (cases h; done) | skip
        all_goals (injection h with h; injection h with h1 h2; subst h1; subst h2)
        all_goals first
          | (refine Gives.pure rfl fun w' dst ty pos after gd => ?_
             simp [execOp, hx, hy, Go.binOp, Op.intArith, Op.intDiv, Op.intBits, Op.intCmp, Sem.run, pure, bind, Sem.bind, eqGuard]; done)
          | (have := hq _ rfl
             refine Gives.pure rfl fun w' dst ty pos after gd => ?_
             simp at this
             simp [execOp, hx, hy, Go.binOp, Op.intDiv, Sem.run, pure, bind, Sem.bind, eqGuard, this])
      · cases h
  · -- Bools
    rename_i m n
    have hx := TR.bool hx
    have hy := TR.bool hy
    have hu := hb m rfl
    have he : ∀ d w', (Op.equalIn (d + 1) t (.bool m) (.bool n)).run P w' = .ok (m == n) w' := by
      intro d w'
      simp [Op.equalIn, underlying, program, hu, Sem.run, pure, bind, Sem.bind]
    have he' : ∀ w', (Op.equal t (.bool m) (.bool n)).run P w' = .ok (m == n) w' := fun w' => he 9999 w'
    split at h <;> first | (cases h; done) | skip
    · cases h
      refine Gives.pure (x := .bool (m == n)) rfl fun w' dst ty pos after gd => ?_
      simp [execOp, hx, hy, Go.binOp, eqGuard, he']
    · cases h
      refine Gives.pure (x := .bool !(m == n)) rfl fun w' dst ty pos after gd => ?_
      simp [execOp, hx, hy, Go.binOp, eqGuard, he']
  · -- strings
    rename_i m n
    have hx := TR.str hx
    have hy := TR.str hy
    split at h <;> first | (cases h; done) | skip
    · cases h
      have := hq _ rfl
      refine Gives.pure (x := .string (m ++ n)) rfl fun w' dst ty pos after gd => ?_
      have h2 : ((m.size + n.size : Nat) : Int) ≤ IntKind.i64.max := of_decide_eq_true this
      simp [execOp, hx, hy, Go.binOp, Op.stringOp, eqGuard]
      simpa using h2
    all_goals
      cases h
      refine Gives.pure rfl fun w' dst ty pos after gd => ?_
      simp [execOp, hx, hy, Go.binOp, Op.stringOp, eqGuard]
  · cases h
theorem un_sound {op : UnOp} {t : TypeId} {x : Operand} {u r : V} {cl : Nat} {el : Bool} (hx : TR c w u (a.eval x)) (h : unV op u = some r) : Gives P c w a (.unOp op t x) r cl el := by
  unfold unV at h
  split at h <;> cases h
  · rename_i k n
    have hx := TR.int hx
    refine Gives.pure (x := .int k (k.wrap (0 - n))) rfl fun w' dst ty pos after gd => ?_
    simp [execOp, hx, Op.unary, Op.intArith]
  · rename_i b
    have hx := TR.bool hx
    refine Gives.pure (x := .bool !b) rfl fun w' dst ty pos after gd => ?_
    simp [execOp, hx, Op.unary]

theorem pick_sound {x y z : Operand} {v : V} {b : Bool} {cl : Nat} {el : Bool} (hx : a.eval x = .bool b) (h : TR c w v (if b then a.eval y else a.eval z)) : Gives P c w a (.pick x y z) v cl el := by
  refine Gives.pure h fun w' dst ty pos after gd => ?_
  simp [execOp, hx, asBool]

theorem field_unpack {t : TypeId} {n : Nat} {fs : List (Nat × Nat × Bool)} {zs : List V} (hty : TyOk P cx) (hl : look cx.ty t = some (.agg n fs zs)) {i : Nat} {x : Nat × Nat × Bool} (hi : fs[i]? = some x) :
    ∃ (fields : Array Field) (f : Field), P.underlying t = some (.struct fields) ∧ fields[i]? = some f ∧ FieldOk P f x := by
  obtain ⟨fields, cells, hu, _, _, _, hsz, hf⟩ := hty _ _ hl
  have hlt : i < fields.size := by rw [hsz]; exact (List.getElem?_eq_some_iff.1 hi).1
  exact ⟨fields, fields[i], hu, by simp [hlt], hf i _ _ (by simp [hlt]) hi⟩

theorem fieldPlace_run {f : Field} {x : Nat × Nat × Bool} (hf : FieldOk P f x) (b o : Nat) (w' : World) : (fieldPlace ⟨b, o, none⟩ f).run P w' = .ok ⟨b, o + x.1, none⟩ w' := by
  obtain ⟨h1, ⟨i, hi, hs⟩, h0, _⟩ := hf
  have : i.size ≠ 0 := by omega
  unfold fieldPlace
  simp [sizeOf, typeInfo, hi, this, h1]
  unfold Addr.add
  split <;> simp_all

theorem fieldAddr_sound {t : TypeId} {n : Nat} {fs : List (Nat × Nat × Bool)} {zs : List V} (hty : TyOk P cx) (hl : look cx.ty t = some (.agg n fs zs)) {i : Nat} {off : Nat} {s : Nat × Bool} (hi : fs[i]? = some (off, s))
    {x : Operand} {g o : Nat} {v : V} {cl : Nat} {el : Bool} (hx : a.eval x = .pointer (some ⟨g, o, none⟩)) (hv : TR c w v (.pointer (some ⟨g, o + off, none⟩))) : Gives P c w a (.fieldAddr t x i) v cl el := by
  obtain ⟨fields, f, hu, hf, hok⟩ := field_unpack hty hl hi
  refine Gives.pure hv fun w' dst ty pos after gd => ?_
  simp [execOp, hx, Instr.fieldAt, underlying, hu, hf, Instr.sureAddr, fieldPlace_run hok]

theorem LR.part {r : V → Value → Prop} {vs : List V} {xs : List Value} (h : LR r vs xs) (off size : Nat) : LR r ((vs.drop off).take size) ((xs.drop off).take size) := (h.drop off).take size

theorem part_run {c : Cfg} {w : World} {vs : List V} {cs : Array Value} (h : LR (CR c w) vs cs.toList) {f : Field} {off size : Nat} {isA : Bool} (hf : FieldOk P f (off, size, isA)) (hlt : off + size ≤ vs.length) :
    ∃ x, TR c w (partOf vs off size isA) x ∧ ∀ w', (part f.type cs f.offset).run P w' = .ok x w' := by
  obtain ⟨h1, ⟨i, hi, hs⟩, h0, ⟨d, hd, ha⟩, h3⟩ := hf
  simp only at h1 h0 ha h3 hs
  have hlen := LR.length h
  simp only [Array.length_toList] at hlen
  cases isA with
  | true =>
    refine ⟨.agg (cs.extract off (off + size)), ⟨_, rfl, ?_⟩, fun w' => ?_⟩
    · have := h.part off size
      have e : (cs.extract off (off + size)).toList = (cs.toList.drop off).take size := by simp
      rw [e]; exact this
    · have hagg : (isAgg f.type).run P w' = .ok true w' := by
        unfold isAgg
        simp [underlying, hd]
        cases d <;> simp_all [isAggB]
      simp [part, hagg, sizeOf, typeInfo, hi, hs, h1]
  | false =>
    have h3 := h3 rfl
    have hlt' : off < cs.size := by omega
    refine ⟨cs[off], ?_, fun w' => ?_⟩
    · have := h.get off (by omega)
      have e : cs.toList.getD off undef = cs[off] := by simp [List.getD, hlt']
      rw [e] at this
      exact this.tr
    · have hagg : (isAgg f.type).run P w' = .ok false w' := by
        unfold isAgg
        simp [underlying, hd]
        cases d <;> simp_all [isAggB]
      simp [part, hagg, h1, hlt']

theorem TR.agg_inv {vs : List V} {x : Value} (h : TR c w (.agg vs) x) : ∃ cs : Array Value, x = .agg cs ∧ LR (CR c w) vs cs.toList := h

theorem field_sound {t : TypeId} {n : Nat} {fs : List (Nat × Nat × Bool)} {zs : List V} (hty : TyOk P cx) (hl : look cx.ty t = some (.agg n fs zs)) {i : Nat} {off size : Nat} {isA : Bool} (hi : fs[i]? = some (off, size, isA))
    {x : Operand} {vs : List V} {cl : Nat} {el : Bool} (hx : TR c w (.agg vs) (a.eval x)) (hlt : off + size ≤ vs.length) : Gives P c w a (.field t x i) (partOf vs off size isA) cl el := by
  obtain ⟨fields, f, hu, hf, hok⟩ := field_unpack hty hl hi
  obtain ⟨cs, hcs, hlr⟩ := TR.agg_inv hx
  obtain ⟨y, hy, hrun⟩ := part_run (P := P) hlr hok hlt
  refine Gives.pure hy fun w' dst ty pos after gd => ?_
  simp [execOp, hcs, Instr.field, underlying, hu, hf, asAgg, hrun]

end
end Go.VS
