/- nil told as an empty row: in variables in memory, and in results. -/
import Derived.Test.YtnibmainjgcmaaaV8
set_option linter.unusedVariables false
set_option linter.unusedSimpArgs false
namespace Go.VS
section
variable {P : Program} {cx : Cx} {st : St} {c c' c'' c1 c2 : Cfg} {a : Act} {w w' w'' w1 : World}

theorem LR.setV {r : V → Value → Prop} : ∀ {vs : List V} {xs : List Value} {i : Nat} {v : V}, LR r vs xs → (∀ x, xs[i]? = some x → r v x) → LR r (setV vs i v) xs
  | [], [], _, _, _, _ => trivial
  | [], _ :: _, _, _, h, _ => h.elim
  | _ :: _, [], _, _, h, _ => h.elim
  | _ :: _, x :: xs, 0, v, h, hv => ⟨hv x rfl, h.2⟩
  | _ :: _, x :: xs, i + 1, v, h, hv => ⟨h.1, LR.setV (i := i) h.2 fun y hy => hv y hy⟩

theorem LR.getV {r : V → Value → Prop} : ∀ {vs : List V} {xs : List Value} {i : Nat} {x : Value}, LR r vs xs → xs[i]? = some x → r (getV vs i) x
  | [], [], _, _, _, hx => by simp at hx
  | [], _ :: _, _, _, h, _ => h.elim
  | _ :: _, [], _, _, h, _ => h.elim
  | _ :: _, x :: xs, 0, _, h, hx => by cases hx; exact h.1
  | _ :: _, x :: xs, i + 1, y, h, hx => LR.getV (i := i) h.2 hx

/-- Told otherwise: the same world. -/
def Told (st : St) (c : Cfg) (a : Act) (w : World) (st' : St) : Prop := ∃ c', Rel st' c' a w ∧ Step c c' w w ∧ Still c c' w w ∧ st'.gd = st.gd

theorem Told.refl (h : Rel st c a w) : Told st c a w st := ⟨c, h, Step.refl _ _, Still.refl _ _, rfl⟩

theorem nilCell_sound (b i : Nat) (e : K) (h : Rel st c a w) : Told st c a w (nilCell b i e st) := by
  unfold nilCell
  split
  · exact Told.refl h
  · rename_i cs hcs
    split
    · rename_i hv
      split
      · rename_i cs' hcs'
        obtain ⟨c1, h1, s1, t1, v1, o1, d1, b1⟩ := h.nilRow (nilName b i) (by unfold nilName; omega) e
        refine ⟨c1, ⟨⟨h1.mem.rows, fun m cs2 hm => ?_, h1.mem.lt⟩, h1.size, h1.slot, h1.defers⟩, s1, t1, rfl⟩
        simp only [look] at hm
        split at hm
        · rename_i hb; subst hb; cases hm
          obtain ⟨q1, arr, ty, q2, q3⟩ := h1.mem.boxes b cs' hcs'
          refine ⟨q1, arr, ty, q2, LR.setV q3 fun x hx => ?_⟩
          have hcr := LR.getV q3 hx
          have hsn : getV cs' i = .snil := by
            have : cs' = cs.map (({ row := fun m => if m = nilName b i then none else some m, box := some } : Ren).cell) := by
              unfold St.newRow at hcs'
              simp only at hcs'
              rw [look_map, hcs] at hcs'
              simpa using hcs'.symm
            rw [this, getV_map _ rfl, hv]; rfl
          rw [hsn] at hcr
          show x = c1.hv _
          rw [v1]; exact hcr
        · rename_i hb
          rw [look_cut_ne _ (Ne.symm hb)] at hm
          exact h1.mem.boxes m cs2 hm
      · exact Told.refl h
    · exact Told.refl h

theorem Told.trans {st' st'' : St} (h1 : Told st c a w st') (h2 : ∀ c', Rel st' c' a w → Told st' c' a w st'') : Told st c a w st'' := by
  obtain ⟨c1, r1, s1, t1, g1⟩ := h1
  obtain ⟨c2, r2, s2, t2, g2⟩ := h2 c1 r1
  exact ⟨c2, r2, s1.trans s2, t1.trans t2 (Nat.le_refl _), g2.trans g1⟩

theorem nilKs_sound (b : Nat) : ∀ (ks : List (Option K)) (i : Nat) {st : St} {c : Cfg}, Rel st c a w → Told st c a w (nilKs b i ks st)
  | [], _, _, _, h => Told.refl h
  | none :: ks, i, _, _, h => by simp only [nilKs]; exact nilKs_sound b ks (i + 1) h
  | some e :: ks, i, _, _, h => by simp only [nilKs]; exact (nilCell_sound b i e h).trans fun c' h' => nilKs_sound b ks (i + 1) h'

theorem nilBoxes_sound : ∀ (l : List (Nat × List (Option K))) {st : St} {c : Cfg}, Rel st c a w → Told st c a w (nilBoxes l st)
  | [], _, _, h => Told.refl h
  | (b, ks) :: l, _, _, h => by simp only [nilBoxes]; exact (nilKs_sound b ks 0 h).trans fun c' h' => nilBoxes_sound l h'

theorem Rel.setSlot' (h : Rel st c a w) (hg : st.gd = []) {s : Nat} {v : V} (hv : TR c w v (a.tmps.getD s undef)) : Rel { st with slots := setV st.slots s v } c a w := by
  refine ⟨⟨h.mem.rows, h.mem.boxes, h.mem.lt⟩, ?_, fun i => ?_, h.defers⟩
  · show (setV _ _ _).length = _
    rw [setV_length]; exact h.size
  · have hs := h.slot i
    unfold SlotR at hs ⊢
    simp only [hg, guardOf] at hs ⊢
    by_cases hsi : s = i
    · subst hsi
      by_cases hl : s < st.slots.length
      · rw [getV_setV_same _ _ _ hl]; exact hv
      · rw [getV_ge (by rw [setV_length]; omega)]; trivial
    · rw [getV_setV_ne _ _ _ _ hsi]; exact hs

theorem TR.of_cell {v : V} {x : Value} (h : CR c w v x) (hc : v.isCell = true) : TR c w v x := by
  cases v <;> first | exact h | cases hc

/-- A nil cell of a slot is told otherwise. -/
theorem setC_nil (h : Rel st c a w) (hg : st.gd = []) {s i : Nat} {v : V} (hn : getC st s i = .snil) (hv : CR c w v (.slice none 0 0)) (hc : v.isCell = true) : Rel (setC st s i v) c a w := by
  unfold setC
  refine h.setSlot' hg ?_
  have hs := h.slot s
  unfold SlotR at hs
  simp only [hg, guardOf] at hs
  unfold getC at hn
  revert hs hn
  generalize getV st.slots s = u
  intro hn hs
  cases u with
  | agg vs =>
    obtain ⟨cs, h1, h2⟩ := hs
    refine ⟨cs, h1, LR.setV h2 fun x hx => ?_⟩
    have := LR.getV h2 hx
    rw [show getV vs i = .snil from hn] at this
    have hx' : x = .slice none 0 0 := this
    rw [hx']; exact hv
  | snil =>
    have hx : a.tmps.getD s undef = .slice none 0 0 := hs
    rw [hx]
    exact TR.of_cell hv hc
  | _ =>
    simp only at hn
    split at hn <;> cases hn

theorem FR.nil {fr : Nat → Prop} (e : K) : FR w fr (.sl e) [] (.slice none 0 0) := ⟨none, 0, rfl, by simp, by simp [LIM], fun h => by simp at h⟩

theorem freeze_gd (n : Nat) : (st.freeze n).gd = st.gd := by
  unfold St.freeze; split <;> rfl

theorem preCell_sound (s i : Nat) (e : K) (fz : Bool) (h : Rel st c a w) (hg : st.gd = []) : Told st c a w (preCell s i e fz st) := by
  have frz : ∀ n, Told st c a w (st.freeze n) := fun n => by
    obtain ⟨c1, h1, s1, t1, _⟩ := h.freeze n
    exact ⟨c1, h1, s1, t1, freeze_gd n⟩
  unfold preCell
  split
  · rename_i hn
    split
    · exact ⟨c, setC_nil h hg hn (FR.nil e) rfl, Step.refl _ _, Still.refl _ _, rfl⟩
    · obtain ⟨c1, h1, s1, t1, v1, _⟩ := h.nilRow (preName s i) (by unfold preName; omega) e
      refine ⟨c1, setC_nil h1 hg ?_ (show _ = _ from v1.symm) rfl, s1, t1, rfl⟩
      unfold getC St.newRow at *
      simp only
      rw [getV_map _ rfl]
      revert hn
      cases getV st.slots s with
      | agg vs => intro hn; simp only [Ren.tup, Ren.clo, Ren.agg] at hn ⊢; rw [getV_map _ rfl, hn]; rfl
      | snil => intro hn; exact hn
      | _ => intro hn; simp only at hn; split at hn <;> cases hn
  · split
    · split
      · exact frz _
      · exact frz _
      · exact Told.refl h
    · exact Told.refl h

theorem preKs_sound (s : Nat) : ∀ (ks : List (Option (K × Bool))) (i : Nat) {st : St} {c : Cfg}, Rel st c a w → st.gd = [] → Told st c a w (preKs s i ks st)
  | [], _, _, _, h, _ => Told.refl h
  | none :: ks, i, _, _, h, hg => by simp only [preKs]; exact preKs_sound s ks (i + 1) h hg
  | some (e, fz) :: ks, i, _, _, h, hg => by
    simp only [preKs]
    have h1 := preCell_sound s i e fz h hg
    exact h1.trans fun c' h' => preKs_sound s ks (i + 1) h' (by obtain ⟨_, _, _, _, g⟩ := h1; rw [g]; exact hg)

theorem prep_sound : ∀ (l : Pre) {st : St} {c : Cfg}, Rel st c a w → st.gd = [] → Told st c a w (prep l st)
  | [], _, _, h, _ => Told.refl h
  | (s, ks) :: l, _, _, h, hg => by
    simp only [prep]
    have h1 := preKs_sound s ks 0 h hg
    exact h1.trans fun c' h' => prep_sound l h' (by obtain ⟨_, _, _, _, g⟩ := h1; rw [g]; exact hg)

end
end Go.VS
/- Regions. -/
set_option linter.unusedVariables false
set_option linter.unusedSimpArgs false
namespace Go.VS
section
variable {P : Program} {cx : Cx} {st : St} {c c' c'' c0 c1 c2 : Cfg} {a : Act} {w w' w'' w0 w1 : World} {gs : List (Nat × Bool)}

theorem deadAll_length : ∀ (l : List (Nat × Nat × Bool)) (vs : List V), (deadAll vs l).length = vs.length
  | [], _ => rfl
  | (s, _, _) :: l, vs => by simp only [deadAll]; rw [deadAll_length l, setV_length]

theorem deadAll_get : ∀ (l : List (Nat × Nat × Bool)) (vs : List V) (i : Nat), getV (deadAll vs l) i = .dead ∨ (getV (deadAll vs l) i = getV vs i ∧ guardOf l i = none)
  | [], vs, i => .inr ⟨rfl, rfl⟩
  | (s, t, b) :: l, vs, i => by
    simp only [deadAll, guardOf]
    rcases deadAll_get l (setV vs s .dead) i with h | ⟨h1, h2⟩
    · exact .inl h
    · by_cases hs : s = i
      · subst hs
        left
        rw [h1]
        by_cases hl : s < vs.length
        · exact getV_setV_same _ _ _ hl
        · rw [getV_ge (by rw [setV_length]; omega)]
      · rw [if_neg hs]
        exact .inr ⟨h1.trans (getV_setV_ne _ _ _ _ hs), h2⟩

theorem Rel.noG (h : Rel st c a w) : Rel st.noG c a w := by
  refine ⟨⟨h.mem.rows, h.mem.boxes, h.mem.lt⟩, ?_, fun i => ?_, h.defers⟩
  · show (deadAll _ _).length = _
    rw [deadAll_length]; exact h.size
  · unfold SlotR
    show TR c w (getV (deadAll st.slots st.gd) i) _
    rcases deadAll_get st.gd st.slots i with hd | ⟨h1, h2⟩
    · rw [hd]; trivial
    · rw [h1]
      have := h.slot i
      unfold SlotR at this
      rw [h2] at this
      exact this

/-- Only what the tape has drawn is another. -/
theorem Rel.drew (h : Rel st c a w) : Rel st c a { w with drawn := w.drawn + 1 } := by
  have o : OverS c c w { w with drawn := w.drawn + 1 } := ⟨fun _ => rfl, fun _ => rfl, fun b _ hf => ⟨hf, rfl⟩, fun b hb => h.mem.lt b hb⟩
  exact h.overS o (fun m r hm => .inl ⟨hm, fun g hg => ⟨hg, rfl⟩⟩) (fun m cs hm => .inl ⟨hm, fun g hg => ⟨hg, rfl⟩⟩)

theorem Step.drew (c : Cfg) (w : World) : Step c c w { w with drawn := w.drawn + 1 } := ⟨Nat.le_refl _, rfl, rfl, rfl, fun _ _ _ => rfl, fun _ => Iff.rfl, fun _ r h hr => .inl ⟨r, h, hr⟩, fun _ _ => ⟨rfl, rfl⟩⟩

/-- An operation that comes up, whatever it is. -/
theorem op_wp (hty : TyOk P cx) (hfn : FnsOk P cx) (h : Rel st c a w) {ne : Bool} {ops : Array Oper} {i : Nat} {o : Oper} (ho : ops[i]? = some o) {K : St → Option R} {r : R} (hk : opK cx ne ops o st K = some r)
    {Q : Exit → Act → World → Prop} {KK : Act → World → Prop} (hn : ∀ st' c' x w', K st' = some r → Rel st' c' (a.put o.dst x) w' → Step c c' w w' → (opClass cx o.op ≤ 2 → StillO o.op c c' w w') → KK (a.put o.dst x) w') : wpOp P ops Q i KK a w := by
  unfold wpOp
  simp only [ho]
  cases opK_sound hty h hk with
  | skip hw st' hk' hr =>
    rw [hw]
    exact hn _ _ _ _ hk' hr (Step.refl _ _) (fun _ => StillO.refl)
  | run hw st' hr hk' =>
    rw [if_pos hw]
    left
    exact runOp_sound hty hfn hr hk' Q KK o.type o.pos o.after o.guard fun st'' c' x w' h1 h2 h3 h4 => hn _ _ _ _ h1 h2 h3 fun hc => h4 (by simpa using hc)
  | val hw v el hel hg st' hk' hr =>
    rw [if_pos hw]
    left
    obtain ⟨x, bl, h1, _, _, h4⟩ := hg
    unfold Oper.wp
    rw [show execOp a.eval o = execOp a.eval { dst := o.dst, op := o.op, type := o.type, pos := o.pos, after := o.after, guard := o.guard } from rfl, h4 w _ _ _ _ _ (fun _ _ => rfl)]
    exact hn _ _ _ _ hk' (hr x h1) (Step.refl _ _) (fun _ => StillO.refl)

/-! ### In the order of the text -/

theorem runOps_sound (hty : TyOk P cx) (hfn : FnsOk P cx) {ne : Bool} {ops : Array Oper} {Q : Exit → Act → World → Prop} {K : St → Option R} {r : R} : ∀ (l : List Nat) {st : St} {c : Cfg} {a : Act} {w : World}, Rel st c a w → runOps cx ne ops l st K = some r →
    (∀ st' c' a' w', K st' = some r → Rel st' c' a' w' → Step c c' w w' → Q .normal a' w') → wpOps P ops Q l a w
  | [], st, c, a, w, h, hk, hn => by
    obtain ⟨c1, h1, s1, _, _⟩ := nilBoxes_sound cx.nk h.noG
    exact hn _ _ _ _ hk h1 s1
  | i :: l, st, c, a, w, h, hk, hn => by
    rw [wpOps_cons]
    simp only [runOps] at hk
    split at hk
    · cases hk
    · rename_i o ho
      refine op_wp hty hfn h ho hk fun st' c' x w' h1 h2 h3 _ => ?_
      exact runOps_sound hty hfn l h2 h1 fun st'' c'' a'' w'' h4 h5 h6 => hn _ _ _ _ h4 h5 (h3.trans h6)

/-! ### In an order of its own -/

/-- What stays as it was. -/
def Stay (c0 : Cfg) (w0 : World) (ne : Bool) (w : World) : Prop := ∀ b, b < w0.heap.size → (ne = true → ∀ n, c0.ow b ≠ some (.row n)) → w.heap[b]? = w0.heap[b]?

theorem eff_none {dst : Option Nat} {op : Op} {k : St → Option R} (hcl : opClass cx op ≤ 1) : effOp cx st gs dst op k = none := by
  unfold effOp
  split <;> first | rfl | (simp [opClass] at hcl)

/-- An operation that only reckons or reads: its value, wherever nothing that it reads has changed. -/
theorem op_yields (hty : TyOk P cx) (h : Rel st c a w) {ne : Bool} {ops : Array Oper} {o : Oper} {K : St → Option R} {r : R} (hcl : opClass cx o.op ≤ 1) (hk : opK cx ne ops o st K = some r) :
    ∃ x st', K st' = some r ∧ Rel st' c (a.put o.dst x) w ∧ YieldsIf P ops (Stay c w ne) o x a ∧ (opClass cx o.op = 0 → Yields P ops o x a) := by
  have gives : ∀ {v : V} {el : Bool} (st' : St), (ne = true → el = false) → Region.wanted o (yielded ops a.tmps) = true → Gives P c w a o.op v (pureClass o.op) el → K st' = some r → (∀ x, TR c w v x → Rel st' c (a.put o.dst x) w) →
      ∃ x st', K st' = some r ∧ Rel st' c (a.put o.dst x) w ∧ YieldsIf P ops (Stay c w ne) o x a ∧ (opClass cx o.op = 0 → Yields P ops o x a) := by
    intro v el st' hel hw hg hk hr
    obtain ⟨x, bl, h1, h2, h3, h4⟩ := hg
    refine ⟨x, st', hk, hr x h1, .inl ⟨hw, fun w' hS => ?_⟩, fun h0 => .inl ⟨hw, fun w' => ?_⟩⟩
    · refine h4 w' o.dst o.type o.pos o.after o.guard fun g hg => ?_
      obtain ⟨h5, h6⟩ := h3 g hg
      exact hS g h5 fun hne => h6 (hel hne)
    · refine h4 w' o.dst o.type o.pos o.after o.guard fun g hg => ?_
      have : pureClass o.op = 0 := by
        revert h0
        cases o.op <;> intro h0 <;> first | rfl | (simp [opClass] at h0)
      rw [h2 this] at hg; cases hg
  cases opK_sound hty h hk with
  | skip hw st' hk' hr => exact ⟨undef, st', hk', hr, .inr ⟨hw, rfl⟩, fun _ => .inr ⟨hw, rfl⟩⟩
  | val hw v el hel hg st' hk' hr => exact gives st' hel hw hg hk' hr
  | run hw st' hr hk' =>
    unfold runOp at hk'
    split at hk'
    · rename_i f args argTypes heq
      rw [heq] at hcl
      exfalso
      cases f <;> simp [opClass] at hcl
      split at hcl
      · split at hcl <;> omega
      · omega
    · cases hp : pureN cx ne st' [] o.op with
      | none => rw [hp] at hk'; simp only at hk'; rw [eff_none hcl] at hk'; cases hk'
      | some q =>
        obtain ⟨q, v⟩ := q
        rw [hp] at hk'
        have hp' : pureOp cx st' [] o.op = some (q, v) ∧ (ne = true → elLoad st' [] o.op = false) := by
          unfold pureN at hp
          split at hp
          · cases hp
          · rename_i hc
            refine ⟨hp, fun hne => ?_⟩
            subst hne
            simpa using hc
        cases q with
        | none => exact gives (st'.put o.dst v) hp'.2 hw (pure_sound hty hr holds_nil hp'.1 (fun b hb => by cases hb)) hk' (fun x hx => hr.put hx)
        | some b =>
          simp only at hk'
          split at hk'
          · rename_i hb; subst hb
            exact gives (st'.put o.dst v) hp'.2 hw (pure_sound hty hr holds_nil hp'.1 (fun b hb => by cases hb; rfl)) hk' (fun x hx => hr.put hx)
          · cases hk'

theorem FR.flatK : ∀ {e : K} {x : e.T} {u : Value} {w w' : World} {fr fr' : Nat → Prop}, e.flat = true → FR w fr e x u → FR w' fr' e x u
  | .int _, _, _, _, _, _, _, _, h => h
  | .bool, _, _, _, _, _, _, _, h => h
  | .str, _, _, _, _, _, _, _, h => h
  | .sl _, _, _, _, _, _, _, hf, _ => by cases hf

abbrev Base := Cfg × World

/-- The blocks that are no row's are as they were, and are no row's; or all are as they were. -/
structure Kept (ne : Bool) (p : Base) (c : Cfg) (w : World) : Prop where
  size : p.2.heap.size ≤ w.heap.size
  row : ne = true → ∀ b, b < p.2.heap.size → (∀ n, p.1.ow b ≠ some (.row n)) → w.heap[b]? = p.2.heap[b]? ∧ ∀ n, c.ow b ≠ some (.row n)
  all : ne = false → ∀ b, b < p.2.heap.size → w.heap[b]? = p.2.heap[b]?

/-- What is frozen stays as it was. -/
structure KeptF (p : Base) (c : Cfg) (w : World) : Prop where
  size : p.2.heap.size ≤ w.heap.size
  frz : ∀ b, b < p.2.heap.size → p.1.ow b = none → w.heap[b]? = p.2.heap[b]? ∧ (c.ow b = none ∨ c.ow b = some .ext)

theorem Kept.still {ne : Bool} {p : Base} {op : Op} (h : Kept ne p c w) (hs : StillO op c c' w w') (hne : (ne || keepsAll op) = true) (hsz : w.heap.size ≤ w'.heap.size) : Kept ne p c' w' := by
  refine ⟨Nat.le_trans h.size hsz, fun e b hb hrow => ?_, fun e b hb => ?_⟩
  · obtain ⟨k3, k4⟩ := h.row e b hb hrow
    obtain ⟨k5, k6⟩ := hs.1 b (Nat.lt_of_lt_of_le hb h.size) k4
    exact ⟨k5.trans k3, k6⟩
  · rw [e, Bool.false_or] at hne
    exact (hs.2 hne b (Nat.lt_of_lt_of_le hb h.size)).trans (h.all e b hb)

theorem KeptF.step {p : Base} (h : KeptF p c w) (hs : Step c c' w w') : KeptF p c' w' := by
  refine ⟨Nat.le_trans h.size hs.size, fun b hb hn => ?_⟩
  obtain ⟨k1, k2⟩ := h.frz b hb hn
  have hlt := Nat.lt_of_lt_of_le hb h.size
  exact ⟨(hs.keep b hlt k2).trans k1, hs.stays hlt k2⟩

def StayF (p : Base) (w : World) : Prop := ∀ b, b < p.2.heap.size → p.1.ow b = none → w.heap[b]? = p.2.heap[b]?

/-- What was read holds: of the flag that tells whether something may have been written. -/
def SB (ne : Bool) (B : List Base) (f : Bool) (w : World) : Prop := (f = false → ∀ p ∈ B, Stay p.1 p.2 ne w) ∧ ∀ p ∈ B, StayF p w

/-- What is known of the bases at a point of the order. -/
def IV (ne : Bool) (B : List Base) (f : Bool) (c : Cfg) (w : World) : Prop := (f = false → ∀ p ∈ B, Kept ne p c w) ∧ ∀ p ∈ B, KeptF p c w

theorem IV.sb {ne : Bool} {B : List Base} {f : Bool} (h : IV ne B f c w) : SB ne B f w := by
  refine ⟨fun hf p hp b hb hr => ?_, fun p hp b hb hn => ((h.2 p hp).frz b hb hn).1⟩
  have hk := h.1 hf p hp
  cases hne : ne with
  | true => exact (hk.row hne b hb (hr hne)).1
  | false => exact hk.all hne b hb

theorem IV.still {ne : Bool} {B : List Base} {f : Bool} {op : Op} (h : IV ne B f c w) (hst : Step c c' w w') (hs : f = false → StillO op c c' w w' ∧ (ne || keepsAll op) = true) : IV ne B f c' w' :=
  ⟨fun hf p hp => (h.1 hf p hp).still (hs hf).1 (hs hf).2 hst.size, fun p hp => (h.2 p hp).step hst⟩

theorem IV.late {ne : Bool} {B : List Base} {f : Bool} (h : IV ne B f c w) (hst : Step c c' w w') : IV ne B true c' w' :=
  ⟨(fun hf => by cases hf), fun p hp => (h.2 p hp).step hst⟩

theorem IV.base {ne : Bool} {B : List Base} {f : Bool} (h : IV ne B f c w) : IV ne ((c, w) :: B) f c w := by
  refine ⟨fun hf p hp => ?_, fun p hp => ?_⟩
  · rcases List.mem_cons.1 hp with rfl | hp
    · exact ⟨Nat.le_refl _, fun _ b hb hr => ⟨rfl, hr⟩, fun _ b hb => rfl⟩
    · exact h.1 hf p hp
  · rcases List.mem_cons.1 hp with rfl | hp
    · exact ⟨Nat.le_refl _, fun b hb hn => ⟨rfl, .inl hn⟩⟩
    · exact h.2 p hp

theorem SB.tail {ne : Bool} {B : List Base} {p : Base} {f : Bool} (h : SB ne (p :: B) f w) : SB ne B f w :=
  ⟨fun hf q hq => h.1 hf q (List.mem_cons_of_mem _ hq), fun q hq => h.2 q (List.mem_cons_of_mem _ hq)⟩

/-- The load of an element of a frozen slice yields the same, whatever is done. -/
theorem frz_yields (hty : TyOk P cx) (h : Rel st c a w) {ne : Bool} {ops : Array Oper} {o : Oper} {K : St → Option R} {r : R} (hg : o.guard = none) (hf : frzLoad st o.op = true) (hk : opK cx ne ops o st K = some r) :
    ∃ x st', K st' = some r ∧ Rel st' c (a.put o.dst x) w ∧ YieldsIf P ops (StayF (c, w)) o x a := by
  unfold frzLoad at hf
  split at hf
  case h_2 => cases hf
  rename_i t x ho
  split at hf
  case h_2 => cases hf
  rename_i e xs i hx
  unfold opK at hk
  rw [hg] at hk
  simp only at hk
  unfold runOp at hk
  rw [ho] at hk
  simp only at hk
  have hw : Region.wanted o (yielded ops a.tmps) = true := by unfold Region.wanted; rw [hg]
  have := opd_sound h holds_nil x
  rw [hx] at this
  obtain ⟨y, u, ad, hy, hv, hfr, hc, hu⟩ := this
  have hp : pureN cx ne st [] (.load t x) = if tyCells cx t = some (1, false) then some (none, ofK e (xs.getD i e.dflt)) else none := by
    unfold pureN elLoad
    simp only [hx, Bool.and_false]
    simp only [pureOp, hx]
    rfl
  rw [hp] at hk
  split at hk
  · rename_i v heq
    split at heq
    · rename_i ht
      cases heq
      have hxy : xs.getD i e.dflt = y := by simp [List.getD, hy]
      have htr : TR c w (ofK e (xs.getD i e.dflt)) u := by rw [hxy]; exact (CR.ofK hu).tr
      refine ⟨u, _, hk, h.put htr, .inl ⟨hw, fun w' hS => ?_⟩⟩
      have := load_cell_run (P := P) (a := a) (w := w) (tyCells_one hty ht) hv hc w' o.dst o.type o.pos o.after o.guard (hS _ (cell_lt hc) hfr)
      rw [← ho] at this
      exact this
    · cases heq
  · rename_i b v heq
    split at heq <;> cases heq
  · exfalso
    unfold effOp at hk
    simp at hk

/-- What a maker makes, wherever it comes up. -/
structure Made (P : Program) (a : Act) (op : Op) (r : Row) (arr : Array Value) (ty : TypeId) : Prop where
  le : r.xs.length ≤ arr.size
  lim : r.xs.length < LIM
  elems : ∀ (i : Nat) x, r.xs[i]? = some x → ∃ u, arr[i]? = some u ∧ ∀ w fr, FR w fr r.e x u
  run : ∀ (w : World) (ρ : Operand → Value), (∀ x ∈ op.operands, ρ x = a.eval x) → ∀ dst ty' pos after gd, (execOp ρ { dst, op, type := ty', pos, after, guard := gd }).run P w = .ok (.value (.slice (some ⟨w.heap.size, 0, none⟩) r.xs.length arr.size)) (w.alloc (.cells arr ty))

theorem maker_made (hty : TyOk P cx) (h : Rel st c a w) {op : Op} {k : Row → Option R} {r : R} (hk : makerRow cx st op k = some r) : ∃ row arr ty, k row = some r ∧ Made P a op row arr ty := by
  unfold makerRow at hk
  split at hk
  · rename_i t len parts
    split at hk
    · rename_i eT e hl
      split at hk
      case isFalse => cases hk
      rename_i hc
      simp only [Bool.and_eq_true, decide_eq_true_eq] at hc
      obtain ⟨⟨hp, hflat⟩, hlen⟩ := hc
      split at hk
      · rename_i xs hxs
        obtain ⟨z, ⟨hu, ⟨i, hi, hs, hb, hz⟩, hzc⟩, hf⟩ := elemOk hty hl
        have hplen : parts.toList.length = len := by have := congrArg List.length hp; simpa using this
        have hlr : LR (TR c w) (parts.toList.map fun p => opd st [] p.2) (parts.toList.map fun p => a.eval p.2) := by
          have : ∀ q : List (Nat × Operand), LR (TR c w) (q.map fun p => opd st [] p.2) (q.map fun p => a.eval p.2) := by
            intro q
            induction q with
            | nil => trivial
            | cons p q ih => exact ⟨opd_sound h holds_nil _, ih⟩
          exact this _
        obtain ⟨hx1, hx2⟩ := toKs_elem hxs hlr
        let vals := parts.toList.map fun p => a.eval p.2
        have hvlen : vals.length = len := by simp [vals, hplen]
        have hcell : ∀ v ∈ vals, v.cells = #[v] := by
          intro v hv
          obtain ⟨j, hj, hj'⟩ := List.mem_iff_getElem.1 hv
          have hjx : j < xs.length := by rw [hx1]; exact hj
          obtain ⟨u, hu', hx⟩ := hx2 j xs[j] (by simp [hjx])
          have : u = v := by
            have h3 : vals[j]? = some v := by simp [hj, hj']
            have h4 : vals[j]? = some u := hu'
            rw [h3] at h4; exact (Option.some.inj h4).symm
          subst this
          exact (FR.one hx).2
        have hbs : ∀ w1 : World, ∃ arr0 : Array Value, arr0.size = len ∧ ∀ arr, Instr.fill (fun i => some (i, 1)) arr0 (parts.map fun (i, x) => (i, a.eval x)).toList = some arr → (Instr.buildSlice t len (parts.map fun (i, x) => (i, a.eval x))).run P w1 = .ok (.slice (some ⟨w1.heap.size,0,none⟩) len len) (w1.alloc (.cells arr eT)) :=
          fun w1 => buildSlice_run (P := P) (w := w1) ⟨hu, ⟨i, hi, hs, hb, hz⟩, hzc⟩ len (parts.map fun (i, x) => (i, a.eval x)) hlen
        have hzip : (parts.map fun (i, x) => (i, a.eval x)).toList = (List.range' 0 vals.length).zip vals := by
          rw [hvlen, Array.toList_map]
          have : List.range' 0 len = parts.toList.map (·.1) := by rw [hp]; exact List.range_eq_range'.symm
          rw [this]
          simp only [vals]
          rw [List.zip_map']
        have hxl : xs.length = len := by rw [hx1]; simp [hplen]
        have fin : ∀ w1 : World, ∃ arr : Array Value, arr.size = len ∧ (∀ (j : Nat) u, vals[j]? = some u → arr[j]? = some u) ∧ (Instr.buildSlice t len (parts.map fun (i, x) => (i, a.eval x))).run P w1 = .ok (.slice (some ⟨w1.heap.size,0,none⟩) len len) (w1.alloc (.cells arr eT)) := by
          intro w1
          obtain ⟨arr0, ha0, hrun⟩ := hbs w1
          obtain ⟨arr, hfill, hsz, _, hget⟩ := fill_elems vals 0 arr0 hcell (by omega)
          exact ⟨arr, by rw [hsz, ha0], fun j u hu => by simpa using hget j u hu, hrun arr (by rw [hzip]; exact hfill)⟩
        have same : ∀ arr : Array Value, arr.size = len → (∀ (j : Nat) u, vals[j]? = some u → arr[j]? = some u) → arr = vals.toArray := by
          intro arr h1 h2
          apply Array.ext_getElem?
          intro j
          by_cases hj : j < vals.length
          · have := h2 j vals[j] (by simp [hj])
            rw [this]; simp [hj]
          · rw [Array.getElem?_eq_none (by omega), Array.getElem?_eq_none (by simp; omega)]
        refine ⟨⟨e, xs⟩, vals.toArray, eT, hk, ⟨by simp [hxl, hvlen], by show xs.length < LIM; rw [hxl]; simp [LIM]; omega, fun j x hj => ?_, fun w1 ρ hρ dst ty' pos after gd => ?_⟩⟩
        · obtain ⟨u, hu', hx⟩ := hx2 j x hj
          exact ⟨u, by simpa [vals] using hu', fun w' fr' => FR.flatK hflat hx⟩
        · obtain ⟨arr, q1, q2, q3⟩ := fin w1
          have := same arr q1 q2
          subst this
          rw [execOp_congr (ρ' := a.eval) _ (by intro cs b; simp) hρ]
          simp only [execOp]
          rw [Sem.run_bind, q3]
          simp [hxl, hvlen]
      · cases hk
    · cases hk
  · rename_i t x y
    split at hk
    · rename_i eT e k1 n k2 m hl hx hy
      split at hk
      case isFalse => cases hk
      rename_i hc
      simp only [Bool.and_eq_true, decide_eq_true_eq] at hc
      obtain ⟨⟨h0, h1⟩, h2⟩ := hc
      have hx' : a.eval x = .int k1 n := by have := opd_sound h holds_nil x; rw [hx] at this; exact this
      have hy' : a.eval y = .int k2 m := by have := opd_sound h holds_nil y; rw [hy] at this; exact this
      obtain ⟨z, he, hf⟩ := elemOk hty hl
      have hm : m.toNat < most := by omega
      refine ⟨_, (Array.range m.toNat).map fun _ => z, eT, hk, ⟨by simp; omega, by simp [LIM]; unfold most at hm; omega, fun i x hi => ?_, fun w1 ρ hρ dst ty' pos after gd => ?_⟩⟩
      · have hlt := (List.getElem?_eq_some_iff.1 hi).1
        simp at hlt
        have hx : x = e.dflt := by have := List.getElem?_eq_some_iff.1 hi; simpa using this.2.symm
        refine ⟨z, ?_, fun w fr => by rw [hx]; exact hf _ _⟩
        have : i < m.toNat := by omega
        simp [this]
      · rw [execOp_congr (ρ' := a.eval) _ (by intro cs b; simp) hρ]
        have hrun := makeSlice_run (P := P) (w := w1) (k := k1) (k' := k2) he h0 h1 h2
        simp [execOp, hx', hy', hrun]
    · cases hk
  · cases hk

/-- A block that a maker has made ahead of its turn. -/
structure Pend (c : Cfg) (a : Act) (w : World) (d : Nat) (r : Row) (g : Nat) : Prop where
  ow : c.ow g = some .ext
  lt : g < w.heap.size
  cells : ∃ (arr : Array Value) (ty : TypeId), w.heap[g]? = some (.cells arr ty (0, 0)) ∧ a.tmps.getD d undef = .slice (some ⟨g, 0, none⟩) r.xs.length arr.size ∧ r.xs.length ≤ arr.size ∧ ∀ (i : Nat) x, r.xs[i]? = some x → ∃ u, arr[i]? = some u ∧ ∀ w fr, FR w fr r.e x u
  lim : r.xs.length < LIM

/-- As Step, but blocks of X are made and no one's yet. -/
structure StepX (X : Nat → Prop) (c c' : Cfg) (w w' : World) : Prop where
  size : w.heap.size ≤ w'.heap.size
  os : w'.os = w.os
  tape : w'.tape = w.tape
  output : w'.output = w.output
  keep : ∀ b, b < w.heap.size → (c.ow b = none ∨ c.ow b = some .ext) → w'.heap[b]? = w.heap[b]?
  ext : ∀ b, c'.ow b = some .ext ↔ (c.ow b = some .ext ∨ X b)
  new : ∀ b r, c'.ow b = some r → r ≠ .ext → (∃ r', c.ow b = some r' ∧ r' ≠ .ext) ∨ w.heap.size ≤ b
  low : ∀ n, n < 1000 → c'.hdr n = c.hdr n ∧ c'.box n = c.box n
  xge : ∀ b, X b → w.heap.size ≤ b

theorem StepX.of_step (h : Step c c' w w') : StepX (fun _ => False) c c' w w' := ⟨h.size, h.os, h.tape, h.output, h.keep, fun b => by rw [h.ext]; simp, h.new, h.low, fun _ h => h.elim⟩

theorem StepX.step {X : Nat → Prop} (h : StepX X c c' w w') (hX : ∀ b, ¬ X b) : Step c c' w w' := ⟨h.size, h.os, h.tape, h.output, h.keep, fun b => by rw [h.ext]; simp [hX b], h.new, h.low⟩

theorem StepX.trans {X : Nat → Prop} (hlt : ∀ b, c.ow b ≠ none → b < w.heap.size) (h : StepX X c c' w w') (h' : Step c' c'' w' w'') : StepX X c c'' w w'' := by
  have stays : ∀ b, b < w.heap.size → (c.ow b = none ∨ c.ow b = some .ext) → c'.ow b = none ∨ c'.ow b = some .ext := by
    intro b hb hc
    cases hq : c'.ow b with
    | none => exact .inl rfl
    | some r =>
      by_cases hr : r = .ext
      · exact .inr (by rw [hr])
      · rcases h.new _ _ hq hr with ⟨r', h1, h2⟩ | h1
        · rcases hc with hc | hc
          · rw [hc] at h1; cases h1
          · rw [hc] at h1; cases h1; exact absurd rfl h2
        · omega
  refine ⟨Nat.le_trans h.size h'.size, h'.os.trans h.os, h'.tape.trans h.tape, h'.output.trans h.output, fun b hb hc => ?_, fun b => (h'.ext b).trans (h.ext b), fun b r hr hne => ?_, fun n hn => ⟨(h'.low n hn).1.trans (h.low n hn).1, (h'.low n hn).2.trans (h.low n hn).2⟩, h.xge⟩
  · exact (h'.keep b (Nat.lt_of_lt_of_le hb h.size) (stays b hb hc)).trans (h.keep b hb hc)
  · rcases h'.new _ _ hr hne with ⟨r', h1, h2⟩ | h1
    · exact h.new _ _ h1 h2
    · exact .inr (Nat.le_trans h.size h1)

theorem setV_dead : ∀ (vs : List V) (d : Nat), getV vs d = .dead → setV vs d .dead = vs
  | [], _, _ => rfl
  | v :: vs, 0, h => by simp only [getV] at h; simp [setV, h]
  | v :: vs, d + 1, h => by simp only [getV] at h; simp [setV, setV_dead vs d h]

theorem put_same {d : Nat} (h : d < a.tmps.size) : a.put (some d) (a.tmps.getD d undef) = a := by
  cases a
  simp only [Act.put] at *
  congr 1
  apply Array.ext_getElem?
  intro i
  by_cases hi : d = i
  · subst hi; simp [h]
  · simp [Array.getElem?_setIfInBounds_ne hi]

/-- A maker that comes up ahead of its turn. -/
theorem Rel.pend (h : Rel st c a w) (hg : st.gd = []) {d : Nat} (hd : getV st.slots d = .dead) (hds : d < a.tmps.size) {r : Row} {arr : Array Value} {ty : TypeId} (hle : r.xs.length ≤ arr.size) (hlim : r.xs.length < LIM)
    (he : ∀ (i : Nat) x, r.xs[i]? = some x → ∃ u, arr[i]? = some u ∧ ∀ w fr, FR w fr r.e x u) :
    ∃ c', Rel st c' (a.put (some d) (.slice (some ⟨w.heap.size, 0, none⟩) r.xs.length arr.size)) (w.alloc (.cells arr ty)) ∧ c'.hdr = c.hdr ∧ c'.box = c.box ∧ (c'.ow = fun b => if b = w.heap.size then some .ext else c.ow b) ∧
      Pend c' (a.put (some d) (.slice (some ⟨w.heap.size, 0, none⟩) r.xs.length arr.size)) (w.alloc (.cells arr ty)) d r w.heap.size := by
  let c1 : Cfg := { c with ow := fun b => if b = w.heap.size then some .ext else c.ow b }
  have g : Grew w (w.alloc (.cells arr ty)) (.cells arr ty) := ⟨rfl, rfl, rfl, rfl⟩
  have hne : ∀ b, b < w.heap.size → c1.ow b = c.ow b := fun b hb => by show (if b = w.heap.size then _ else _) = _; rw [if_neg (by omega)]
  have o : OverS c c1 w (w.alloc (.cells arr ty)) := ⟨fun _ => rfl, fun _ => rfl, fun b hb hf => ⟨by unfold Cfg.free at *; rw [hne b hb]; exact hf, g.old hb⟩, fun b hb => by
    rw [g.size]
    by_cases e : b = w.heap.size
    · omega
    · have : c.ow b ≠ none := by
        intro e2; apply hb; show (if b = w.heap.size then _ else _) = _; rw [if_neg e]; exact e2
      have := h.mem.lt b this; omega⟩
  have goes : ∀ r', Goes c c1 w (w.alloc (.cells arr ty)) r' r' := fun r' b hb => by
    have hlt := ow_lt h hb
    exact ⟨(hne b hlt).trans hb, g.old hlt⟩
  have h1 := h.overS o (fun m r hm => .inl ⟨hm, goes _⟩) (fun m cs hm => .inl ⟨hm, goes _⟩)
  have h2 : Rel st c1 (a.put (some d) (.slice (some ⟨w.heap.size, 0, none⟩) r.xs.length arr.size)) (w.alloc (.cells arr ty)) := by
    have := h1.put (d := some d) (v := .dead) (x := .slice (some ⟨w.heap.size, 0, none⟩) r.xs.length arr.size) trivial
    have e : st.put (some d) .dead = st := by
      unfold St.put
      rw [hg]
      simp only [killAll, cutG]
      rw [setV_dead _ _ hd, ← hg]
    rw [e] at this
    exact this
  refine ⟨c1, h2, rfl, rfl, rfl, ⟨by show (if _ then _ else _) = _; rw [if_pos rfl], by rw [g.size]; omega, ⟨arr, ty, g.last, ?_, hle, he⟩, hlim⟩⟩
  rw [put_getD]
  simp [hds]

theorem Rel.adopt1 (h : Rel st c a w) (hgd : st.gd = []) {d : Nat} {r : Row} {g : Nat} (hp : Pend c a w d r g) : ∃ c', Rel ((st.newRow (opTag d) r).put (some d) (.row (opTag d))) c' a w ∧
    (c'.ow = fun b => if b = g then some (.row (opTag d)) else c.ow b) ∧ c'.box = c.box ∧ (∀ m, m ≠ opTag d → c'.hdr m = c.hdr m) := by
  obtain ⟨arr, ty, q1, q2, q3, q4⟩ := hp.cells
  have hds : d < a.tmps.size := by
    rcases Nat.lt_or_ge d a.tmps.size with h' | h'
    · exact h'
    · simp [Array.getElem?_eq_none h', undef] at q2
  let c1 := c.addRow (opTag d) (some ⟨g, 0, none⟩, r.xs.length, arr.size) (some g)
  have hne : ∀ b, b ≠ g → c1.ow b = c.ow b := fun b hb => by
    show (if some b = some g then _ else _) = _
    rw [if_neg (by simpa using hb)]
  have hnew : c1.ow g = some (.row (opTag d)) := by show (if _ then _ else _) = _; rw [if_pos rfl]
  have hmem : ∀ b, b < w.heap.size → c.free b → c1.free b ∧ w.heap[b]? = w.heap[b]? := fun b hb hf => by
    have : b ≠ g := fun e => by unfold Cfg.free at hf; rw [e, hp.ow] at hf; cases hf
    exact ⟨by unfold Cfg.free; rw [hne b this]; exact hf, rfl⟩
  have over : Over { row := fun m => if m = opTag d then none else some m, box := some } c c1 w w := by
    refine ⟨fun k m hm => ?_, fun b m hm => by cases hm; rfl, hmem, fun b hb => ?_⟩
    · simp only at hm
      split at hm
      · cases hm
      · rename_i hk; cases hm; show (if _ then _ else _) = _; rw [if_neg hk]
    · by_cases e : b = g
      · rw [e]; exact hp.lt
      · rw [hne b e] at hb; exact h.mem.lt b hb
  have goes : ∀ r' : Res, r' ≠ .ext → Goes c c1 w w r' r' := fun r' hr' b hb => by
    have : b ≠ g := fun e => by rw [e, hp.ow] at hb; cases hb; exact hr' rfl
    exact ⟨(hne b this).trans hb, rfl⟩
  have h1 : Rel (st.newRow (opTag d) r) c1 a w := by
    unfold St.newRow
    refine h.over over (fun m r' hm => ?_) (fun m cs hm => ?_)
    · simp only [look] at hm
      split at hm
      · rename_i hk; subst hk; cases hm
        right
        refine ⟨some ⟨g, 0, none⟩, arr.size, addRow_hv .., hp.lim, .inr ⟨g, arr, ty, rfl, hnew, q1, rfl, q3, fun i x hx => ?_⟩⟩
        obtain ⟨u, hu, hf⟩ := q4 i x hx
        exact ⟨u, hu, hf _ _⟩
      · rename_i hk
        rw [look_cut_ne _ (Ne.symm hk)] at hm
        exact .inl ⟨m, by simp; exact fun e => hk e.symm, hm, goes _ (by intro e; cases e)⟩
    · rw [look_map] at hm
      cases hq : look st.boxes m with
      | none => rw [hq] at hm; cases hm
      | some cs0 => rw [hq] at hm; cases hm; exact .inl ⟨m, cs0, rfl, hq, rfl, goes _ (by intro e; cases e)⟩
  refine ⟨c1, ?_, ?_, rfl, fun m hm => by show (if _ then _ else _) = _; rw [if_neg hm]⟩
  · have := h1.put (d := some d) (v := .row (opTag d)) (x := a.tmps.getD d undef) (show a.tmps.getD d undef = c1.hv (opTag d) by rw [q2]; exact (addRow_hv c (opTag d) (some ⟨g, 0, none⟩, r.xs.length, arr.size) (some g)).symm)
    rw [put_same hds] at this
    exact this
  · funext b
    show (if some b = some g then _ else _) = _
    simp

theorem adopt_all {γ : Nat → Nat} {c0 : Cfg} {w0 : World} {ne : Bool} {B : List Base} (hlt0 : ∀ b, c0.ow b ≠ none → b < w0.heap.size) : ∀ (L : List (Nat × Row)) {st : St} {c : Cfg}, Rel st c a w → st.gd = [] → (∀ p ∈ L, Pend c a w p.1 p.2 (γ p.1)) → (L.map (·.1)).Nodup →
    (∀ p ∈ L, ∀ q ∈ L, p.1 ≠ q.1 → γ p.1 ≠ γ q.1) → StepX (fun b => ∃ p ∈ L, b = γ p.1) c0 c w0 w → (∀ p ∈ B, p.2.heap.size ≤ w0.heap.size) → IV ne B false c w →
    ∃ c', Rel (adopt st L) c' a w ∧ Step c0 c' w0 w ∧ IV ne B false c' w
  | [], st, c, h, _, _, _, _, hs, hB, hI => ⟨c, h, hs.step (by simp), hI⟩
  | (d, r) :: L, st, c, h, hgd, hp, hnd, hinj, hs, hB, hI => by
    have hp0 := hp _ (List.mem_cons_self ..)
    obtain ⟨c1, h1, o1, b1, d1⟩ := h.adopt1 hgd hp0
    simp only [List.map_cons, List.nodup_cons] at hnd
    have hneq : ∀ p ∈ L, p.1 ≠ d := fun p hpm e => hnd.1 (List.mem_map.2 ⟨p, hpm, e⟩)
    have hgne : ∀ p ∈ L, γ p.1 ≠ γ d := fun p hpm => hinj p (List.mem_cons_of_mem _ hpm) (d, r) (List.mem_cons_self ..) (hneq p hpm)
    have hge : w0.heap.size ≤ γ d := hs.xge _ ⟨(d, r), List.mem_cons_self .., rfl⟩
    simp only [adopt]
    refine adopt_all hlt0 L h1 ?_ (fun p hpm => ?_) hnd.2 (fun p hpm q hqm => hinj p (List.mem_cons_of_mem _ hpm) q (List.mem_cons_of_mem _ hqm)) ?_ hB ⟨fun hf p hpm => ⟨(hI.1 hf p hpm).size, fun hne b hb hrow => ?_, (hI.1 hf p hpm).all⟩, fun p hpm => ⟨(hI.2 p hpm).size, fun b hb hn => ?_⟩⟩
    · show cutG st.gd _ = []
      rw [hgd]; rfl
    · have hpp := hp p (List.mem_cons_of_mem _ hpm)
      exact ⟨by rw [o1]; simp only; rw [if_neg (hgne p hpm)]; exact hpp.ow, hpp.lt, hpp.cells, hpp.lim⟩
    · refine ⟨hs.size, hs.os, hs.tape, hs.output, hs.keep, fun b => ?_, fun b r' hb hr' => ?_, fun n hn => ⟨?_, ?_⟩, fun b ⟨p, hpm, hb⟩ => hs.xge b ⟨p, List.mem_cons_of_mem _ hpm, hb⟩⟩
      · rw [o1]
        simp only
        split
        · rename_i e; subst e
          constructor
          · intro hh; cases hh
          · rintro (hh | ⟨p, hpm, hb⟩)
            · have := hlt0 (γ d) (by rw [hh]; simp); omega
            · exact absurd hb.symm (hgne p hpm)
        · rename_i e
          rw [hs.ext b]
          constructor
          · rintro (hh | ⟨p, hpm, hb⟩)
            · exact .inl hh
            · rcases List.mem_cons.1 hpm with rfl | hpm
              · exact absurd hb e
              · exact .inr ⟨p, hpm, hb⟩
          · rintro (hh | ⟨p, hpm, hb⟩)
            · exact .inl hh
            · exact .inr ⟨p, List.mem_cons_of_mem _ hpm, hb⟩
      · rw [o1] at hb
        simp only at hb
        split at hb
        · rename_i e; right; rw [e]; exact hge
        · exact hs.new b r' hb hr'
      · rw [d1 n (by unfold opTag; omega)]; exact (hs.low n hn).1
      · rw [b1]; exact (hs.low n hn).2
    · obtain ⟨k1, k2⟩ := (hI.1 hf p hpm).row hne b hb hrow
      refine ⟨k1, fun n => ?_⟩
      rw [o1]
      simp only
      rw [if_neg (by have := hB p hpm; omega)]
      exact k2 n
    · obtain ⟨k1, k2⟩ := (hI.2 p hpm).frz b hb hn
      refine ⟨k1, ?_⟩
      rw [o1]
      simp only
      rw [if_neg (by have := hB p hpm; omega)]
      exact k2

end
end Go.VS
