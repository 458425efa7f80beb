/- Regions in an order of their own, second part: groups; whole orders. -/
import Derived.Test.YtnibmainjgcmaaaV9
set_option linter.unusedVariables false
set_option linter.unusedSimpArgs false
namespace Go.VS
section
variable {P : Program} {cx : Cx} {st : St} {c c' c'' c1 c2 : Cfg} {a : Act} {w w' w'' w1 : World} {gs : List (Nat × Bool)}

structure MI where
  j : Nat
  o : Oper
  d : Nat
  r : Row
  arr : Array Value
  ty : TypeId

/-- The makers of a group. -/
structure MIOk (P : Program) (ops : Array Oper) (a : Act) (m : MI) : Prop where
  op : ops[m.j]? = some m.o
  dst : m.o.dst = some m.d
  made : Made P a m.o.op m.r m.arr m.ty
  lt : m.d < a.tmps.size

theorem makersK_made (hty : TyOk P cx) (h : Rel st c a w) {ops : Array Oper} : ∀ (js : List Nat) {k : List (Nat × Row) → Option R} {r : R}, makersK cx ops st js k = some r →
    ∃ M : List MI, M.map (·.j) = js ∧ k (M.map fun m => (m.d, m.r)) = some r ∧ ∀ m ∈ M, MIOk P ops a m
  | [], k, r, hk => ⟨[], rfl, hk, by simp⟩
  | j :: js, k, r, hk => by
    simp only [makersK] at hk
    split at hk
    · cases hk
    · rename_i o ho
      split at hk
      · cases hk
      · rename_i d hd
        split at hk
        case isFalse => cases hk
        rename_i hlt
        obtain ⟨row, arr, ty, hk1, hm⟩ := maker_made hty h hk
        obtain ⟨M, h1, h2, h3⟩ := makersK_made hty h js hk1
        refine ⟨⟨j, o, d, row, arr, ty⟩ :: M, by simp [h1], h2, fun m hm' => ?_⟩
        rcases List.mem_cons.1 hm' with rfl | hm'
        · exact ⟨ho, hd, hm, by rw [← h.size]; exact hlt⟩
        · exact h3 m hm'

theorem setAll_append (l : Array Bool) (xs ys : List Nat) : setAll l (xs ++ ys) = setAll (setAll l xs) ys := by simp [setAll]

theorem setAll_perm {xs ys : List Nat} (h : xs.Perm ys) : ∀ l : Array Bool, setAll l xs = setAll l ys := by
  induction h with
  | nil => intro l; rfl
  | cons x _ ih => intro l; simp only [setAll, List.foldl_cons]; exact ih _
  | swap x y t =>
    intro l
    simp only [setAll, List.foldl_cons]
    by_cases e : x = y
    · subst e; rfl
    · rw [Array.setIfInBounds_comm _ _ (Ne.symm e)]
  | trans _ _ ih1 ih2 => intro l; exact (ih1 l).trans (ih2 l)

theorem ready_setAll {ops : Array Oper} {md : Region.Mode} {j : Nat} : ∀ (xs : List Nat) {l : Array Bool}, j ∈ Region.ready md ops l → j ∉ xs → j ∈ Region.ready md ops (setAll l xs)
  | [], _, h, _ => h
  | x :: xs, l, h, hn => by
    simp only [List.mem_cons, not_or] at hn
    show j ∈ Region.ready md ops (setAll (l.setIfInBounds x true) xs)
    exact ready_setAll xs (ready_mono h hn.1) hn.2

theorem setAll_unlisted {j : Nat} : ∀ (xs : List Nat) {l : Array Bool}, (setAll l xs).getD j true = false → j ∉ xs
  | [], _, _ => by simp
  | x :: xs, l, h => by
    have h' : (setAll (l.setIfInBounds x true) xs).getD j true = false := h
    have h1 := setAll_unlisted xs h'
    simp only [List.mem_cons, not_or]
    refine ⟨fun e => ?_, h1⟩
    subst e
    have mono : ∀ (ys : List Nat) (l : Array Bool), l.getD j true = true → (setAll l ys).getD j true = true := by
      intro ys
      induction ys with
      | nil => intro l h; exact h
      | cons y ys ih =>
        intro l h
        show (setAll (l.setIfInBounds y true) ys).getD j true = true
        refine ih _ ?_
        by_cases e : y = j
        · subst e
          rcases Nat.lt_or_ge y l.size with h' | h'
          · simp [h']
          · simp [Array.getElem?_eq_none h']
        · rw [getD_set_ne true e]; exact h
    have : (setAll (l.setIfInBounds j true) xs).getD j true = true := by
      refine mono _ _ ?_
      rcases Nat.lt_or_ge j l.size with h'' | h''
      · simp [h'']
      · simp [Array.getElem?_eq_none h'']
    rw [this] at h'
    cases h'

/-- What is ready is what of the group is left. -/
theorem grp_ready {ops : Array Oper} {l : Array Bool} {G : List Nat} (hnd : G.Nodup) (hall : ∀ g ∈ G, readyAt ops (setAll l (G.filter (· != g))) = [g]) (hin : ∀ g ∈ G, g ∈ readyAt ops l) {e rem : List Nat} (hp : (e ++ rem).Perm G) (hne : rem ≠ []) :
    (∀ j ∈ readyAt ops (setAll l e), j ∈ rem) ∧ ∀ j ∈ rem, j ∈ readyAt ops (setAll l e) := by
  have hnd' : (e ++ rem).Nodup := hp.nodup_iff.2 hnd
  have hdis : ∀ x ∈ e, x ∉ rem := fun x hx hr => by
    have := List.nodup_append.1 hnd'
    exact this.2.2 x hx x hr rfl
  constructor
  · intro j hj
    by_cases hjr : j ∈ rem
    · exact hjr
    · exfalso
      have hje : j ∉ e := setAll_unlisted e (mem_ready.1 hj).1
      obtain ⟨g, hg⟩ := List.exists_mem_of_ne_nil rem hne
      have hgG : g ∈ G := hp.mem_iff.1 (List.mem_append_right _ hg)
      have hper : (G.filter (· != g)).Perm (e ++ rem.filter (· != g)) := by
        have h1 := hp.symm.filter (· != g)
        rw [List.filter_append] at h1
        have : e.filter (· != g) = e := List.filter_eq_self.2 fun x hx => by
          have : x ≠ g := fun e' => hdis x hx (e' ▸ hg)
          simpa using this
        rw [this] at h1
        exact h1
      have h2 := hall g hgG
      rw [setAll_perm hper, setAll_append] at h2
      have h3 := ready_setAll (md := .any) (rem.filter (· != g)) (show j ∈ Region.ready .any ops (setAll l e) from hj) (fun hm => hjr (List.mem_filter.1 hm).1)
      unfold readyAt at h2
      rw [h2] at h3
      simp only [List.mem_singleton] at h3
      exact hjr (h3 ▸ hg)
  · intro j hj
    exact ready_setAll (md := .any) e (hin j (hp.mem_iff.1 (List.mem_append_right _ hj))) (fun he => hdis j he hj)

/-- Slots of makers are dead. -/
def DeadAt (st : St) (M : List MI) : Prop := st.gd = [] ∧ ∀ m ∈ M, getV st.slots m.d = .dead

theorem deadSlots_ok : ∀ (L : List (Nat × Row)) {st : St} {c : Cfg}, Rel st c a w → st.gd = [] → Rel (deadSlots st L) c a w ∧ (deadSlots st L).gd = [] ∧ (∀ d, (getV st.slots d = .dead ∨ d ∈ L.map (·.1)) → getV (deadSlots st L).slots d = .dead)
  | [], st, c, h, hg => ⟨h, hg, fun d hd => by simpa [deadSlots] using hd⟩
  | (d, r) :: L, st, c, h, hg => by
    have h1 : Rel { st with slots := setV st.slots d .dead } c a w := h.setSlot' hg trivial
    obtain ⟨q1, q2, q3⟩ := deadSlots_ok L h1 hg
    refine ⟨q1, q2, fun d' hd' => q3 d' ?_⟩
    by_cases e : d = d'
    · subst e
      left
      by_cases hl : d < st.slots.length
      · exact getV_setV_same _ _ _ hl
      · exact getV_ge (by show _ ≤ d; simp [setV_length]; omega)
    · rcases hd' with hd' | hd'
      · left; show getV (setV _ _ _) _ = _; rw [getV_setV_ne _ _ _ _ e]; exact hd'
      · simp only [List.map_cons, List.mem_cons] at hd'
        rcases hd' with hd' | hd'
        · exact absurd hd'.symm e
        · exact .inr hd'

/-- A group being run: what has been executed. -/
structure GI (P : Program) (M : List MI) (a0 : Act) (c0 : Cfg) (w0 : World) (ne : Bool) (B : List Base) (e : List Nat) (γ : Nat → Nat) (c : Cfg) (a : Act) (w : World) : Prop where
  pend : ∀ m ∈ M, m.j ∈ e → Pend c a w m.d m.r (γ m.d)
  inj : ∀ m ∈ M, ∀ m' ∈ M, m.j ∈ e → m'.j ∈ e → m.d ≠ m'.d → γ m.d ≠ γ m'.d
  stable : ∀ m ∈ M, m.j ∉ e → ∀ x ∈ m.o.op.operands, a.eval x = a0.eval x
  stepx : StepX (fun b => ∃ m ∈ M, m.j ∈ e ∧ b = γ m.d) c0 c w0 w
  iv : IV ne B false c w
  tsize : a.tmps.size = a0.tmps.size

theorem eval_put {d : Option Nat} {x : Operand} {v : Value} (h : ∀ t, d = some t → x ≠ .tmp t) : (a.put d v).eval x = a.eval x := Act.eval_put h

theorem looks_ne {ops : Array Oper} {o : Oper} {d : Nat} (h : d ∉ o.looksAt ops) : ∀ x ∈ o.op.operands, x ≠ .tmp d := fun x hx e => h (by
  subst e
  exact List.mem_append_left _ (List.mem_filterMap.2 ⟨.tmp d, by simpa using hx, rfl⟩))

theorem Still.pend {d : Nat} (hc : c'.ow = fun b => if b = w.heap.size then some .ext else c.ow b) {o : Obj} : Still c c' w (w.alloc o) := fun b hb hr => by
  refine ⟨(⟨rfl, rfl, rfl, rfl⟩ : Grew w (w.alloc o) o).old hb, fun n => ?_⟩
  rw [hc]; simp only; rw [if_neg (by omega)]; exact hr n

/-- A maker comes up. -/
theorem GI.maker {M : List MI} {a0 : Act} {c0 : Cfg} {w0 : World} {ne : Bool} {B : List Base} {e : List Nat} {γ : Nat → Nat} {ops : Array Oper} (hlt0 : ∀ b, c0.ow b ≠ none → b < w0.heap.size) (hM : ∀ m ∈ M, MIOk P ops a0 m) (hdd : ∀ m ∈ M, ∀ m' ∈ M, m.j ≠ m'.j → m.d ≠ m'.d ∧ m.d ∉ m'.o.looksAt ops)
    (hjd : ∀ m ∈ M, ∀ m' ∈ M, m.j = m'.j → m = m')
    (g : GI P M a0 c0 w0 ne B e γ c a w) (h : Rel st c a w) (hd : DeadAt st M) {m : MI} (hm : m ∈ M) (hme : m.j ∉ e) {Q : Exit → Act → World → Prop} {KK : Act → World → Prop}
    (hg : m.o.guard = none)
    (hn : ∀ c' γ' x w', Rel st c' (a.put (some m.d) x) w' → GI P M a0 c0 w0 ne B (e ++ [m.j]) γ' c' (a.put (some m.d) x) w' → KK (a.put (some m.d) x) w') : wpOp P ops Q m.j KK a w := by
  have ok := hM m hm
  have hrun := ok.made.run w a.eval (g.stable m hm hme) m.o.dst m.o.type m.o.pos m.o.after m.o.guard
  obtain ⟨c', r1, q1, q2, q3, q4⟩ := h.pend (ty := m.ty) hd.1 (hd.2 m hm) (by rw [g.tsize]; exact ok.lt) ok.made.le ok.made.lim ok.made.elems
  unfold wpOp
  simp only [ok.op]
  rw [if_pos (by unfold Region.wanted; rw [hg])]
  left
  unfold Oper.wp
  rw [show execOp a.eval m.o = execOp a.eval { dst := m.o.dst, op := m.o.op, type := m.o.type, pos := m.o.pos, after := m.o.after, guard := m.o.guard } from rfl, hrun]
  simp only [Oper.upon]
  rw [ok.dst]
  have hsz : w.heap.size ≤ (w.alloc (.cells m.arr m.ty)).heap.size := by show _ ≤ (w.heap.push _).size; simp
  refine hn c' (fun d => if d = m.d then w.heap.size else γ d) _ _ r1 ⟨fun m' hm' he' => ?_, fun m1 hm1 m2 hm2 he1 he2 hne => ?_, fun m' hm' he' x hx => ?_, ?_, ⟨fun hf p hp => ((g.iv.1 hf p hp).still (op := .move (.tmp 0)) ⟨Still.pend (d := m.d) q3, fun _ => same_alloc⟩ (by simp [keepsAll]) hsz), fun p hp => ⟨Nat.le_trans (g.iv.2 p hp).size hsz, fun b hb hn => ?_⟩⟩, by simp [Act.put, g.tsize]⟩
  · by_cases hmm : m'.j = m.j
    · have := hjd _ hm' _ hm hmm
      subst this
      simp only [if_true]
      exact q4
    · have hdne := (hdd m' hm' m hm hmm).1
      simp only [if_neg hdne]
      have hp := g.pend m' hm' (by simpa [hmm] using he')
      refine ⟨by rw [q3]; simp only; rw [if_neg (by have := hp.lt; omega)]; exact hp.ow, Nat.lt_of_lt_of_le hp.lt hsz, ?_, hp.lim⟩
      obtain ⟨arr, ty, s1, s2, s3, s4⟩ := hp.cells
      refine ⟨arr, ty, by rw [(⟨rfl, rfl, rfl, rfl⟩ : Grew w (w.alloc (.cells m.arr m.ty)) _).old hp.lt]; exact s1, ?_, s3, s4⟩
      rw [put_getD, if_neg hdne]; exact s2
  · have lt : ∀ m' ∈ M, m'.j ∈ e → γ m'.d < w.heap.size := fun m' hm' he' => (g.pend m' hm' he').lt
    have jn : ∀ m' ∈ M, m'.d ≠ m.d → m'.j ∈ e ++ [m.j] → m'.j ∈ e := fun m' hm' hdn he' => by
      rcases List.mem_append.1 he' with h' | h'
      · exact h'
      · simp only [List.mem_singleton] at h'
        exact absurd (congrArg MI.d (hjd _ hm' _ hm h')) hdn
    by_cases e1 : m1.d = m.d
    · have e2 : m2.d ≠ m.d := fun h' => hne (e1.trans h'.symm)
      simp only [if_pos e1, if_neg e2]
      have := lt m2 hm2 (jn m2 hm2 e2 he2); omega
    · by_cases e2 : m2.d = m.d
      · simp only [if_pos e2, if_neg e1]
        have := lt m1 hm1 (jn m1 hm1 e1 he1); omega
      · simp only [if_neg e1, if_neg e2]
        exact g.inj m1 hm1 m2 hm2 (jn m1 hm1 e1 he1) (jn m2 hm2 e2 he2) hne
  · have he0 : m'.j ∉ e := fun h' => he' (List.mem_append_left _ h')
    have hne : m.j ≠ m'.j := fun h' => he' (by rw [← h']; simp)
    rw [eval_put fun t ht => by cases ht; exact looks_ne (hdd m hm m' hm' hne).2 x hx]
    exact g.stable m' hm' he0 x hx
  · have s := g.stepx
    have old : ∀ b, b < w.heap.size → c'.ow b = c.ow b := fun b hb => by rw [q3]; simp only; rw [if_neg (by omega)]
    refine ⟨Nat.le_trans s.size hsz, s.os, s.tape, s.output, fun b hb hc => ?_, fun b => ?_, fun b r hb hr => ?_, fun n hn => ⟨by rw [q1]; exact (s.low n hn).1, by rw [q2]; exact (s.low n hn).2⟩, fun b ⟨m', hm', he', hb⟩ => ?_⟩
    · rw [(⟨rfl, rfl, rfl, rfl⟩ : Grew w (w.alloc (.cells m.arr m.ty)) _).old (Nat.lt_of_lt_of_le hb s.size)]
      exact s.keep b hb hc
    · by_cases eb : b = w.heap.size
      · subst eb
        constructor
        · intro _
          exact .inr ⟨m, hm, by simp, by simp⟩
        · intro _; rw [q3]; simp
      · have : c'.ow b = c.ow b := by rw [q3]; simp only; rw [if_neg eb]
        rw [this, s.ext b]
        constructor
        · rintro (hh | ⟨m', hm', he', hb⟩)
          · exact .inl hh
          · have hmne : m'.d ≠ m.d := fun h' => by
              have : m'.j = m.j := by
                by_cases hjj : m'.j = m.j
                · exact hjj
                · exact absurd h' (hdd m' hm' m hm hjj).1
              exact hme (this ▸ he')
            exact .inr ⟨m', hm', List.mem_append_left _ he', by simp only [if_neg hmne]; exact hb⟩
        · rintro (hh | ⟨m', hm', he', hb⟩)
          · exact .inl hh
          · by_cases hmd : m'.d = m.d
            · simp only [if_pos hmd] at hb; exact absurd hb eb
            · simp only [if_neg hmd] at hb
              have : m'.j ∈ e := by
                rcases List.mem_append.1 he' with h' | h'
                · exact h'
                · simp only [List.mem_singleton] at h'
                  exact absurd (congrArg MI.d (hjd _ hm' _ hm h')) hmd
              exact .inr ⟨m', hm', this, hb⟩
    · by_cases eb : b = w.heap.size
      · right; rw [eb]; exact s.size
      · have : c'.ow b = c.ow b := by rw [q3]; simp only; rw [if_neg eb]
        rw [this] at hb
        exact s.new b r hb hr
    · by_cases hmd : m'.d = m.d
      · simp only [if_pos hmd] at hb; rw [hb]; exact s.size
      · simp only [if_neg hmd] at hb
        have : m'.j ∈ e := by
          rcases List.mem_append.1 he' with h' | h'
          · exact h'
          · simp only [List.mem_singleton] at h'
            exact absurd (congrArg MI.d (hjd _ hm' _ hm h')) hmd
        exact s.xge b ⟨m', hm', this, hb⟩
  · obtain ⟨k1, k2⟩ := (g.iv.2 p hp).frz b hb hn
    have hlt := Nat.lt_of_lt_of_le hb (g.iv.2 p hp).size
    refine ⟨(same_alloc b hlt).trans k1, ?_⟩
    rw [q3]; simp only; rw [if_neg (by omega)]; exact k2

/-- Another operation comes up. -/
theorem GI.other {M : List MI} {a0 : Act} {c0 : Cfg} {w0 : World} {ne : Bool} {B : List Base} {e : List Nat} {γ : Nat → Nat} {ops : Array Oper} {o : Oper} (hlt0 : ∀ b, c0.ow b ≠ none → b < w0.heap.size)
    (hdd : ∀ m ∈ M, m.o.dst = some m.d ∧ o.dst ≠ some m.d ∧ ∀ d, o.dst = some d → d ∉ m.o.looksAt ops)
    (g : GI P M a0 c0 w0 ne B e γ c a w) {x : Value} (hs : Step c c' w w') (hst : StillO o.op c c' w w') (hne : (ne || keepsAll o.op) = true) : GI P M a0 c0 w0 ne B e γ c' (a.put o.dst x) w' := by
  refine ⟨fun m hm he => ?_, g.inj, fun m hm he y hy => ?_, g.stepx.trans hlt0 hs, g.iv.still hs fun _ => ⟨hst, hne⟩, ?_⟩
  · have hp := g.pend m hm he
    have hnd := (hdd m hm).2.1
    refine ⟨(hs.ext _).2 hp.ow, Nat.lt_of_lt_of_le hp.lt hs.size, ?_, hp.lim⟩
    obtain ⟨arr, ty, s1, s2, s3, s4⟩ := hp.cells
    refine ⟨arr, ty, by rw [hs.keep _ hp.lt (.inr hp.ow)]; exact s1, ?_, s3, s4⟩
    cases hd : o.dst with
    | none => exact s2
    | some d' =>
      rw [put_getD, if_neg (by intro e'; apply hnd; rw [hd, e'])]; exact s2
  · rw [eval_put fun t ht => looks_ne ((hdd m hm).2.2 t ht) y hy]
    exact g.stable m hm he y hy
  · cases hd : o.dst with
    | none => exact g.tsize
    | some d' => simp [Act.put, g.tsize]

end
end Go.VS
/- Regions in an order of their own, third part: the whole order is sound. -/
set_option linter.unusedVariables false
set_option linter.unusedSimpArgs false
namespace Go.VS
section
variable {P : Program} {cx : Cx} {st : St} {c c' c'' c1 c2 : Cfg} {a : Act} {w w' w'' w1 : World} {gs : List (Nat × Bool)}

theorem setAll_set (l : Array Bool) (e : List Nat) (x : Nat) : (setAll l e).setIfInBounds x true = setAll (l.setIfInBounds x true) e := by
  have h1 : (setAll l e).setIfInBounds x true = setAll l (e ++ [x]) := by rw [setAll_append]; rfl
  have h2 : setAll (l.setIfInBounds x true) e = setAll l (x :: e) := rfl
  rw [h1, h2]
  exact setAll_perm (List.perm_append_comm (l₁ := e) (l₂ := [x])) l

theorem nodup_of {l : List Nat} (h : nodupB l = true) : l.Nodup := by
  induction l with
  | nil => exact List.nodup_nil
  | cons n l ih =>
    obtain ⟨h1, h2⟩ : n ∉ l ∧ nodupB l = true := by simpa [nodupB] using h
    exact List.nodup_cons.2 ⟨h1, ih h2⟩

theorem map_inj_mem {M : List MI} (h : (M.map (·.j)).Nodup) {m m' : MI} (hm : m ∈ M) (hm' : m' ∈ M) (he : m.j = m'.j) : m = m' := by
  induction M with
  | nil => cases hm
  | cons x M ih =>
    simp only [List.map_cons, List.nodup_cons] at h
    rcases List.mem_cons.1 hm with rfl | h1 <;> rcases List.mem_cons.1 hm' with rfl | h2
    · rfl
    · exact absurd (List.mem_map.2 ⟨m', h2, he.symm⟩) h.1
    · exact absurd (List.mem_map.2 ⟨m, h1, he⟩) h.1
    · exact ih h.2 h1 h2

theorem apartAt_spec {ops : Array Oper} {i j : Nat} {x y : Oper} (hx : ops[i]? = some x) (hy : ops[j]? = some y) (h : apartAt ops i j = true) : x.apart ops y = true := by
  unfold apartAt at h
  rw [hx, hy] at h
  exact h

/-- The makers of a group, what is told of them. -/
structure GOk (P : Program) (ops : Array Oper) (ds js : List Nat) (a0 : Act) (M : List MI) : Prop where
  eq : M.map (·.j) = js
  nd : js.Nodup
  ok : ∀ m ∈ M, MIOk P ops a0 m
  guard : ∀ m ∈ M, m.o.guard = none
  late : ∀ j ∈ js, ds.contains j = false
  apart : ∀ m ∈ M, ∀ m' ∈ M, m.j ≠ m'.j → m.d ≠ m'.d ∧ m.d ∉ m'.o.looksAt ops

theorem grp_run (hty : TyOk P cx) (hfn : FnsOk P cx) {ne : Bool} {ops : Array Oper} {Q : Exit → Act → World → Prop} {ds js : List Nat} {a0 : Act} {M : List MI} (hM : GOk P ops ds js a0 M) {c0 : Cfg} {w0 : World} {B : List Base} (hlt0 : ∀ b, c0.ow b ≠ none → b < w0.heap.size)
    {K : St → Option R} {r : R} {rest : Nat} {fin : Array Bool} :
    ∀ (n : Nat) (is rem e : List Nat) (lp : Array Bool) (γ : Nat → Nat) {st : St} {c : Cfg} {a : Act} {w : World}, is.length + rem.length = n → (e ++ rem).Perm js → mainOk cx ne ops ds js lp is = true →
      (∀ g ∈ js, readyAt ops (setAll (setAll lp is) (js.filter (· != g))) = [g]) → (∀ g ∈ js, g ∈ readyAt ops lp) → setAll (setAll lp is) js = fin →
      Rel st c a w → DeadAt st M → runMain cx ne ops (M.map fun m => (m.d, m.r)) is st K = some r → GI P M a0 c0 w0 ne B e γ c a w →
      (∀ s c' a' w' γ' e', e'.Perm js → K s = some r → Rel s c' a' w' → DeadAt s M → GI P M a0 c0 w0 ne B e' γ' c' a' w' → wpAnyU P .any ops Q (SB ne B) ds rest false fin a' w') →
      wpAnyU P .any ops Q (SB ne B) ds (n + rest) false (setAll lp e) a w := by
  intro n
  induction n with
  | zero =>
    intro is rem e lp γ st c a w hn hp _ _ _ hfin h hd hk g hK
    have h1 : is = [] := List.eq_nil_of_length_eq_zero (by omega)
    have h2 : rem = [] := List.eq_nil_of_length_eq_zero (by omega)
    subst h1; subst h2
    rw [List.append_nil] at hp
    have : setAll lp e = fin := by rw [← hfin]; exact setAll_perm hp lp
    rw [this, Nat.zero_add]
    exact hK _ _ _ _ γ e hp hk h hd g
  | succ n ih =>
    intro is rem e lp γ st c a w hn hp hmain htail hin hfin h hd hk g hK
    rw [show n + 1 + rest = (n + rest) + 1 by omega]
    have hnd : (e ++ rem).Nodup := hp.nodup_iff.2 hM.nd
    have mem_js : ∀ x, x ∈ e ∨ x ∈ rem ↔ x ∈ js := fun x => by rw [← hp.mem_iff, List.mem_append]
    -- a maker comes up
    have maker : ∀ i ∈ rem, wpOp P ops Q i (fun a' w' => SB ne B (false || ds.contains i) w' ∧ wpAnyU P .any ops Q (SB ne B) ds (n + rest) (false || ds.contains i) ((setAll lp e).setIfInBounds i true) a' w') a w := by
      intro i hi
      have hij : i ∈ js := (mem_js i).1 (.inr hi)
      rw [← hM.eq] at hij
      obtain ⟨m, hm, rfl⟩ := List.mem_map.1 hij
      have hie : m.j ∉ e := fun h' => (List.nodup_append.1 hnd).2.2 _ h' _ hi rfl
      refine g.maker hlt0 hM.ok hM.apart (fun m hm m' hm' he => map_inj_mem (by rw [hM.eq]; exact hM.nd) hm hm' he) h hd hm hie (hM.guard m hm) fun c' γ' x w' h1 g1 => ?_
      rw [hM.late _ (by rw [← hM.eq]; exact hij), Bool.or_false]
      refine ⟨g1.iv.sb, ?_⟩
      have e1 : (setAll lp e).setIfInBounds m.j true = setAll lp (e ++ [m.j]) := by rw [setAll_append]; rfl
      rw [e1]
      refine ih is (rem.erase m.j) (e ++ [m.j]) lp γ' ?_ ?_ hmain htail hin hfin h1 hd hk g1 hK
      · have := List.length_erase_of_mem hi
        have := List.length_pos_of_mem hi
        omega
      · refine List.Perm.trans ?_ hp
        rw [List.append_assoc]
        exact (List.Perm.append_left e (List.perm_cons_erase hi).symm)
    have unl : ∀ i ∈ readyAt ops (setAll lp e), i ∉ e := fun i hi => setAll_unlisted e (mem_ready.1 hi).1
    cases is with
    | nil =>
      have hne : rem ≠ [] := fun h' => by rw [h'] at hn; simp at hn
      obtain ⟨q1, q2⟩ := grp_ready hM.nd htail hin hp hne
      refine ⟨fun h0 => ?_, fun i hi => maker i (q1 i hi)⟩
      obtain ⟨x, hx⟩ := List.exists_mem_of_ne_nil rem hne
      have : x ∈ Region.ready .any ops (setAll lp e) := q2 x hx
      rw [h0] at this
      cases this
    | cons x is =>
      simp only [mainOk, Bool.and_eq_true] at hmain
      obtain ⟨⟨⟨⟨⟨⟨m1, m2⟩, m3⟩, m4⟩, m5⟩, m6⟩, m7⟩ := hmain
      have hxr : x ∈ readyAt ops lp := by simpa using m4
      have hxj : x ∉ js := by simpa using m3
      have hxe : x ∉ e := fun h' => hxj ((mem_js x).1 (.inl h'))
      have hxready : x ∈ readyAt ops (setAll lp e) := ready_setAll (md := .any) e hxr hxe
      refine ⟨fun h0 => ?_, fun i hi => ?_⟩
      · unfold readyAt at hxready
        rw [h0] at hxready
        cases hxready
      · by_cases hij : i ∈ js
        · rcases (mem_js i).2 hij with h' | h'
          · exact absurd h' (unl i hi)
          · exact maker i h'
        · have hir : i ∉ rem := fun h' => hij ((mem_js i).1 (.inr h'))
          have h2 := ready_setAll (md := .any) rem (show i ∈ Region.ready .any ops (setAll lp e) from hi) hir
          rw [← setAll_append, setAll_perm hp] at h2
          have h3 : readyAt ops (setAll lp js) = [x] := by simpa using m5
          unfold readyAt at h3
          rw [h3] at h2
          simp only [List.mem_singleton] at h2
          subst h2
          -- the operation in its turn
          simp only [runMain] at hk
          split at hk
          · cases hk
          · rename_i o ho
            rw [ho] at m1
            simp only [Bool.and_eq_true, decide_eq_true_eq] at m1
            refine op_wp hty hfn h ho hk fun st' c' x w' h1 h2 h3 h4 => ?_
            have hids : ds.contains i = false := by simpa using m2
            rw [hids, Bool.or_false]
            split at h1
            case isFalse => cases h1
            rename_i hgd
            have hgd' : st'.gd = [] := by simpa using hgd
            have hap : ∀ m ∈ M, m.o.dst = some m.d ∧ o.dst ≠ some m.d ∧ ∀ d, o.dst = some d → d ∉ m.o.looksAt ops := fun m hm => by
              have hmj : m.j ∈ js := by rw [← hM.eq]; exact List.mem_map.2 ⟨m, hm, rfl⟩
              have h5 := List.all_eq_true.1 m6 _ hmj
              simp only [Bool.and_eq_true] at h5
              have h6 := apartAt_spec ho (hM.ok m hm).op h5.2
              obtain ⟨s1, s2, s3⟩ := Oper.apart_spec h6
              refine ⟨(hM.ok m hm).dst, fun h' => s2 _ h' (hM.ok m hm).dst, s1⟩
            have g1 := g.other (x := x) hlt0 hap h3 (h4 m1.1) m1.2
            refine ⟨g1.iv.sb, ?_⟩
            obtain ⟨q1, q2, q3⟩ := deadSlots_ok (M.map fun m => (m.d, m.r)) h2 hgd'
            rw [setAll_set]
            refine ih is rem e (lp.setIfInBounds i true) γ (by simp only [List.length_cons] at hn; omega) hp m7 htail (fun g' hg' => ?_) hfin q1 ⟨q2, fun m hm => q3 _ (.inr (by simp only [List.map_map]; exact List.mem_map.2 ⟨m, hm, rfl⟩))⟩ h1 g1 hK
            exact ready_mono (hin g' hg') (fun h' => hxj (h' ▸ hg'))

theorem plan_sound (hty : TyOk P cx) (hfn : FnsOk P cx) {ne : Bool} {ops : Array Oper} {Q : Exit → Act → World → Prop} {K : St → Option R} {r : R} {ds : List Nat} (hsel : Region.noSelect ops = true)
    (hQ : ∀ ch a d v w, Q (.panic ch) (Act.put a d v) w → Q (.panic ch) a w) : ∀ (plan : List PE) (ph : Nat) (B : List Base) (l : Array Bool) {st : St} {c : Cfg} {a : Act} {w : World}, Rel st c a w → runPlan cx ne ops plan st K = some r →
    planOk cx ne ops ds ph l plan = true → IV ne B (decide (2 ≤ ph)) c w →
    (∀ st' c' a' w', K st' = some r → Rel st' c' a' w' → Step c c' w w' → Q .normal a' w') → wpAnyU P .any ops Q (SB ne B) ds (planN plan) (decide (2 ≤ ph)) l a w := by
  intro plan
  induction plan with
  | nil =>
    intro ph B l st c a w h hk hp hI hn
    simp only [planOk, readyAt, beq_iff_eq] at hp
    obtain ⟨c1, h1, s1, _, _⟩ := nilBoxes_sound cx.nk h.noG
    exact ⟨hp, hn _ _ _ _ hk h1 s1⟩
  | cons pp plan ih =>
    intro ph B l st c a w h hk hp hI hn
    cases pp with
    | one i tag =>
      simp only [runPlan] at hk
      simp only [planN, PE.n]
      split at hk
      · cases hk
      · rename_i o ho
        simp only [planOk, ho] at hp
        split at hk
        case isFalse => cases hk
        rename_i hfz
        have forced : ∀ (ph' : Nat), readyAt ops l = [i] → planOk cx ne ops ds ph' (l.setIfInBounds i true) plan = true → (decide (2 ≤ ph') = (decide (2 ≤ ph) || ds.contains i)) → (decide (2 ≤ ph') = false → opClass cx o.op ≤ 2 ∧ (ne || keepsAll o.op) = true) → wpAnyU P .any ops Q (SB ne B) ds (planN plan + 1) (decide (2 ≤ ph)) l a w := by
          intro ph' hrd hpo hf hcl
          refine ⟨fun h0 => (by unfold readyAt at hrd; rw [h0] at hrd; cases hrd), fun j hj => ?_⟩
          unfold readyAt at hrd
          rw [hrd] at hj
          simp only [List.mem_singleton] at hj
          subst hj
          refine op_wp hty hfn h ho hk fun st' c' x w' h1 h2 h3 h4 => ?_
          have hI' : IV ne B (decide (2 ≤ ph')) c' w' := by
            cases hph : decide (2 ≤ ph') with
            | true => exact hI.late h3
            | false =>
              obtain ⟨q1, q2⟩ := hcl hph
              have : decide (2 ≤ ph) = false := by
                rw [hph] at hf
                cases hh : decide (2 ≤ ph) with
                | false => rfl
                | true => rw [hh] at hf; simp at hf
              rw [this] at hI
              exact hI.still h3 fun _ => ⟨h4 q1, q2⟩
          rw [← hf]
          exact ⟨hI'.sb, ih ph' B _ h2 h1 hpo hI' fun st'' c'' a'' w'' h5 h6 h7 => hn _ _ _ _ h5 h6 (h3.trans h7)⟩
        split at hp
        · -- it reckons
          simp only [Bool.and_eq_true, beq_iff_eq] at hp
          obtain ⟨⟨⟨⟨p1, p0⟩, p2⟩, p3⟩, p4⟩ := hp
          obtain ⟨x, st', hk', hr', _, hy⟩ := op_yields hty h (by omega) hk
          refine wpAnyU_any (T := fun _ => True) ho hsel (by simpa using p0) p2 (by simpa [readyAt] using p3) (fun _ _ _ => trivial) (fun ch a w => hQ ch a o.dst x w) (hy p1).yieldsIf hI.sb ?_
          exact ih ph B _ hr' hk' p4 hI hn
        · -- it reads
          simp only [Bool.and_eq_true, beq_iff_eq, decide_eq_true_eq] at hp
          obtain ⟨⟨⟨⟨⟨⟨⟨p0, p1⟩, p00⟩, p2⟩, p3⟩, p4⟩, p5⟩, p6⟩ := hp
          have hph : decide (2 ≤ ph) = false := by simp; omega
          rw [hph] at hI ⊢
          obtain ⟨x, st', hk', hr', hy, _⟩ := op_yields hty h p1 hk
          have hIb := hI.base
          refine wpAnyU_mono (S := SB ne ((c, w) :: B)) (fun f w h => h.tail) _ _ _ _ _ ?_
          refine wpAnyU_take (T := Stay c w ne) ho hsel (by simpa using p00) p2 (by simpa [readyAt] using p3) p4 p5 (fun w' hS => hS.1 rfl (c, w) (List.mem_cons_self ..)) (fun ch a w => hQ ch a o.dst x w) hy hIb.sb ?_
          have := ih ph ((c, w) :: B) _ hr' hk' p6 (by rw [hph]; exact hIb) hn
          rw [hph] at this
          exact this
        · simp only [Bool.and_eq_true, decide_eq_true_eq, beq_iff_eq] at hp
          obtain ⟨⟨⟨⟨⟨p0, p1⟩, p2⟩, p3⟩, p4⟩, p5⟩ := hp
          have hds : ds.contains i = false := by simpa using p3
          refine forced 1 p4 p5 ?_ (fun _ => ⟨p1, p2⟩)
          rw [hds]
          simp; omega
        · -- it reads what is frozen
          simp only [Bool.and_eq_true] at hp
          obtain ⟨⟨⟨⟨p1, p0⟩, p2⟩, p3⟩, p4⟩ := hp
          obtain ⟨x, st', hk', hr', hy⟩ := frz_yields hty h (by simpa using p1) (by simpa using hfz) hk
          have hIb := hI.base
          refine wpAnyU_mono (S := SB ne ((c, w) :: B)) (fun f w h => h.tail) _ _ _ _ _ ?_
          refine wpAnyU_any (T := StayF (c, w)) ho hsel (by simpa using p0) p2 (by simpa [readyAt] using p3) (fun f w' hS => hS.2 (c, w) (List.mem_cons_self ..)) (fun ch a w => hQ ch a o.dst x w) hy hIb.sb ?_
          exact ih ph ((c, w) :: B) _ hr' hk' p4 hIb hn
        · simp only [Bool.and_eq_true, Bool.or_eq_true, decide_eq_true_eq, beq_iff_eq] at hp
          obtain ⟨⟨p0, p2⟩, p3⟩ := hp
          refine forced 2 p2 p3 ?_ (fun hh => by simp at hh)
          rcases p0 with p0 | p0
          · simp [p0]
          · simp only [p0, Bool.or_true]; rfl
    | grp is js =>
      simp only [runPlan] at hk
      simp only [planOk, Bool.and_eq_true, decide_eq_true_eq] at hp
      obtain ⟨⟨⟨p0, p1⟩, p2⟩, p3⟩ := hp
      split at hk
      case isFalse => cases hk
      rename_i hgd
      have hgd' : st.gd = [] := by simpa using hgd
      obtain ⟨M, hMj, hk1, hMok⟩ := makersK_made hty h js hk
      simp only [grpOk, Bool.and_eq_true, List.all_eq_true] at p1
      obtain ⟨⟨⟨g1, g2⟩, g3⟩, g4⟩ := p1
      have hnd := nodup_of g2
      have hG : GOk P ops ds js a M := by
        refine ⟨hMj, hnd, hMok, fun m hm => ?_, fun j hj => ?_, fun m hm m' hm' hne => ?_⟩
        · have := g1 m.j (by rw [← hMj]; exact List.mem_map.2 ⟨m, hm, rfl⟩)
          unfold isMaker at this
          rw [(hMok m hm).op] at this
          simp only [Bool.and_eq_true, Option.isNone_iff_eq_none] at this
          exact this.1.1
        · have := (g3 j hj)
          simpa using this.1.2
        · have h1 := g4 m.j (by rw [← hMj]; exact List.mem_map.2 ⟨m, hm, rfl⟩) m'.j (by rw [← hMj]; exact List.mem_map.2 ⟨m', hm', rfl⟩)
          simp only [Bool.or_eq_true, beq_iff_eq, Bool.and_eq_true] at h1
          rcases h1 with h1 | h1
          · exact absurd h1.symm hne
          · obtain ⟨s1, s2, s3⟩ := Oper.apart_spec (apartAt_spec (hMok m hm).op (hMok m' hm').op h1.1)
            refine ⟨fun e => s2 m.d (hMok m hm).dst (by rw [(hMok m' hm').dst, e]), s1 _ (hMok m hm).dst⟩
      have hph : decide (2 ≤ ph) = false := by simp; omega
      rw [hph] at hI ⊢
      obtain ⟨q1, q2, q3⟩ := deadSlots_ok (M.map fun m => (m.d, m.r)) h hgd'
      have hn1 : planN (.grp is js :: plan) = is.length + js.length + planN plan := by simp only [planN, PE.n]; omega
      rw [hn1]
      have gi : GI P M a c w ne B [] (fun _ => 0) c a w := by
        refine ⟨fun _ _ h => ?_, fun _ _ _ _ h => ?_, fun _ _ _ _ _ => rfl, ?_, hI, rfl⟩
        · cases h
        · cases h
        · have := StepX.of_step (Step.refl c w)
          refine ⟨this.size, this.os, this.tape, this.output, this.keep, fun b => ?_, this.new, this.low, fun b hb => ?_⟩
          · simp
          · simp at hb
      refine grp_run (fin := setAll (setAll l is) js) hty hfn hG h.mem.lt (is.length + js.length) is js [] l (fun _ => 0) rfl (by simp) p2 (fun g hg => ?_) (fun g hg => ?_) rfl q1
        ⟨q2, fun m hm => q3 _ (.inr (by simp only [List.map_map]; exact List.mem_map.2 ⟨m, hm, rfl⟩))⟩ hk1 gi ?_
      · have := g3 g hg; simpa using this.2
      · have := g3 g hg; simpa using this.1.1
      · intro s c' a' w' γ' e' hpe hks hrs hds gi'
        have mem : ∀ m ∈ M, m.j ∈ e' := fun m hm => hpe.mem_iff.2 (by rw [← hMj]; exact List.mem_map.2 ⟨m, hm, rfl⟩)
        have hnd2 : ((M.map fun m => (m.d, m.r)).map (·.1)).Nodup := by
          rw [List.map_map]
          have : ∀ (N : List MI), (∀ m ∈ N, m ∈ M) → (N.map (·.j)).Nodup → (N.map ((fun p : Nat × Row => p.1) ∘ fun m => (m.d, m.r))).Nodup := by
            intro N
            induction N with
            | nil => intro _ _; exact List.nodup_nil
            | cons x N ihN =>
              intro hN hnd
              simp only [List.map_cons, List.nodup_cons] at hnd ⊢
              refine ⟨fun hx => ?_, ihN (fun m hm => hN m (List.mem_cons_of_mem _ hm)) hnd.2⟩
              obtain ⟨y, hy, hxy⟩ := List.mem_map.1 hx
              have hne : x.j ≠ y.j := fun e => hnd.1 (List.mem_map.2 ⟨y, hy, e.symm⟩)
              exact (hG.apart x (hN x (List.mem_cons_self ..)) y (hN y (List.mem_cons_of_mem _ hy)) hne).1 hxy.symm
          exact this M (fun _ h => h) (by rw [hMj]; exact hnd)
        obtain ⟨c2, r1, r2, r3⟩ := adopt_all (γ := γ') (B := B) (ne := ne) h.mem.lt (M.map fun m => (m.d, m.r)) hrs hds.1 (fun p hp => by
            obtain ⟨m, hm, rfl⟩ := List.mem_map.1 hp
            exact gi'.pend m hm (mem m hm)) hnd2 (fun p hp q hq hne => by
            obtain ⟨m, hm, rfl⟩ := List.mem_map.1 hp
            obtain ⟨m', hm', rfl⟩ := List.mem_map.1 hq
            exact gi'.inj m hm m' hm' (mem m hm) (mem m' hm') hne) (by
            have := gi'.stepx
            refine ⟨this.size, this.os, this.tape, this.output, this.keep, fun b => ?_, this.new, this.low, fun b ⟨p, hp, hb⟩ => ?_⟩
            · rw [this.ext b]
              constructor
              · rintro (hh | ⟨m, hm, _, hb⟩)
                · exact .inl hh
                · exact .inr ⟨(m.d, m.r), List.mem_map.2 ⟨m, hm, rfl⟩, hb⟩
              · rintro (hh | ⟨p, hp, hb⟩)
                · exact .inl hh
                · obtain ⟨m, hm, rfl⟩ := List.mem_map.1 hp
                  exact .inr ⟨m, hm, mem m hm, hb⟩
            · obtain ⟨m, hm, rfl⟩ := List.mem_map.1 hp
              exact this.xge b ⟨m, hm, mem m hm, hb⟩) (fun p hp => (hI.2 p hp).size) gi'.iv
        have := ih 1 B _ r1 hks p3 (by simpa using r3) (fun st'' c'' a'' w'' h5 h6 h7 => hn _ _ _ _ h5 h6 (r2.trans h7))
        simpa using this

/-- A region. -/
theorem region_sound (hm : P.follows .mixedOrders = true) (hty : TyOk P cx) (hfn : FnsOk P cx) (h : Rel st c a w) {id : Nat} {ops : Array Oper} {draw : Bool} {K : St → Option R} {r : R} (hk : regionK cx ops draw st K = some r)
    {Q : Exit → Act → World → Prop} (hQ : ∀ ch a d v w, Q (.panic ch) (Act.put a d v) w → Q (.panic ch) a w) (hn : ∀ st' c' a' w', K st' = some r → Rel st' c' a' w' → Step c c' w w' → Q .normal a' w') : (Code.region id ops draw).wp P Q a w := by
  unfold regionK at hk
  cases draw with
  | false => exact wp_region (runOps_sound hty hfn _ h hk hn)
  | true =>
    simp only [if_true] at hk
    split at hk
    case isFalse => cases hk
    rename_i hc
    simp only [Bool.and_eq_true, beq_iff_eq] at hc
    obtain ⟨⟨h1, h2⟩, h3⟩ := hc
    refine wp_region_any hm ?_
    have := plan_sound (Q := Q) (B := []) hty hfn h1 hQ _ 0 (falses ops.size) h.drew hk h3 ⟨(fun _ p hp => by cases hp), (fun p hp => by cases hp)⟩ (fun st' c' a' w' h4 h5 h6 => hn _ _ _ _ h4 h5 ((Step.drew c w).trans h6))
    rw [h2] at this
    exact wpAny_of_U _ _ _ _ _ this

end
end Go.VS
