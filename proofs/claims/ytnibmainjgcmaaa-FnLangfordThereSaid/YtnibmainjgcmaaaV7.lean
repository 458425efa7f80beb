/- A call is left: the callee's names are the caller's again; what may have been kept is frozen. -/
import Derived.Test.YtnibmainjgcmaaaV6
set_option linter.unusedVariables false
set_option linter.unusedSimpArgs false
namespace Go.VS
section
variable {P : Program} {cx : Cx} {st : St} {c c' c'' : Cfg} {a : Act} {w w' w'' : World} {gs : List (Nat × Bool)} {E E' E'' : Ent}

/-! ### A variable in memory is frozen -/

def Cfg.unbox (c : Cfg) (n : Nat) : Cfg := { c with ow := fun b => if c.ow b = some (.box n) then none else c.ow b }

theorem unbox_free {n b : Nat} (h : c.free b) : (c.unbox n).free b := by
  unfold Cfg.free Cfg.unbox at *
  simp only
  split
  · rfl
  · exact h

theorem unbox_cr {n : Nat} {cs : List V} (h : BoxR c w n cs) (hf : cs.all V.isFrozenCell = true) {v : V} {x : Value} (hv : CR c w v x) : CR (c.unbox n) w (fbCell n cs v) x := by
  have wk : ∀ b, c.free b → (c.unbox n).free b := fun b hb => unbox_free hb
  cases v with
  | ptr m o =>
    simp only [fbCell]
    split
    · rename_i hm
      subst hm
      obtain ⟨h1, arr, ty, h2, h3⟩ := h
      exact ⟨c.box m, arr, ty, (0, 0), hv, by simp [Cfg.free, Cfg.unbox, h1], h2, lr_fc wk hf h3⟩
    · exact hv
  | sl e xs => exact FR.weaken wk _ _ _ hv
  | fel e xs i =>
    obtain ⟨y, u, ad, h1, h2, h3, h4, h5⟩ := hv
    exact ⟨y, u, ad, h1, h2, wk _ h3, h4, FR.weaken wk _ _ _ h5⟩
  | fp cs i =>
    obtain ⟨g, arr, ty, fz, h1, h2, h3, h4⟩ := hv
    exact ⟨g, arr, ty, fz, h1, wk _ h2, h3, LR.mono (fun v x hx => FC.move (fun b _ hb => ⟨wk _ hb, rfl⟩) hx) h4⟩
  | _ => first | exact hv | exact hv.elim

theorem unbox_tr {n : Nat} {cs : List V} (h : BoxR c w n cs) (hf : cs.all V.isFrozenCell = true) {v : V} {x : Value} (hv : TR c w v x) : TR (c.unbox n) w (fbTup n cs v) x := by
  have kar : ∀ {v : V} {x : Value}, AR c w v x → AR (c.unbox n) w (fbAgg n cs v) x := by
    intro v x hv
    have key : CR c w v x → (∀ vs, v ≠ .agg vs) → AR (c.unbox n) w (fbAgg n cs v) x := fun hc hn => by
      have e : fbAgg n cs v = fbCell n cs v := by cases v <;> first | rfl | exact absurd rfl (hn _)
      rw [e]; exact (unbox_cr h hf hc).ar
    cases v with
    | agg vs => obtain ⟨cs', h1, h2⟩ := hv; exact ⟨cs', h1, LR.map (fbCell n cs) (fun v x hx => unbox_cr h hf hx) h2⟩
    | _ => exact key hv (by intro vs hv; cases hv)
  have kcl : ∀ {v : V} {x : Value}, ClR c w v x → ClR (c.unbox n) w (fbClo n cs v) x := by
    intro v x hv
    have key : AR c w v x → (∀ f a b, v ≠ .clo f a b) → ClR (c.unbox n) w (fbClo n cs v) x := fun hc hn => by
      have e : fbClo n cs v = fbAgg n cs v := by cases v <;> first | rfl | exact absurd rfl (hn _ _ _)
      rw [e]; exact (kar hc).clr
    cases v with
    | clo f fi ca => obtain ⟨a, b, h1, h2, h3⟩ := hv; exact ⟨a, b, h1, LR.map (fbAgg n cs) (fun v x hx => kar hx) h2, LR.map (fbAgg n cs) (fun v x hx => kar hx) h3⟩
    | _ => exact key hv (by intro f a b hv; cases hv)
  have key : ClR c w v x → (∀ vs, v ≠ .tup vs) → TR (c.unbox n) w (fbTup n cs v) x := fun hc hn => by
    have e : fbTup n cs v = fbClo n cs v := by cases v <;> first | rfl | exact absurd rfl (hn _)
    rw [e]; exact (kcl hc).tr
  cases v with
  | tup vs => obtain ⟨cs', h1, h2⟩ := hv; exact ⟨cs', h1, LR.map (fbClo n cs) (fun v x hx => kcl hx) h2⟩
  | _ => exact key hv (by intro vs hv; cases hv)

theorem Rel.freezeBox (h : Rel st c a w) {n : Nat} {s : St} (hs : st.freezeBox n = some s) : ∃ c', Rel s c' a w ∧ Step c c' w w ∧ Still c c' w w ∧ c' = (if (look st.boxes n).isSome then c.unbox n else c) ∧ s.rows = st.rows ∧ (∀ m, m ≠ n → look s.boxes m = look st.boxes m) := by
  unfold St.freezeBox at hs
  cases hr : look st.boxes n with
  | none =>
    rw [hr] at hs; cases hs
    exact ⟨c, h, Step.refl c w, Still.refl c w, by simp, rfl, fun _ _ => rfl⟩
  | some cs =>
    rw [hr] at hs
    simp only at hs
    split at hs
    · rename_i hf
      cases hs
      have ho := h.mem.boxes _ _ hr
      have wk : ∀ b, c.free b → (c.unbox n).free b := fun b hb => unbox_free hb
      have owne : ∀ g m, c.ow g = some m → m ≠ .box n → (c.unbox n).ow g = some m := fun g m hg hm => by
        simp only [Cfg.unbox]
        rw [if_neg (fun e => hm (by rw [hg] at e; exact Option.some.inj e))]
        exact hg
      refine ⟨c.unbox n, ⟨⟨fun m r' hm => ?_, fun b cs1 hb => ?_, fun b hb => ?_⟩, by simpa using h.size, fun i => ?_, h.defers⟩, ⟨Nat.le_refl _, rfl, rfl, rfl, fun _ _ _ => rfl, fun b => ?_, fun b r' hb hne => ?_, fun _ _ => ⟨rfl, rfl⟩⟩, fun b hb hc => ?_, by simp, rfl, fun m hm => look_cut_ne _ hm⟩
      · obtain ⟨A, cap, h1, h2, h3⟩ := h.mem.rows _ _ hm
        refine ⟨A, cap, h1, h2, ?_⟩
        rcases h3 with h3 | ⟨g, arr, ty, h4, h5, h6, h7, h8, h9⟩
        · exact .inl h3
        · refine .inr ⟨g, arr, ty, h4, owne _ _ h5 (by intro e; cases e), h6, h7, h8, fun i x hi => ?_⟩
          obtain ⟨u, hu, hx⟩ := h9 i x hi
          exact ⟨u, hu, FR.weaken wk _ _ _ hx⟩
      · by_cases hbn : b = n
        · subst hbn; simp only [look_cut_same] at hb; cases hb
        · simp only [look_cut_ne _ hbn] at hb
          obtain ⟨h1, arr, ty, h2, h3⟩ := h.mem.boxes _ _ hb
          refine ⟨owne _ _ h1 (by intro e; cases e; exact hbn rfl), arr, ty, h2, LR.mono (fun v x hx => ?_) h3⟩
          cases v with
          | sl e xs => exact FR.weaken wk _ _ _ hx
          | fel e xs i =>
            obtain ⟨y, u, ad, h1, h2, h3, h4, h5⟩ := hx
            exact ⟨y, u, ad, h1, h2, wk _ h3, h4, FR.weaken wk _ _ _ h5⟩
          | fp cs i =>
            obtain ⟨g, arr, ty, fz, h1, h2, h3, h4⟩ := hx
            exact ⟨g, arr, ty, fz, h1, wk _ h2, h3, LR.mono (fun v x hx => FC.move (fun b _ hb => ⟨wk _ hb, rfl⟩) hx) h4⟩
          | _ => first | exact hx | exact hx.elim
      · refine h.mem.lt b fun e => hb ?_
        simp only [Cfg.unbox, e]
        split <;> rfl
      · have hs := h.slot i
        unfold SlotR at hs ⊢
        simp only
        rw [getV_map _ rfl]
        split
        · rename_i hq; rw [hq] at hs; exact unbox_tr ho hf hs
        · rename_i t b hq
          rw [hq] at hs
          rcases hs with h1 | ⟨h1, h2⟩ | h1
          · left; rw [h1]; rfl
          · exact .inr (.inl ⟨h1, unbox_tr ho hf h2⟩)
          · exact .inr (.inr h1)
      · simp only [Cfg.unbox]
        split
        · rename_i hq; rw [hq]; simp
        · exact Iff.rfl
      · simp only [Cfg.unbox] at hb
        split at hb
        · cases hb
        · exact .inl ⟨r', hb, hne⟩
      · refine ⟨rfl, fun m => ?_⟩
        simp only [Cfg.unbox]
        split
        · simp
        · exact hc m
    · cases hs

/-- All of the lent rows and variables are frozen. -/
def Cfg.unl (c : Cfg) (rd rb : List Nat) : Cfg := { c with ow := fun b => match c.ow b with
  | some (.row n) => if n ∈ rd then none else some (.row n)
  | some (.box n) => if n ∈ rb then none else some (.box n)
  | x => x }

theorem unl_nil (c : Cfg) : c.unl [] [] = c := by
  unfold Cfg.unl
  congr 1
  funext b
  cases c.ow b with
  | none => rfl
  | some r => cases r <;> simp

theorem Rel.freezeAll' (l : List Nat) : ∀ {st : St} {c : Cfg}, Rel st c a w → (∀ n ∈ l, look st.rows n ≠ none ∨ ∀ b, c.ow b ≠ some (.row n)) →
    Rel (st.freezeAll l) (c.unl l []) a w ∧ Step c (c.unl l []) w w ∧ Still c (c.unl l []) w w ∧ (∀ m, m ∉ l → look (st.freezeAll l).rows m = look st.rows m) ∧ ∀ b, look (st.freezeAll l).boxes b = none ↔ look st.boxes b = none := by
  induction l with
  | nil => intro st c h _; rw [unl_nil]; exact ⟨h, Step.refl _ w, Still.refl _ w, fun _ _ => rfl, fun _ => Iff.rfl⟩
  | cons n l ih =>
    intro st c h hl
    obtain ⟨c1, h1, s1, t1, d1, b1, e1⟩ := h.freeze n
    have e2 : ∀ b, c1.ow b = if c.ow b = some (.row n) then none else c.ow b := by
      intro b
      rw [e1]
      cases hq : look st.rows n with
      | none =>
        rcases hl n (List.mem_cons_self ..) with h' | h'
        · exact absurd hq h'
        · simp [h' b]
      | some r => simp [Cfg.unrow]
    have hrows : ∀ m, m ≠ n → look (st.freeze n).rows m = look st.rows m := by
      intro m hm
      unfold St.freeze
      cases hq : look st.rows n with
      | none => rfl
      | some r => exact look_cut_ne _ hm
    have hboxes : ∀ b, look (st.freeze n).boxes b = none ↔ look st.boxes b = none := by
      intro b
      unfold St.freeze
      cases hq : look st.rows n with
      | none => exact Iff.rfl
      | some r => simp [look_map]
    have hl' : ∀ m ∈ l, look (st.freeze n).rows m ≠ none ∨ ∀ b, c1.ow b ≠ some (.row m) := by
      intro m hm
      by_cases hmn : m = n
      · subst hmn
        right
        intro b hb
        rw [e2] at hb
        split at hb
        · cases hb
        · rename_i hne; exact hne hb
      · rcases hl m (List.mem_cons_of_mem _ hm) with h' | h'
        · left; rw [hrows m hmn]; exact h'
        · right
          intro b hb
          rw [e2] at hb
          split at hb
          · cases hb
          · exact h' b hb
    obtain ⟨h2, s2, t2, r2, b2⟩ := ih h1 hl'
    have ec : c1.unl l [] = c.unl (n :: l) [] := by
      unfold Cfg.unl
      have hh : c1.hdr = c.hdr := funext d1
      have hb : c1.box = c.box := funext b1
      rw [hh, hb]
      congr 1
      funext b
      rw [e2 b]
      cases hq : c.ow b with
      | none => simp
      | some r =>
        cases r with
        | row m =>
          by_cases hmn : m = n
          · subst hmn; simp
          · simp [hmn]
        | box m => simp
        | ext => simp
    rw [ec] at h2 s2 t2
    refine ⟨h2, s1.trans s2, t1.trans t2 (Nat.le_refl _), fun m hm => ?_, fun b => (b2 b).trans (hboxes b)⟩
    simp only [List.mem_cons, not_or] at hm
    exact (r2 m hm.2).trans (hrows m hm.1)

theorem Rel.freezeBoxes' (l : List Nat) (rd : List Nat) (c0 : Cfg) : ∀ {st s : St} {c : Cfg} {done : List Nat}, Rel st c a w → c = c0.unl rd done → st.freezeBoxes l = some s → (∀ n ∈ l, look st.boxes n ≠ none ∨ n ∈ done) →
    ∃ done', (∀ n, n ∈ done' ↔ n ∈ done ∨ n ∈ l) ∧ Rel s (c0.unl rd done') a w ∧ Step c (c0.unl rd done') w w ∧ Still c (c0.unl rd done') w w ∧ s.rows = st.rows ∧ (∀ m, m ∉ l → look s.boxes m = look st.boxes m) := by
  induction l with
  | nil =>
    intro st s c done h hc hs _
    cases hs
    exact ⟨done, by simp, hc ▸ h, hc ▸ Step.refl _ w, hc ▸ Still.refl _ w, rfl, fun _ _ => rfl⟩
  | cons n l ih =>
    intro st s c done h hc hs hl
    simp only [St.freezeBoxes] at hs
    cases hq : st.freezeBox n with
    | none => rw [hq] at hs; cases hs
    | some s1 =>
      rw [hq] at hs
      simp only at hs
      obtain ⟨c1, h1, st1, t1, e1, r1, b1⟩ := h.freezeBox hq
      have e2 : c1 = c0.unl rd (n :: done) := by
        rw [e1, hc]
        cases hb : look st.boxes n with
        | none =>
          rcases hl n (List.mem_cons_self ..) with h' | h'
          · exact absurd hb h'
          · simp only [Option.isSome_none, Bool.false_eq_true, if_false]
            unfold Cfg.unl
            congr 1
            funext b
            cases c0.ow b with
            | none => rfl
            | some r =>
              cases r with
              | box m => by_cases hm : m = n <;> simp [hm, h']
              | _ => rfl
        | some cs =>
          simp only [Option.isSome_some, if_true]
          unfold Cfg.unl Cfg.unbox
          congr 1
          funext b
          simp only
          cases c0.ow b with
          | none => simp
          | some r =>
            cases r with
            | box m => by_cases hm : m = n <;> by_cases hd : m ∈ done <;> simp_all
            | row m => by_cases hm : m ∈ rd <;> simp [hm]
            | ext => simp
      obtain ⟨done', d1, h2, s2, t2, r2, b2⟩ := ih h1 e2 hs (fun m hm => by
        by_cases hmn : m = n
        · right; subst hmn; exact List.mem_cons_self ..
        · rcases hl m (List.mem_cons_of_mem _ hm) with h' | h'
          · left; rw [b1 m hmn]; exact h'
          · right; exact List.mem_cons_of_mem _ h')
      refine ⟨done', fun m => by rw [d1 m]; simp only [List.mem_cons]; grind , h2, st1.trans s2, t1.trans t2 (Nat.le_refl _), r2.trans r1, fun m hm => ?_⟩
      simp only [List.mem_cons, not_or] at hm
      exact (b2 m hm.2).trans (b1 m hm.1)

end
end Go.VS
/- Behind a call. -/
set_option linter.unusedVariables false
set_option linter.unusedSimpArgs false
namespace Go.VS
section
variable {P : Program} {cx : Cx} {st : St} {c c' c'' c1 c2 : Cfg} {a : Act} {w w' w'' w1 : World} {gs : List (Nat × Bool)} {E E' E'' : Ent}

theorem look_mem {α : Type} : ∀ {l : List (Nat × α)} {k : Nat} {x : α}, look l k = some x → (k, x) ∈ l
  | (j, y) :: l, k, x, h => by
    simp only [look] at h
    split at h
    · rename_i e; subst e; cases h; exact List.mem_cons_self ..
    · exact List.mem_cons_of_mem _ (look_mem h)

theorem backList_mem {pr : List Nat} {base : Nat} {keys : List Nat} {k m : Nat} (h : (k, m) ∈ backList pr base keys) : pr[k]? = some m ∨ (pr.length ≤ k ∧ k < 1000 ∧ m = base + k) := by
  unfold backList at h
  rcases List.mem_append.1 h with h | h
  · left
    obtain ⟨q, hq, he⟩ := List.mem_map.1 h
    cases he
    have := List.mk_mem_zipIdx_iff_getElem?.1 hq
    exact this
  · right
    obtain ⟨q, hq, he⟩ := List.mem_map.1 h
    cases he
    have h2 := (List.mem_filter.1 hq).2
    simp only [Bool.and_eq_true, decide_eq_true_eq] at h2
    exact ⟨h2.1, h2.2, rfl⟩

theorem takeRows_look {rows : List (Nat × Row)} : ∀ {l : List (Nat × Nat)} {m : Nat} {r : Row}, look (takeRows rows l) m = some r → ∃ k, (k, m) ∈ l ∧ look rows k = some r
  | (k, j) :: l, m, r, h => by
    simp only [takeRows] at h
    cases hq : look rows k with
    | none =>
      rw [hq] at h
      obtain ⟨k', h1, h2⟩ := takeRows_look h
      exact ⟨k', List.mem_cons_of_mem _ h1, h2⟩
    | some x =>
      rw [hq] at h
      simp only [look] at h
      split at h
      · rename_i e; subst e; cases h; exact ⟨k, List.mem_cons_self .., hq⟩
      · obtain ⟨k', h1, h2⟩ := takeRows_look h
        exact ⟨k', List.mem_cons_of_mem _ h1, h2⟩

theorem takeBoxes_look {p : Ren} {boxes : List (Nat × List V)} : ∀ {l : List (Nat × Nat)} {m : Nat} {cs : List V}, look (takeBoxes p boxes l) m = some cs → ∃ k cs0, (k, m) ∈ l ∧ look boxes k = some cs0 ∧ cs = cs0.map p.cell
  | (k, j) :: l, m, cs, h => by
    simp only [takeBoxes] at h
    cases hq : look boxes k with
    | none =>
      rw [hq] at h
      obtain ⟨k', cs0, h1, h2⟩ := takeBoxes_look h
      exact ⟨k', cs0, List.mem_cons_of_mem _ h1, h2⟩
    | some x =>
      rw [hq] at h
      simp only [look] at h
      split at h
      · rename_i e; subst e; cases h; exact ⟨k, x, List.mem_cons_self .., hq, rfl⟩
      · obtain ⟨k', cs0, h1, h2⟩ := takeBoxes_look h
        exact ⟨k', cs0, List.mem_cons_of_mem _ h1, h2⟩

theorem without_look {α : Type} {base : Nat} {ns : List Nat} : ∀ {l : List (Nat × α)} {m : Nat} {r : α}, look (without base ns l) m = some r → inBase base m = false ∧ m ∉ ns ∧ look l m = some r
  | (k, x) :: l, m, r, h => by
    unfold without at h
    rw [List.filter_cons] at h
    split at h
    · rename_i hc
      simp only [Bool.and_eq_true, Bool.not_eq_true'] at hc
      simp only [look] at h ⊢
      split at h
      · rename_i e; subst e
        rw [if_pos rfl]
        cases h
        exact ⟨hc.1, by simpa using hc.2, rfl⟩
      · rename_i e
        rw [if_neg e]
        exact without_look h
    · rename_i hc
      obtain ⟨h1, h2, h3⟩ := without_look (l := l) h
      refine ⟨h1, h2, ?_⟩
      simp only [look]
      rw [if_neg]
      · exact h3
      · intro e
        subst e
        apply hc
        simp [h1, h2]

theorem FR.flat {w : World} {fr fr' : Nat → Prop} {e : K} (he : e.nested = false) {x : e.T} {u : Value} (h : FR w fr e x u) : FR w fr' e x u := by
  cases e with
  | sl e => cases he
  | _ => exact h

def ResR (c : Cfg) (w : World) (res : List V) (v : Value) : Prop := match res with
  | [x] => ClR c w x v
  | xs => ∃ cs : Array Value, v = .tuple cs ∧ LR (ClR c w) xs cs.toList

/-- What a call may do to memory. -/
structure Step0 (c c' : Cfg) (w w' : World) : Prop where
  size : w.heap.size ≤ w'.heap.size
  os : w'.os = w.os
  tape : w'.tape = w.tape
  output : w'.output = w.output
  keep : ∀ b, b < w.heap.size → (c.ow b = none ∨ c.ow b = some .ext) → w'.heap[b]? = w.heap[b]?
  ext : ∀ b, c'.ow b = some .ext ↔ c.ow b = some .ext
  new : ∀ b r, c'.ow b = some r → r ≠ .ext → (∃ r', c.ow b = some r' ∧ r' ≠ .ext) ∨ w.heap.size ≤ b

theorem Step.zero (h : Step c c' w w') : Step0 c c' w w' := ⟨h.size, h.os, h.tape, h.output, h.keep, h.ext, h.new⟩

theorem Step0.stays (h : Step0 c c' w w') {b : Nat} (hb : b < w.heap.size) (hc : c.ow b = none ∨ c.ow b = some .ext) : c'.ow b = none ∨ c'.ow b = some .ext := by
  cases hq : c'.ow b with
  | none => exact .inl rfl
  | some r =>
    by_cases hr : r = .ext
    · exact .inr (by rw [hr])
    · rcases h.new _ _ hq hr with ⟨r', h1, h2⟩ | h1
      · rcases hc with hc | hc
        · rw [hc] at h1; cases h1
        · rw [hc] at h1; cases h1; exact absurd rfl h2
      · omega

theorem Step0.trans (h : Step0 c c' w w') (h' : Step0 c' c'' w' w'') : Step0 c c'' w w'' := by
  refine ⟨Nat.le_trans h.size h'.size, h'.os.trans h.os, h'.tape.trans h.tape, h'.output.trans h.output, fun b hb hc => ?_, fun b => (h'.ext b).trans (h.ext b), fun b r hr hne => ?_⟩
  · exact (h'.keep b (Nat.lt_of_lt_of_le hb h.size) (h.stays hb hc)).trans (h.keep b hb hc)
  · rcases h'.new _ _ hr hne with ⟨r', h1, h2⟩ | h1
    · exact h.new _ _ h1 h2
    · exact .inr (Nat.le_trans h.size h1)

/-! ### The callee's answers in the caller's names -/

structure Back (p : Ren) (c1 c2 : Cfg) (hot : Prop) : Prop where
  row : ∀ n m, p.row n = some m → c2.hdr m = c1.hdr n
  box : ∀ n m, p.box n = some m → c2.box m = c1.box n
  free : hot → ∀ b, c1.free b → c2.free b

theorem back_cr {p : Ren} {hot : Prop} (o : Back p c1 c2 hot) {v : V} {x : Value} (hn : hot ∨ v.frz = false) (h : CR c1 w v x) : CR c2 w (p.cell v) x := by
  have hv : ∀ n m, p.row n = some m → c2.hv m = c1.hv n := fun n m hm => by unfold Cfg.hv; rw [o.row n m hm]
  cases v with
  | row n =>
    simp only [Ren.cell]
    cases hp : p.row n with
    | none => trivial
    | some m => show x = _; rw [hv _ _ hp]; exact h
  | view n lo hi =>
    simp only [Ren.cell]
    cases hp : p.row n with
    | none => trivial
    | some m =>
      obtain ⟨A, len, cap, h1, h2⟩ := h
      exact ⟨A, len, cap, by rw [hv _ _ hp]; exact h1, h2⟩
  | el n i =>
    simp only [Ren.cell]
    cases hp : p.row n with
    | none => trivial
    | some m =>
      obtain ⟨g, len, cap, h1, h2⟩ := h
      exact ⟨g, len, cap, by rw [hv _ _ hp]; exact h1, h2⟩
  | ptr b i =>
    simp only [Ren.cell]
    cases hp : p.box b with
    | none => trivial
    | some m => show x = _; rw [o.box _ _ hp]; exact h
  | sl e xs =>
    rcases hn with hn | hn
    · exact FR.weaken (o.free hn) _ _ _ h
    · cases hn
  | fel e xs i =>
    rcases hn with hn | hn
    · obtain ⟨y, u, ad, h1, h2, h3, h4, h5⟩ := h
      exact ⟨y, u, ad, h1, h2, o.free hn _ h3, h4, FR.weaken (o.free hn) _ _ _ h5⟩
    · cases hn
  | fp cs i =>
    rcases hn with hn | hn
    · obtain ⟨g, arr, ty, fz, h1, h2, h3, h4⟩ := h
      exact ⟨g, arr, ty, fz, h1, o.free hn _ h2, h3, LR.mono (fun v x hx => FC.move (fun b _ hb => ⟨o.free hn _ hb, rfl⟩) hx) h4⟩
    · cases hn
  | _ => first | exact h | exact h.elim

theorem back_crs {p : Ren} {hot : Prop} (o : Back p c1 c2 hot) : ∀ {vs : List V} {xs : List Value}, (hot ∨ vs.any V.frz = false) → LR (CR c1 w) vs xs → LR (CR c2 w) (vs.map p.cell) xs
  | [], [], _, _ => trivial
  | v :: vs, x :: xs, hn, h => by
    simp only [List.any_cons, Bool.or_eq_false_iff] at hn
    exact ⟨back_cr o (hn.imp id (·.1)) h.1, back_crs o (hn.imp id (·.2)) h.2⟩
  | [], _ :: _, _, h => h.elim
  | _ :: _, [], _, h => h.elim

theorem back_ar {p : Ren} {hot : Prop} (o : Back p c1 c2 hot) {v : V} {x : Value} (hn : hot ∨ v.frzA = false) (h : AR c1 w v x) : AR c2 w (p.agg v) x := by
  have key : (hot ∨ v.frz = false) → CR c1 w v x → (∀ vs, v ≠ .agg vs) → AR c2 w (p.agg v) x := fun hn hc hne => by
    have e : p.agg v = p.cell v := by cases v <;> first | rfl | exact absurd rfl (hne _)
    rw [e]; exact (back_cr o hn hc).ar
  cases v with
  | agg vs => obtain ⟨cs, h1, h2⟩ := h; exact ⟨cs, h1, back_crs o hn h2⟩
  | _ => exact key hn h (by intro vs hv; cases hv)

theorem back_ars {p : Ren} {hot : Prop} (o : Back p c1 c2 hot) : ∀ {vs : List V} {xs : List Value}, (hot ∨ vs.any V.frzA = false) → LR (AR c1 w) vs xs → LR (AR c2 w) (vs.map p.agg) xs
  | [], [], _, _ => trivial
  | v :: vs, x :: xs, hn, h => by
    simp only [List.any_cons, Bool.or_eq_false_iff] at hn
    exact ⟨back_ar o (hn.imp id (·.1)) h.1, back_ars o (hn.imp id (·.2)) h.2⟩
  | [], _ :: _, _, h => h.elim
  | _ :: _, [], _, h => h.elim

theorem back_cl {p : Ren} {hot : Prop} (o : Back p c1 c2 hot) {v : V} {x : Value} (hn : hot ∨ v.frzC = false) (h : ClR c1 w v x) : ClR c2 w (p.clo v) x := by
  have key : (hot ∨ v.frzA = false) → AR c1 w v x → (∀ f a b, v ≠ .clo f a b) → ClR c2 w (p.clo v) x := fun hn hc hne => by
    have e : p.clo v = p.agg v := by cases v <;> first | rfl | exact absurd rfl (hne _ _ _)
    rw [e]; exact (back_ar o hn hc).clr
  cases v with
  | clo f fi ca =>
    obtain ⟨a, b, h1, h2, h3⟩ := h
    simp only [V.frzC, Bool.or_eq_false_iff] at hn
    exact ⟨a, b, h1, back_ars o (hn.imp id (·.1)) h2, back_ars o (hn.imp id (·.2)) h3⟩
  | _ => exact key hn h (by intro f a b hv; cases hv)

theorem back_cls {p : Ren} {hot : Prop} (o : Back p c1 c2 hot) : ∀ {vs : List V} {xs : List Value}, (hot ∨ vs.any V.frzC = false) → LR (ClR c1 w) vs xs → LR (ClR c2 w) (vs.map p.clo) xs
  | [], [], _, _ => trivial
  | v :: vs, x :: xs, hn, h => by
    simp only [List.any_cons, Bool.or_eq_false_iff] at hn
    exact ⟨back_cl o (hn.imp id (·.1)) h.1, back_cls o (hn.imp id (·.2)) h.2⟩
  | [], _ :: _, _, h => h.elim
  | _ :: _, [], _, h => h.elim

/-- The names behind the call. -/
def afterCfg (E : Ent) (base : Nat) (c c1 : Cfg) : Cfg where
  hdr n := if inBase base n then c1.hdr (n - base) else c.hdr n
  box n := if inBase base n then c1.box (n - base) else c.box n
  ow b := match c1.ow b with
    | some (.row k) => some (.row (nth E.pr base k))
    | some (.box k) => some (.box (nth E.pb base k))
    | some .ext => c.ow b
    | none => match c.ow b with
      | some (.row n) => if n ∈ E.rd then some (.row n) else none
      | some (.box n) => if n ∈ E.rb then some (.box n) else none
      | _ => none

theorem inBase_add {base k : Nat} (h : k < 1000) : inBase base (base + k) = true := by unfold inBase; simp; exact h

/-- The cases of a block's owner, ahead of the call and behind it. -/
theorem owner_cases (E : Ent) (hs : Step0 (E.cfg c) c1 w w1) (b : Nat) (hlt : c.ow b ≠ none → b < w.heap.size) :
    ((∃ r, c1.ow b = some r ∧ r ≠ .ext) ∧ ((∃ r, c.ow b = some r ∧ r ≠ .ext) ∨ w.heap.size ≤ b)) ∨
    (c1.ow b = some .ext ∧ (E.cfg c).ow b = some .ext) ∨ c1.ow b = none := by
  cases hq : c1.ow b with
  | none => exact .inr (.inr rfl)
  | some r =>
    by_cases hr : r = .ext
    · subst hr; exact .inr (.inl ⟨rfl, (hs.ext b).1 hq⟩)
    · refine .inl ⟨⟨r, rfl, hr⟩, ?_⟩
      rcases hs.new b r hq hr with ⟨r', h1, h2⟩ | h1
      · left
        simp only [Ent.cfg] at h1
        split at h1
        · cases h1
        · cases h1; exact absurd rfl h2
        · rename_i n hn; exact ⟨_, hn, by simp⟩
        · rename_i n hn; exact ⟨_, hn, by simp⟩
      · exact .inr h1

theorem ext_of (E : Ent) {b : Nat} (h : c.ow b = some .ext) : (E.cfg c).ow b = some .ext := by simp [Ent.cfg, h]

theorem leave_sound (g : ENames E) (h : Rel E.st c a w) {base : Nat} (hbase : 1000 ≤ base) {fin : St} {res : List V} {v : Value} {s : St} {x : V} (hm1 : MRel fin c1 w1) (hs : Step0 (E.cfg c) c1 w w1) (hlr : ∀ k, k < E.pr.length → c1.hdr k = (E.cfg c).hdr k) (hlb : ∀ k, k < E.pb.length → c1.box k = (E.cfg c).box k) (hres : ResR c1 w1 res v)
    (hcold : (E.rd = [] ∧ E.rb = []) ∨ (fin.anyFrz = false ∧ res.any V.frzC = false)) (hl : leave E base fin res = some (s, x)) :
    ∃ c2, Rel s c2 a w1 ∧ Step c c2 w w1 ∧ (E.pr = [] → E.pb = [] → Still c c2 w w1) ∧ TR c2 w1 x v := by
  unfold leave at hl
  simp only at hl
  split at hl
  case isFalse => cases hl
  rename_i hchk
  simp only [Bool.and_eq_true, decide_eq_true_eq, List.all_eq_true, Bool.not_eq_true'] at hchk
  obtain ⟨⟨⟨hk1, hk2⟩, hk3⟩, hk4⟩ := hchk
  cases hl
  let c2 := afterCfg E base c c1
  -- names
  have nrow : ∀ k m, (k, m) ∈ backList E.pr base (fin.rows.map (·.1)) → c2.hdr m = c1.hdr k ∧ nth E.pr base k = m := by
    intro k m hm
    rcases backList_mem hm with h1 | ⟨h1, h2, rfl⟩
    · have hlt := (List.getElem?_eq_some_iff.1 h1).1
      refine ⟨?_, by simp [nth, h1]⟩
      show (if inBase base m then _ else _) = _
      rw [hk3 m (List.mem_of_getElem? h1)]
      rw [hlr k hlt, (cfg_row g h1 c).2.1]
      simp
    · refine ⟨?_, by simp [nth, List.getElem?_eq_none h1]⟩
      show (if inBase base (base + k) then _ else _) = _
      rw [inBase_add h2]; simp
  have nbox : ∀ k m, (k, m) ∈ backList E.pb base (fin.boxes.map (·.1)) → c2.box m = c1.box k ∧ nth E.pb base k = m := by
    intro k m hm
    rcases backList_mem hm with h1 | ⟨h1, h2, rfl⟩
    · have hlt := (List.getElem?_eq_some_iff.1 h1).1
      refine ⟨?_, by simp [nth, h1]⟩
      show (if inBase base m then _ else _) = _
      rw [hk4 m (List.mem_of_getElem? h1)]
      rw [hlb k hlt, (cfg_box g h1 c).1]
      simp
    · refine ⟨?_, by simp [nth, List.getElem?_eq_none h1]⟩
      show (if inBase base (base + k) then _ else _) = _
      rw [inBase_add h2]; simp
  let p : Ren := { row := look (backList E.pr base (fin.rows.map (·.1))), box := look (backList E.pb base (fin.boxes.map (·.1))) }
  have back : Back p c1 c2 (E.rd = [] ∧ E.rb = []) := by
    refine ⟨fun n m hm => (nrow n m (look_mem hm)).1, fun n m hm => (nbox n m (look_mem hm)).1, fun hh b hb => ?_⟩
    unfold Cfg.free at *
    show (match c1.ow b with | some (.row k) => _ | some (.box k) => _ | some .ext => _ | none => _) = _
    rw [hb]
    simp only
    split
    · simp [hh.1]
    · simp [hh.2]
    · rfl
  have owlt : ∀ b, c.ow b ≠ none → b < w.heap.size := h.mem.lt
  have over : Over (keepRen base) c c2 w w1 := by
    refine ⟨fun n m hm => ?_, fun n m hm => ?_, fun b hb hf => ?_, fun b hb => ?_⟩
    · simp only [keepRen] at hm
      split at hm
      · cases hm
      · rename_i hi; cases hm; show (if inBase base n then _ else _) = _; rw [if_neg hi]
    · simp only [keepRen] at hm
      split at hm
      · cases hm
      · rename_i hi; cases hm; show (if inBase base n then _ else _) = _; rw [if_neg hi]
    · have hcf : (E.cfg c).ow b = none := cfg_free hf
      refine ⟨?_, hs.keep b hb (.inl hcf)⟩
      rcases hs.stays hb (.inl hcf) with h1 | h1
      · show (match c1.ow b with | some (.row k) => _ | some (.box k) => _ | some .ext => _ | none => _) = _
        rw [h1]
        unfold Cfg.free at hf
        simp [hf]
      · rw [(hs.ext b).1 h1] at hcf; cases hcf
    · by_cases h1 : c1.ow b = none
      · have : c.ow b ≠ none := by
          intro e
          apply hb
          show (match c1.ow b with | some (.row k) => _ | some (.box k) => _ | some .ext => _ | none => _) = _
          rw [h1]; simp [e]
        exact Nat.lt_of_lt_of_le (owlt b this) hs.size
      · exact hm1.lt b h1
  have flat : ∀ {e : K} {x : e.T} {u : Value}, e.nested = false ∨ (E.rd = [] ∧ E.rb = []) → FR w1 c1.free e x u → FR w1 c2.free e x u := by
    intro e x u he hf
    rcases he with he | he
    · exact FR.flat he hf
    · exact FR.weaken (back.free he) _ _ _ hf
  have nestR : ∀ k r, look fin.rows k = some r → r.e.nested = false ∨ (E.rd = [] ∧ E.rb = []) := by
    intro k r hk
    rcases hcold with hc | ⟨hc, _⟩
    · exact .inr hc
    · left
      unfold St.anyFrz at hc
      simp only [Bool.or_eq_false_iff, List.any_eq_false] at hc
      simpa using hc.1 _ (look_mem hk)
  have frzB : ∀ k cs, look fin.boxes k = some cs → (E.rd = [] ∧ E.rb = []) ∨ cs.any V.frz = false := by
    intro k cs hk
    rcases hcold with hc | ⟨hc, _⟩
    · exact .inl hc
    · right
      unfold St.anyFrz at hc
      simp only [Bool.or_eq_false_iff, List.any_eq_false] at hc
      have := hc.2 _ (look_mem hk)
      simpa using this
  refine ⟨c2, ?_, ⟨hs.size, hs.os, hs.tape, hs.output, fun b hb hc => ?_, fun b => ?_, fun b r hb hr => ?_, fun n hn => ?_⟩, fun hp1 hp2 b hb hc => ?_, ?_⟩
  · -- the state
    refine h.over over (fun m r hm => ?_) (fun m cs hm => ?_)
    · rw [look_append] at hm
      cases ht : look (takeRows fin.rows (backList E.pr base (fin.rows.map (·.1)))) m with
      | some r' =>
        rw [ht] at hm
        cases hm
        right
        obtain ⟨k, hk, hkr⟩ := takeRows_look ht
        obtain ⟨n1, n2⟩ := nrow k m hk
        obtain ⟨A, cap, e1, e2, e3⟩ := hm1.rows _ _ hkr
        refine ⟨A, cap, by rw [← e1]; unfold Cfg.hv; rw [n1], e2, ?_⟩
        rcases e3 with e3 | ⟨gg, arr, ty, e4, e5, e6, e7, e8, e9⟩
        · exact .inl e3
        · refine .inr ⟨gg, arr, ty, e4, ?_, e6, e7, e8, fun i x hi => ?_⟩
          · show (match c1.ow gg with | some (.row k) => _ | some (.box k) => _ | some .ext => _ | none => _) = _
            rw [e5]; simp only; rw [n2]
          · obtain ⟨u, hu, hx⟩ := e9 i x hi
            exact ⟨u, hu, flat (nestR _ _ hkr) hx⟩
      | none =>
        rw [ht] at hm
        simp only at hm
        obtain ⟨h1, h2, h3⟩ := without_look hm
        left
        refine ⟨m, by simp [keepRen, h1], h3, fun b hb => ?_⟩
        have hlt := owlt b (by rw [hb]; simp)
        by_cases hrd : m ∈ E.rd
        · have hcf : (E.cfg c).ow b = none := cfg_rd g hrd hb
          refine ⟨?_, hs.keep b hlt (.inl hcf)⟩
          rcases hs.stays hlt (.inl hcf) with h4 | h4
          · show (match c1.ow b with | some (.row k) => _ | some (.box k) => _ | some .ext => _ | none => _) = _
            rw [h4]; simp [hb, hrd]
          · rw [(hs.ext b).1 h4] at hcf; cases hcf
        · have hcf : (E.cfg c).ow b = some .ext := by simp [Ent.cfg, hb, h2, hrd]
          refine ⟨?_, hs.keep b hlt (.inr hcf)⟩
          show (match c1.ow b with | some (.row k) => _ | some (.box k) => _ | some .ext => _ | none => _) = _
          rw [(hs.ext b).2 hcf]; exact hb
    · rw [look_append] at hm
      cases ht : look (takeBoxes p fin.boxes (backList E.pb base (fin.boxes.map (·.1)))) m with
      | some cs' =>
        rw [show look (takeBoxes _ fin.boxes (backList E.pb base (fin.boxes.map (·.1)))) m = some cs' from ht] at hm
        cases hm
        right
        obtain ⟨k, cs0, hk, hkr, rfl⟩ := takeBoxes_look ht
        obtain ⟨n1, n2⟩ := nbox k m hk
        obtain ⟨e5, arr, ty, e6, e7⟩ := hm1.boxes _ _ hkr
        refine ⟨?_, arr, ty, by rw [n1]; exact e6, back_crs back (frzB _ _ hkr) e7⟩
        rw [n1]
        show (match c1.ow (c1.box k) with | some (.row k) => _ | some (.box k) => _ | some .ext => _ | none => _) = _
        rw [e5]; simp only; rw [n2]
      | none =>
        rw [show look (takeBoxes _ fin.boxes (backList E.pb base (fin.boxes.map (·.1)))) m = none from ht] at hm
        simp only at hm
        rw [look_map] at hm
        cases hq : look (without base E.pb E.st.boxes) m with
        | none => rw [hq] at hm; cases hm
        | some cs0 =>
          rw [hq] at hm
          cases hm
          obtain ⟨h1, h2, h3⟩ := without_look hq
          left
          refine ⟨m, cs0, by simp [keepRen, h1], h3, rfl, fun b hb => ?_⟩
          have hlt := owlt b (by rw [hb]; simp)
          by_cases hrd : m ∈ E.rb
          · have hcf : (E.cfg c).ow b = none := cfg_rb g hrd hb
            refine ⟨?_, hs.keep b hlt (.inl hcf)⟩
            rcases hs.stays hlt (.inl hcf) with h4 | h4
            · show (match c1.ow b with | some (.row k) => _ | some (.box k) => _ | some .ext => _ | none => _) = _
              rw [h4]; simp [hb, hrd]
            · rw [(hs.ext b).1 h4] at hcf; cases hcf
          · have hcf : (E.cfg c).ow b = some .ext := by simp [Ent.cfg, hb, h2, hrd]
            refine ⟨?_, hs.keep b hlt (.inr hcf)⟩
            show (match c1.ow b with | some (.row k) => _ | some (.box k) => _ | some .ext => _ | none => _) = _
            rw [(hs.ext b).2 hcf]; exact hb
  · refine hs.keep b hb ?_
    rcases hc with hc | hc
    · exact .inl (cfg_free hc)
    · exact .inr (ext_of E hc)
  · constructor
    · intro hb
      have hb' : (match c1.ow b with | some (.row k) => some (.row (nth E.pr base k)) | some (.box k) => some (.box (nth E.pb base k)) | some .ext => c.ow b | none => match c.ow b with | some (.row n) => if n ∈ E.rd then some (.row n) else none | some (.box n) => if n ∈ E.rb then some (.box n) else none | _ => none) = some Res.ext := hb
      split at hb'
      · cases hb'
      · cases hb'
      · exact hb'
      · split at hb'
        · split at hb' <;> cases hb'
        · split at hb' <;> cases hb'
        · cases hb'
    · intro hb
      show (match c1.ow b with | some (.row k) => _ | some (.box k) => _ | some .ext => _ | none => _) = _
      rw [(hs.ext b).2 (ext_of E hb)]; exact hb
  · rcases owner_cases E hs b (owlt b) with ⟨_, h1⟩ | ⟨h1, h2⟩ | h1
    · rcases h1 with ⟨r', h1, h2⟩ | h1
      · exact .inl ⟨r', h1, h2⟩
      · exact .inr h1
    · left
      have hb' : c.ow b = some r := by
        have hb' : (match c1.ow b with | some (.row k) => some (.row (nth E.pr base k)) | some (.box k) => some (.box (nth E.pb base k)) | some .ext => c.ow b | none => match c.ow b with | some (.row n) => if n ∈ E.rd then some (.row n) else none | some (.box n) => if n ∈ E.rb then some (.box n) else none | _ => none) = some r := hb
        rw [h1] at hb'; exact hb'
      exact ⟨r, hb', hr⟩
    · left
      have hb' : (match c1.ow b with | some (.row k) => some (.row (nth E.pr base k)) | some (.box k) => some (.box (nth E.pb base k)) | some .ext => c.ow b | none => match c.ow b with | some (.row n) => if n ∈ E.rd then some (.row n) else none | some (.box n) => if n ∈ E.rb then some (.box n) else none | _ => none) = some r := hb
      rw [h1] at hb'
      simp only at hb'
      split at hb'
      · rename_i n hn; exact ⟨_, hn, by simp⟩
      · rename_i n hn; exact ⟨_, hn, by simp⟩
      · cases hb'
  · have hnb : inBase base n = false := by unfold inBase; simp; omega
    constructor
    · show (if inBase base n then _ else _) = _
      rw [hnb]; simp
    · show (if inBase base n then _ else _) = _
      rw [hnb]; simp
  · -- still
    have hcfg : (E.cfg c).ow b = none ∨ (E.cfg c).ow b = some .ext := by
      simp only [Ent.cfg]
      split
      · exact .inl rfl
      · exact .inr rfl
      · rename_i n hn; exact absurd hn (hc n)
      · simp only [hp2, List.not_mem_nil, if_false]
        split
        · exact .inl rfl
        · exact .inr rfl
    refine ⟨hs.keep b hb hcfg, fun n hn => ?_⟩
    have hb' : (match c1.ow b with | some (.row k) => some (.row (nth E.pr base k)) | some (.box k) => some (.box (nth E.pb base k)) | some .ext => c.ow b | none => match c.ow b with | some (.row n) => if n ∈ E.rd then some (.row n) else none | some (.box n) => if n ∈ E.rb then some (.box n) else none | _ => none) = some (Res.row n) := hn
    rcases hs.stays hb hcfg with h1 | h1
    · rw [h1] at hb'
      simp only at hb'
      split at hb'
      · rename_i m hm; exact hc m hm
      · split at hb' <;> cases hb'
      · cases hb'
    · rw [h1] at hb'; exact hc n hb'
  · -- the answer
    have hn : (E.rd = [] ∧ E.rb = []) ∨ res.any V.frzC = false := hcold.imp id (·.2)
    unfold ResR at hres
    split at hres
    · rename_i y
      simp only [List.any_cons, List.any_nil, Bool.or_false] at hn
      exact (back_cl back hn hres).tr
    · rename_i hne
      obtain ⟨cs, h1, h2⟩ := hres
      have : TR c2 w1 (.tup (res.map p.clo)) v := ⟨cs, h1, back_cls back hn h2⟩
      split
      · rename_i y; exact absurd rfl (hne y)
      · exact this

end
end Go.VS
