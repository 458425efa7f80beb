/- How what is told lives on: slots that are filled, names that change, memory that grows or is written. -/
import Derived.Test.YtnibmainjgcmaaaV2
set_option linter.unusedVariables false
set_option linter.unusedSimpArgs false
namespace Go.VS
section
variable {P : Program} {cx : Cx} {st : St} {c c' : Cfg} {a : Act} {w w' : World} {gs : List (Nat × Bool)}

theorem getV_setV_same : ∀ (vs : List V) (i : Nat) (v : V), i < vs.length → getV (setV vs i v) i = v
  | [], _, _, h => by simp at h
  | _ :: _, 0, _, _ => rfl
  | _ :: vs, i + 1, v, h => getV_setV_same vs i v (by simpa using h)

theorem getV_setV_ne : ∀ (vs : List V) (i j : Nat) (v : V), i ≠ j → getV (setV vs i v) j = getV vs j
  | [], _, _, _, _ => rfl
  | _ :: _, 0, 0, _, h => absurd rfl h
  | _ :: _, 0, j + 1, _, _ => rfl
  | _ :: _, i + 1, 0, _, _ => rfl
  | _ :: vs, i + 1, j + 1, v, h => getV_setV_ne vs i j v (by omega)

theorem getV_map (f : V → V) (hf : f .dead = .dead) : ∀ (vs : List V) (i : Nat), getV (vs.map f) i = f (getV vs i)
  | [], _ => hf.symm
  | _ :: _, 0 => rfl
  | _ :: vs, i + 1 => getV_map f hf vs i

theorem killAll_length : ∀ (gd : List (Nat × Nat × Bool)) (vs : List V) (d : Nat), (killAll vs gd d).length = vs.length
  | [], _, _ => rfl
  | (s, t, _) :: r, vs, d => by
    simp only [killAll]
    rw [killAll_length r]
    split
    · exact setV_length ..
    · rfl

/-- Behind the killing: what hung on the temporary d is dead, the rest is as it was. -/
theorem killAll_get : ∀ (gd : List (Nat × Nat × Bool)) (vs : List V) (d i : Nat), (getV (killAll vs gd d) i = .dead) ∨ (getV (killAll vs gd d) i = getV vs i ∧ ∀ t w, (i, t, w) ∈ gd → t = d → vs.length ≤ i)
  | [], _, _, _ => .inr ⟨rfl, fun _ _ h => by cases h⟩
  | (s, t, b) :: r, vs, d, i => by
    simp only [killAll]
    by_cases ht : t = d
    · rw [if_pos ht]
      rcases killAll_get r (setV vs s .dead) d i with h | ⟨h, h2⟩
      · exact .inl h
      · by_cases hs : s = i
        · subst hs
          by_cases hl : s < vs.length
          · left; rw [h, getV_setV_same _ _ _ hl]
          · right
            refine ⟨?_, fun t' w' hm _ => by omega⟩
            rw [h, getV_ge (by rw [setV_length]; omega), getV_ge (by omega)]
        · right
          refine ⟨by rw [h, getV_setV_ne _ _ _ _ hs], fun t' w' hm ht' => ?_⟩
          rcases List.mem_cons.1 hm with hm | hm
          · cases hm; exact absurd rfl hs
          · have := h2 t' w' hm ht'; rwa [setV_length] at this
    · rw [if_neg ht]
      rcases killAll_get r vs d i with h | ⟨h, h2⟩
      · exact .inl h
      · refine .inr ⟨h, fun t' w' hm ht' => ?_⟩
        rcases List.mem_cons.1 hm with hm | hm
        · cases hm; exact absurd ht' ht
        · exact h2 t' w' hm ht'

theorem guardOf_mem : ∀ {gd : List (Nat × Nat × Bool)} {d t : Nat} {b : Bool}, guardOf gd d = some (t, b) → (d, t, b) ∈ gd
  | [], _, _, _, h => by cases h
  | (s, t', b') :: r, d, t, b, h => by
    simp only [guardOf] at h
    split at h
    · rename_i hs; subst hs; cases h; exact List.mem_cons_self ..
    · exact List.mem_cons_of_mem _ (guardOf_mem h)

/-- A guard behind the cut is the guard ahead of it, unless it went. -/
theorem guardOf_cutG : ∀ (gd : List (Nat × Nat × Bool)) (d i : Nat), i ≠ d → (guardOf (cutG gd d) i = guardOf gd i ∧ ∀ t b, guardOf gd i = some (t, b) → t ≠ d) ∨ (∃ t b, (i, t, b) ∈ gd ∧ t = d)
  | [], _, _, _ => .inl ⟨rfl, fun _ _ h => by cases h⟩
  | (s, t, b) :: r, d, i, hi => by
    simp only [cutG]
    by_cases hs : s = d
    · rw [if_pos hs]
      have hsi : s ≠ i := fun e => hi (e ▸ hs)
      simp only [guardOf, if_neg hsi]
      rcases guardOf_cutG r d i hi with h | ⟨t', b', hm, ht⟩
      · exact .inl h
      · exact .inr ⟨t', b', List.mem_cons_of_mem _ hm, ht⟩
    · rw [if_neg hs]
      by_cases ht : t = d
      · rw [if_pos ht]
        by_cases hsi : s = i
        · subst hsi; exact .inr ⟨t, b, List.mem_cons_self .., ht⟩
        · simp only [guardOf, if_neg hsi]
          rcases guardOf_cutG r d i hi with h | ⟨t', b', hm, ht⟩
          · exact .inl h
          · exact .inr ⟨t', b', List.mem_cons_of_mem _ hm, ht⟩
      · rw [if_neg ht]
        by_cases hsi : s = i
        · subst hsi
          simp only [guardOf, if_true]
          exact .inl ⟨trivial, fun t' b' h => by cases h; exact ht⟩
        · simp only [guardOf, if_neg hsi]
          rcases guardOf_cutG r d i hi with h | ⟨t', b', hm, ht⟩
          · exact .inl h
          · exact .inr ⟨t', b', List.mem_cons_of_mem _ hm, ht⟩

theorem cutG_same : ∀ (gd : List (Nat × Nat × Bool)) (d : Nat), guardOf (cutG gd d) d = none
  | [], _ => rfl
  | (s, t, b) :: r, d => by
    simp only [cutG]
    (repeat' split)
    · exact cutG_same r d
    · exact cutG_same r d
    · rename_i hs _; simp only [guardOf, if_neg hs]; exact cutG_same r d

theorem put_getD (a : Act) (d : Nat) (v : Value) (i : Nat) : (a.put (some d) v).tmps.getD i undef = if i = d then (if d < a.tmps.size then v else undef) else a.tmps.getD i undef := by
  simp only [Act.put, Array.getD_eq_getD_getElem?]
  rw [Array.getElem?_setIfInBounds]
  by_cases h : d = i
  · subst h
    simp
    split <;> rfl
  · rw [if_neg h, if_neg (fun e => h e.symm)]

/-- A temporary is filled. -/
theorem Rel.put (h : Rel st c a w) {d : Option Nat} {v : V} {x : Value} (hv : TR c w v x) : Rel (st.put d v) c (a.put d x) w := by
  cases d with
  | none => exact h
  | some d =>
    refine ⟨⟨h.mem.rows, h.mem.boxes, h.mem.lt⟩, ?_, fun i => ?_, ?_⟩
    · simp [St.put, Act.put, setV_length, killAll_length, h.size]
    · show SlotR { st with slots := setV (killAll st.slots st.gd d) d v, gd := cutG st.gd d } c w (a.put (some d) x) i
      unfold SlotR
      simp only
      by_cases hi : i = d
      · subst hi
        rw [cutG_same]
        simp only
        rw [put_getD, if_pos rfl]
        by_cases hlt : i < a.tmps.size
        · rw [if_pos hlt, getV_setV_same _ _ _ (by rw [killAll_length, h.size]; exact hlt)]
          exact hv
        · rw [if_neg hlt, getV_ge (by rw [setV_length, killAll_length, h.size]; omega)]
          trivial
      · rw [getV_setV_ne _ _ _ _ (Ne.symm hi)]
        have hslot := h.slot i
        unfold SlotR at hslot
        have dead : getV (killAll st.slots st.gd d) i = .dead → (match guardOf (cutG st.gd d) i with
            | none => TR c w (getV (killAll st.slots st.gd d) i) ((a.put (some d) x).tmps.getD i undef)
            | some (t, b) => getV (killAll st.slots st.gd d) i = .dead ∨ ((a.put (some d) x).tmps.getD t undef = .bool b ∧ TR c w (getV (killAll st.slots st.gd d) i) ((a.put (some d) x).tmps.getD i undef)) ∨
              ((a.put (some d) x).tmps.getD t undef ≠ .bool b ∧ (a.put (some d) x).tmps.getD i undef = undef)) := by
          intro hk
          split
          · rw [hk]; trivial
          · exact .inl hk
        rcases killAll_get st.gd st.slots d i with hk | ⟨hk, hk2⟩
        · exact dead hk
        · rcases guardOf_cutG st.gd d i hi with ⟨hg, hne⟩ | ⟨t, b, hm, ht⟩
          · rw [hk, hg]
            cases hq : guardOf st.gd i with
            | none =>
              rw [hq] at hslot
              simp only at hslot ⊢
              rw [put_getD, if_neg hi]; exact hslot
            | some p =>
              obtain ⟨t, b⟩ := p
              rw [hq] at hslot
              simp only at hslot ⊢
              rw [put_getD, if_neg (hne t b hq), put_getD, if_neg hi]
              exact hslot
          · exact dead (by rw [hk]; exact getV_ge (hk2 _ _ hm ht))
    · exact h.defers

/-- Under a guard: written, or not. -/
theorem Rel.putG (h : Rel st c a w) {d t : Nat} {b : Bool} {v : V} {x : Value} (htd : t ≠ d) (hv : (a.tmps.getD t undef = .bool b ∧ TR c w v x) ∨ (a.tmps.getD t undef ≠ .bool b ∧ x = undef)) : Rel (st.putG d t b v) c (a.put (some d) x) w := by
  have hx : (a.put (some d) x).tmps.getD t undef = a.tmps.getD t undef := by rw [put_getD, if_neg htd]
  have h0 : Rel (st.put (some d) .dead) c (a.put (some d) x) w := h.put trivial
  refine ⟨⟨h.mem.rows, h.mem.boxes, h.mem.lt⟩, ?_, fun i => ?_, h0.defers⟩
  · have := h0.size
    simp [St.put, St.putG, setV_length] at this ⊢
    exact this
  · have h1 := h0.slot i
    unfold SlotR at h1 ⊢
    simp only [St.putG, St.put, guardOf] at h1 ⊢
    by_cases hi : d = i
    · subst hi
      rw [if_pos rfl]
      simp only
      by_cases hlt : d < a.tmps.size
      · rw [getV_setV_same _ _ _ (by rw [killAll_length, h.size]; exact hlt), hx]
        rw [show (a.put (some d) x).tmps.getD d undef = x by rw [put_getD, if_pos rfl, if_pos hlt]]
        rcases hv with hv | hv
        · exact .inr (.inl hv)
        · exact .inr (.inr hv)
      · exact .inl (getV_ge (by rw [setV_length, killAll_length, h.size]; omega))
    · rw [if_neg hi]
      rw [getV_setV_ne _ _ _ _ hi] at h1 ⊢
      exact h1

/-! ### Another world, other names -/

theorem FR.move {fr fr' : Nat → Prop} (h : ∀ b, b < w.heap.size → fr b → fr' b ∧ w'.heap[b]? = w.heap[b]?) : ∀ (e : K) (x : e.T) (v : Value), FR w fr e x v → FR w' fr' e x v
  | .int _, _, _, hr => hr
  | .bool, _, _, hr => hr
  | .str, _, _, hr => hr
  | .sl e, xs, v, hr => by
    obtain ⟨A, cap, h1, h2, h3, h4⟩ := hr
    refine ⟨A, cap, h1, h2, h3, fun h0 => ?_⟩
    obtain ⟨ad, ha, hf, hc⟩ := h4 h0
    have hlt : ad.block < w.heap.size := by
      obtain ⟨u, hu, _⟩ := hc 0 xs[0] (by simp [h0])
      have := cell_lt hu
      rwa [add_block] at this
    obtain ⟨h5, h6⟩ := h _ hlt hf
    refine ⟨ad, ha, h5, fun i x hi => ?_⟩
    obtain ⟨u, hu, hx⟩ := hc i x hi
    exact ⟨u, by rw [← hu]; exact cell_agree (by rw [add_block]; exact h6), FR.move h e x u hx⟩

theorem FC.move {fr fr' : Nat → Prop} (h : ∀ b, b < w.heap.size → fr b → fr' b ∧ w'.heap[b]? = w.heap[b]?) {v : V} {x : Value} (hr : FC w fr v x) : FC w' fr' v x := by
  cases v <;> first | exact hr | exact FR.move h _ _ _ hr | exact hr.elim

/-- What goes over from one configuration and world to the next. -/
structure Over (p : Ren) (c c' : Cfg) (w w' : World) : Prop where
  row : ∀ n m, p.row n = some m → c'.hdr m = c.hdr n
  box : ∀ b m, p.box b = some m → c'.box m = c.box b
  free : ∀ b, b < w.heap.size → c.free b → c'.free b ∧ w'.heap[b]? = w.heap[b]?
  lt : ∀ b, c'.ow b ≠ none → b < w'.heap.size

theorem Over.hv {p : Ren} (o : Over p c c' w w') {n m : Nat} (h : p.row n = some m) : c'.hv m = c.hv n := by
  unfold Cfg.hv; rw [o.row _ _ h]

theorem Over.cr {p : Ren} (o : Over p c c' w w') {v : V} {x : Value} (h : CR c w v x) : CR c' w' (p.cell v) x := by
  cases v with
  | row n =>
    simp only [Ren.cell]
    split
    · rename_i m hm; exact Eq.trans h (o.hv hm).symm
    · trivial
  | view n lo hi =>
    simp only [Ren.cell]
    split
    · rename_i m hm
      obtain ⟨A, len, cap, h1, h2⟩ := h
      exact ⟨A, len, cap, (o.hv hm).trans h1, h2⟩
    · trivial
  | el n i =>
    simp only [Ren.cell]
    split
    · rename_i m hm
      obtain ⟨g, len, cap, h1, h2⟩ := h
      exact ⟨g, len, cap, (o.hv hm).trans h1, h2⟩
    · trivial
  | ptr b i =>
    simp only [Ren.cell]
    split
    · rename_i m hm; have : x = _ := h; subst this; show _ = _; rw [o.box _ _ hm]
    · trivial
  | sl e xs => exact FR.move o.free _ _ _ h
  | fel e xs i =>
    obtain ⟨y, u, ad, h1, h2, h3, h4, h5⟩ := h
    obtain ⟨h6, h7⟩ := o.free _ (cell_lt h4) h3
    exact ⟨y, u, ad, h1, h2, h6, (cell_agree h7).trans h4, FR.move o.free _ _ _ h5⟩
  | fp cs i =>
    obtain ⟨g, arr, ty, fz, h1, h2, h3, h4⟩ := h
    obtain ⟨h6, h7⟩ := o.free _ (Array.getElem?_eq_some_iff.1 h3).1 h2
    exact ⟨g, arr, ty, fz, h1, h6, h7.trans h3, LR.mono (fun v x hx => FC.move o.free hx) h4⟩
  | _ => first | exact h | exact h.elim | trivial

theorem Over.ar {p : Ren} (o : Over p c c' w w') {v : V} {x : Value} (h : AR c w v x) : AR c' w' (p.agg v) x := by
  have key : CR c w v x → (∀ vs, v ≠ .agg vs) → AR c' w' (p.agg v) x := fun hc hn => by
    have e : p.agg v = p.cell v := by cases v <;> first | rfl | exact absurd rfl (hn _)
    rw [e]; exact (o.cr hc).ar
  cases v with
  | agg vs => obtain ⟨cs, h1, h2⟩ := h; exact ⟨cs, h1, LR.map p.cell (fun v x hx => o.cr hx) h2⟩
  | _ => exact key h (by intro vs hv; cases hv)

theorem Over.cl {p : Ren} (o : Over p c c' w w') {v : V} {x : Value} (h : ClR c w v x) : ClR c' w' (p.clo v) x := by
  have key : AR c w v x → (∀ f a b, v ≠ .clo f a b) → ClR c' w' (p.clo v) x := fun hc hn => by
    have e : p.clo v = p.agg v := by cases v <;> first | rfl | exact absurd rfl (hn _ _ _)
    rw [e]; exact (o.ar hc).clr
  cases v with
  | clo f fi ca => obtain ⟨a, b, h1, h2, h3⟩ := h; exact ⟨a, b, h1, LR.map p.agg (fun v x hx => o.ar hx) h2, LR.map p.agg (fun v x hx => o.ar hx) h3⟩
  | _ => exact key h (by intro f a b hv; cases hv)

theorem Over.tr {p : Ren} (o : Over p c c' w w') {v : V} {x : Value} (h : TR c w v x) : TR c' w' (p.tup v) x := by
  have key : ClR c w v x → (∀ vs, v ≠ .tup vs) → TR c' w' (p.tup v) x := fun hc hn => by
    have e : p.tup v = p.clo v := by cases v <;> first | rfl | exact absurd rfl (hn _)
    rw [e]; exact (o.cl hc).tr
  cases v with
  | tup vs => obtain ⟨cs, h1, h2⟩ := h; exact ⟨cs, h1, LR.map p.clo (fun v x hx => o.cl hx) h2⟩
  | _ => exact key h (by intro vs hv; cases hv)

/-- A row's block goes over as it is. -/
def Goes (c c' : Cfg) (w w' : World) (r r' : Res) : Prop := ∀ g, c.ow g = some r → c'.ow g = some r' ∧ w'.heap[g]? = w.heap[g]?

theorem Over.ownR {p : Ren} (o : Over p c c' w w') {n m : Nat} {r : Row} (hm : p.row n = some m) (ho : Goes c c' w w' (.row n) (.row m)) (h : OwnR c w n r) : OwnR c' w' m r := by
  obtain ⟨A, cap, h1, h2, h3⟩ := h
  refine ⟨A, cap, (o.hv hm).trans h1, h2, ?_⟩
  rcases h3 with h3 | ⟨g, arr, ty, h4, h5, h6, h7, h8, h9⟩
  · exact .inl h3
  · obtain ⟨h10, h11⟩ := ho _ h5
    refine .inr ⟨g, arr, ty, h4, h10, h11.trans h6, h7, h8, fun i x hi => ?_⟩
    obtain ⟨u, hu, hx⟩ := h9 i x hi
    exact ⟨u, hu, FR.move o.free _ _ _ hx⟩

theorem Over.boxR {p : Ren} (o : Over p c c' w w') {b m : Nat} {cs : List V} (hm : p.box b = some m) (ho : Goes c c' w w' (.box b) (.box m)) (h : BoxR c w b cs) : BoxR c' w' m (cs.map p.cell) := by
  obtain ⟨h1, arr, ty, h2, h3⟩ := h
  obtain ⟨h4, h5⟩ := ho _ h1
  refine ⟨by rw [o.box _ _ hm]; exact h4, arr, ty, by rw [o.box _ _ hm, h5]; exact h2, LR.map p.cell (fun v x hx => o.cr hx) h3⟩

theorem Ren.tup_dead (p : Ren) : p.tup .dead = .dead := rfl

/-- The whole state goes over: its slots renamed, its rows and boxes among the new ones or shown anew. -/
theorem Rel.over {p : Ren} (h : Rel st c a w) (o : Over p c c' w w') {rows' : List (Nat × Row)} {boxes' : List (Nat × List V)}
    (hr : ∀ m r, look rows' m = some r → (∃ n, p.row n = some m ∧ look st.rows n = some r ∧ Goes c c' w w' (.row n) (.row m)) ∨ OwnR c' w' m r)
    (hb : ∀ m cs, look boxes' m = some cs → (∃ b cs0, p.box b = some m ∧ look st.boxes b = some cs0 ∧ cs = cs0.map p.cell ∧ Goes c c' w w' (.box b) (.box m)) ∨ BoxR c' w' m cs) :
    Rel { slots := st.slots.map p.tup, rows := rows', boxes := boxes', gd := st.gd } c' a w' := by
  refine ⟨⟨fun m r hm => ?_, fun m cs hm => ?_, o.lt⟩, by simpa using h.size, fun i => ?_, h.defers⟩
  · rcases hr m r hm with ⟨n, h1, h2, h3⟩ | h'
    · exact o.ownR h1 h3 (h.mem.rows _ _ h2)
    · exact h'
  · rcases hb m cs hm with ⟨b, cs0, h1, h2, rfl, h3⟩ | h'
    · exact o.boxR h1 h3 (h.mem.boxes _ _ h2)
    · exact h'
  · have := h.slot i
    unfold SlotR at this ⊢
    simp only
    rw [getV_map _ p.tup_dead]
    split
    · rename_i hq; rw [hq] at this; exact o.tr this
    · rename_i t b hq
      rw [hq] at this
      rcases this with h1 | ⟨h1, h2⟩ | h1
      · left; rw [h1]; rfl
      · exact .inr (.inl ⟨h1, o.tr h2⟩)
      · exact .inr (.inr h1)

end
end Go.VS
/- Rows and variables that are frozen; what a step leaves as it was. -/
set_option linter.unusedVariables false
set_option linter.unusedSimpArgs false
namespace Go.VS
section
variable {P : Program} {cx : Cx} {st : St} {c c' c'' : Cfg} {a : Act} {w w' w'' : World} {gs : List (Nat × Bool)}

/-- What a step may do to memory: it writes to what is one's own, and makes. -/
structure Step (c c' : Cfg) (w w' : World) : Prop where
  size : w.heap.size ≤ w'.heap.size
  os : w'.os = w.os
  tape : w'.tape = w.tape
  output : w'.output = w.output
  keep : ∀ b, b < w.heap.size → (c.ow b = none ∨ c.ow b = some .ext) → w'.heap[b]? = w.heap[b]?
  ext : ∀ b, c'.ow b = some .ext ↔ c.ow b = some .ext
  new : ∀ b r, c'.ow b = some r → r ≠ .ext → (∃ r', c.ow b = some r' ∧ r' ≠ .ext) ∨ w.heap.size ≤ b
  low : ∀ n, n < 1000 → c'.hdr n = c.hdr n ∧ c'.box n = c.box n

/-- Nothing but rows of one's own is written. -/
def Still (c c' : Cfg) (w w' : World) : Prop := ∀ b, b < w.heap.size → (∀ n, c.ow b ≠ some (.row n)) → w'.heap[b]? = w.heap[b]? ∧ ∀ n, c'.ow b ≠ some (.row n)

theorem Step.refl (c : Cfg) (w : World) : Step c c w w := ⟨Nat.le_refl _, rfl, rfl, rfl, fun _ _ _ => rfl, fun _ => Iff.rfl, fun _ r h hr => .inl ⟨r, h, hr⟩, fun _ _ => ⟨rfl, rfl⟩⟩
theorem Still.refl (c : Cfg) (w : World) : Still c c w w := fun _ _ h => ⟨rfl, h⟩

theorem Step.stays (h : Step c c' w w') {b : Nat} (hb : b < w.heap.size) (hc : c.ow b = none ∨ c.ow b = some .ext) : c'.ow b = none ∨ c'.ow b = some .ext := by
  cases hq : c'.ow b with
  | none => exact .inl rfl
  | some r =>
    by_cases hr : r = .ext
    · exact .inr (by rw [hr])
    · rcases h.new _ _ hq hr with ⟨r', h1, h2⟩ | h1
      · rcases hc with hc | hc
        · rw [hc] at h1; cases h1
        · rw [hc] at h1; cases h1; exact absurd rfl h2
      · omega

theorem Step.trans (h : Step c c' w w') (h' : Step c' c'' w' w'') : Step c c'' w w'' := by
  refine ⟨Nat.le_trans h.size h'.size, h'.os.trans h.os, h'.tape.trans h.tape, h'.output.trans h.output, fun b hb hc => ?_, fun b => (h'.ext b).trans (h.ext b), fun b r hr hne => ?_, fun n hn => ⟨(h'.low n hn).1.trans (h.low n hn).1, (h'.low n hn).2.trans (h.low n hn).2⟩⟩
  · exact (h'.keep b (Nat.lt_of_lt_of_le hb h.size) (h.stays hb hc)).trans (h.keep b hb hc)
  · rcases h'.new _ _ hr hne with ⟨r', h1, h2⟩ | h1
    · exact h.new _ _ h1 h2
    · exact .inr (Nat.le_trans h.size h1)

theorem Still.trans (h : Still c c' w w') (h' : Still c' c'' w' w'') (hs : w.heap.size ≤ w'.heap.size) : Still c c'' w w'' := fun b hb hc => by
  obtain ⟨h1, h2⟩ := h b hb hc
  obtain ⟨h3, h4⟩ := h' b (Nat.lt_of_lt_of_le hb hs) h2
  exact ⟨h3.trans h1, h4⟩

/-! ### A row is frozen -/

def Cfg.unrow (c : Cfg) (n : Nat) : Cfg := { c with ow := fun b => if c.ow b = some (.row n) then none else c.ow b }

theorem unrow_free {n b : Nat} (h : c.free b) : (c.unrow n).free b := by
  unfold Cfg.free Cfg.unrow at *
  simp only
  split
  · rfl
  · exact h

theorem FR.of_own {n : Nat} {r : Row} (h : OwnR c w n r) : FR w (c.unrow n).free (.sl r.e) r.xs (c.hv n) := by
  obtain ⟨A, cap, h1, h2, h3⟩ := h
  rcases h3 with ⟨rfl, h4, rfl⟩ | ⟨g, arr, ty, rfl, h5, h6, h7, h8, h9⟩
  · refine ⟨none, 0, h1, by rw [h4]; simp, h2, fun h0 => by rw [h4] at h0; simp at h0⟩
  · refine ⟨_, cap, h1, h8, h2, fun h0 => ⟨_, rfl, by simp [Cfg.free, Cfg.unrow, h5], fun i x hi => ?_⟩⟩
    obtain ⟨u, hu, hx⟩ := h9 i x hi
    have hadd : (⟨g, 0, none⟩ : Addr).add i = ⟨g, i, none⟩ := by unfold Addr.add; split <;> simp_all
    exact ⟨u, by rw [hadd, heap_cell h6]; exact hu, FR.weaken (fun b hb => unrow_free hb) _ _ _ hx⟩

/-- A part of what is frozen. -/
theorem FR.slice {fr : Nat → Prop} {e : K} {xs : List e.T} {A : Option Addr} {cap lo hi : Nat} (h : FR w fr (.sl e) xs (.slice A xs.length cap)) (h1 : lo ≤ hi) (h2 : hi ≤ xs.length) :
    FR w fr (.sl e) ((xs.take hi).drop lo) (.slice (if cap = lo then A else A.map (·.add lo)) (hi - lo) (cap - lo)) := by
  obtain ⟨A', cap', e1, e2, e3, e4⟩ := h
  cases e1
  refine ⟨if cap = lo then A else A.map (·.add lo), cap - lo, by congr 1; simp; omega, by simp; omega, by simp; omega, fun hpos => ?_⟩
  simp at hpos
  obtain ⟨ad, rfl, hf, hc⟩ := e4 (by omega)
  have hne : ¬ cap = lo := by omega
  refine ⟨ad.add lo, by simp [hne], by rw [add_block]; exact hf, fun i y hi' => ?_⟩
  have hadd : (ad.add lo).add i = ad.add (lo + i) := by unfold Addr.add; (repeat' split) <;> simp_all <;> omega
  rw [hadd]
  refine hc _ _ ?_
  rw [List.getElem?_drop, List.getElem?_take] at hi'
  split at hi'
  · exact hi'
  · cases hi'

theorem unrow_cr {n : Nat} {r : Row} (h : OwnR c w n r) {v : V} {x : Value} (hv : CR c w v x) : CR (c.unrow n) w (frzCell n r v) x := by
  have wk : ∀ b, c.free b → (c.unrow n).free b := fun b hb => unrow_free hb
  cases v with
  | row m =>
    simp only [frzCell]
    split
    · rename_i hm; subst hm; have : x = _ := hv; subst this; exact FR.of_own h
    · exact hv
  | view m lo hi =>
    simp only [frzCell]
    split
    · rename_i hm
      subst hm
      obtain ⟨A, len, cap, h1, h2, h3, rfl⟩ := hv
      have hf := FR.of_own h
      rw [h1] at hf
      obtain ⟨A', cap', e1, _⟩ := id hf
      cases e1
      exact FR.slice hf h2 h3
    · exact hv
  | el m i =>
    simp only [frzCell]
    split
    · rename_i hm
      subst hm
      obtain ⟨g, len, cap, h1, h2, rfl⟩ := hv
      obtain ⟨A, cap', hh, _⟩ := id h
      rw [h1] at hh
      cases hh
      obtain ⟨g', arr, ty, cap'', u, e1, e2, e3, e4, e5⟩ := h.get h2
      rw [h1] at e1
      cases e1
      refine ⟨r.xs.getD i r.e.dflt, u, ⟨g, i, none⟩, by simp [List.getD, h2], rfl, by simp [Cfg.free, Cfg.unrow, e2], by rw [heap_cell e3]; exact e4, FR.weaken wk _ _ _ e5⟩
    · exact hv
  | sl e xs => exact FR.weaken wk _ _ _ hv
  | fel e xs i =>
    obtain ⟨y, u, ad, h1, h2, h3, h4, h5⟩ := hv
    exact ⟨y, u, ad, h1, h2, wk _ h3, h4, FR.weaken wk _ _ _ h5⟩
  | fp cs i =>
    obtain ⟨g, arr, ty, fz, h1, h2, h3, h4⟩ := hv
    exact ⟨g, arr, ty, fz, h1, wk _ h2, h3, LR.mono (fun v x hx => FC.move (fun b _ hb => ⟨wk _ hb, rfl⟩) hx) h4⟩
  | _ => first | exact hv | exact hv.elim

theorem unrow_tr {n : Nat} {r : Row} (h : OwnR c w n r) {v : V} {x : Value} (hv : TR c w v x) : TR (c.unrow n) w (frzTup n r v) x := by
  have kar : ∀ {v : V} {x : Value}, AR c w v x → AR (c.unrow n) w (frzAgg n r v) x := by
    intro v x hv
    have key : CR c w v x → (∀ vs, v ≠ .agg vs) → AR (c.unrow n) w (frzAgg n r v) x := fun hc hn => by
      have e : frzAgg n r v = frzCell n r v := by cases v <;> first | rfl | exact absurd rfl (hn _)
      rw [e]; exact (unrow_cr h hc).ar
    cases v with
    | agg vs => obtain ⟨cs, h1, h2⟩ := hv; exact ⟨cs, h1, LR.map (frzCell n r) (fun v x hx => unrow_cr h hx) h2⟩
    | _ => exact key hv (by intro vs hv; cases hv)
  have kcl : ∀ {v : V} {x : Value}, ClR c w v x → ClR (c.unrow n) w (frzClo n r v) x := by
    intro v x hv
    have key : AR c w v x → (∀ f a b, v ≠ .clo f a b) → ClR (c.unrow n) w (frzClo n r v) x := fun hc hn => by
      have e : frzClo n r v = frzAgg n r v := by cases v <;> first | rfl | exact absurd rfl (hn _ _ _)
      rw [e]; exact (kar hc).clr
    cases v with
    | clo f fi ca => obtain ⟨a, b, h1, h2, h3⟩ := hv; exact ⟨a, b, h1, LR.map (frzAgg n r) (fun v x hx => kar hx) h2, LR.map (frzAgg n r) (fun v x hx => kar hx) h3⟩
    | _ => exact key hv (by intro f a b hv; cases hv)
  have key : ClR c w v x → (∀ vs, v ≠ .tup vs) → TR (c.unrow n) w (frzTup n r v) x := fun hc hn => by
    have e : frzTup n r v = frzClo n r v := by cases v <;> first | rfl | exact absurd rfl (hn _)
    rw [e]; exact (kcl hc).tr
  cases v with
  | tup vs => obtain ⟨cs, h1, h2⟩ := hv; exact ⟨cs, h1, LR.map (frzClo n r) (fun v x hx => kcl hx) h2⟩
  | _ => exact key hv (by intro vs hv; cases hv)

theorem look_cut_ne {α : Type} : ∀ (l : List (Nat × α)) {n m : Nat}, m ≠ n → look (cut l n) m = look l m
  | [], _, _, _ => rfl
  | (k, x) :: l, n, m, h => by
    simp only [cut, look]
    by_cases hk : k = n
    · rw [if_pos hk, if_neg (fun e => h (e.symm.trans hk)), look_cut_ne l h]
    · rw [if_neg hk]
      simp only [look]
      rw [look_cut_ne l h]

theorem look_cut_same {α : Type} : ∀ (l : List (Nat × α)) (n : Nat), look (cut l n) n = none
  | [], _ => rfl
  | (k, x) :: l, n => by
    simp only [cut]
    by_cases hk : k = n
    · rw [if_pos hk]; exact look_cut_same l n
    · rw [if_neg hk]
      simp only [look]
      rw [if_neg hk]; exact look_cut_same l n

theorem look_map {α β : Type} (f : α → β) : ∀ (l : List (Nat × α)) (n : Nat), look (l.map fun p => (p.1, f p.2)) n = (look l n).map f
  | [], _ => rfl
  | (k, x) :: l, n => by
    simp only [List.map_cons, look]
    split
    · rfl
    · exact look_map f l n

theorem Rel.freeze (h : Rel st c a w) (n : Nat) : ∃ c', Rel (st.freeze n) c' a w ∧ Step c c' w w ∧ Still c c' w w ∧ (∀ m, c'.hdr m = c.hdr m) ∧ (∀ m, c'.box m = c.box m) ∧ c' = (if (look st.rows n).isSome then c.unrow n else c) := by
  cases hr : look st.rows n with
  | none =>
    have : st.freeze n = st := by unfold St.freeze; rw [hr]
    rw [this]
    exact ⟨c, h, Step.refl c w, Still.refl c w, fun _ => rfl, fun _ => rfl, by simp⟩
  | some r =>
    have ho := h.mem.rows _ _ hr
    have e : st.freeze n = { st with slots := st.slots.map (frzTup n r), rows := cut st.rows n, boxes := st.boxes.map fun p => (p.1, p.2.map (frzCell n r)) } := by
      unfold St.freeze; rw [hr]
    rw [e]
    have wk : ∀ b, c.free b → (c.unrow n).free b := fun b hb => unrow_free hb
    have owne : ∀ g m, c.ow g = some m → m ≠ .row n → (c.unrow n).ow g = some m := fun g m hg hm => by
      simp only [Cfg.unrow]
      rw [if_neg (fun e => hm (by rw [hg] at e; exact Option.some.inj e))]
      exact hg
    refine ⟨c.unrow n, ⟨⟨fun m r' hm => ?_, fun b cs hb => ?_, fun b hb => ?_⟩, by simpa using h.size, fun i => ?_, h.defers⟩, ⟨Nat.le_refl _, rfl, rfl, rfl, fun _ _ _ => rfl, fun b => ?_, fun b r' hb hne => ?_, fun _ _ => ⟨rfl, rfl⟩⟩, fun b hb hc => ?_, fun _ => rfl, fun _ => rfl, by simp⟩
    · by_cases hmn : m = n
      · subst hmn; simp only [look_cut_same] at hm; cases hm
      · rw [look_cut_ne _ hmn] at hm
        obtain ⟨A, cap, h1, h2, h3⟩ := h.mem.rows _ _ hm
        refine ⟨A, cap, h1, h2, ?_⟩
        rcases h3 with h3 | ⟨g, arr, ty, h4, h5, h6, h7, h8, h9⟩
        · exact .inl h3
        · refine .inr ⟨g, arr, ty, h4, owne _ _ h5 (by intro e; cases e; exact hmn rfl), h6, h7, h8, fun i x hi => ?_⟩
          obtain ⟨u, hu, hx⟩ := h9 i x hi
          exact ⟨u, hu, FR.weaken wk _ _ _ hx⟩
    · simp only [look_map] at hb
      cases hq : look st.boxes b with
      | none => rw [hq] at hb; cases hb
      | some cs0 =>
        rw [hq] at hb
        cases hb
        obtain ⟨h1, arr, ty, h2, h3⟩ := h.mem.boxes _ _ hq
        exact ⟨owne _ _ h1 (by intro e; cases e), arr, ty, h2, LR.map (frzCell n r) (fun v x hx => unrow_cr ho hx) h3⟩
    · refine h.mem.lt b fun e => hb ?_
      simp only [Cfg.unrow, e]
      split <;> rfl
    · have hs := h.slot i
      unfold SlotR at hs ⊢
      simp only
      rw [getV_map _ rfl]
      split
      · rename_i hq; rw [hq] at hs; exact unrow_tr ho hs
      · rename_i t b hq
        rw [hq] at hs
        rcases hs with h1 | ⟨h1, h2⟩ | h1
        · left; rw [h1]; rfl
        · exact .inr (.inl ⟨h1, unrow_tr ho h2⟩)
        · exact .inr (.inr h1)
    · simp only [Cfg.unrow]
      split
      · rename_i hq; rw [hq]; simp
      · exact Iff.rfl
    · simp only [Cfg.unrow] at hb
      split at hb
      · cases hb
      · exact .inl ⟨r', hb, hne⟩
    · refine ⟨rfl, fun m => ?_⟩
      simp only [Cfg.unrow]
      split
      · simp
      · exact hc m

theorem Rel.freezeAll (l : List Nat) : ∀ {st : St} {c : Cfg}, Rel st c a w → ∃ c', Rel (st.freezeAll l) c' a w ∧ Step c c' w w ∧ Still c c' w w ∧ (∀ m, c'.hdr m = c.hdr m) ∧ (∀ m, c'.box m = c.box m) := by
  induction l with
  | nil => exact fun h => ⟨_, h, Step.refl _ w, Still.refl _ w, fun _ => rfl, fun _ => rfl⟩
  | cons n l ih =>
    intro st c h
    obtain ⟨c1, h1, s1, t1, d1, b1, _⟩ := h.freeze n
    obtain ⟨c2, h2, s2, t2, d2, b2⟩ := ih h1
    exact ⟨c2, h2, s1.trans s2, t1.trans t2 (Nat.le_refl _), fun m => (d2 m).trans (d1 m), fun m => (b2 m).trans (b1 m)⟩

end
end Go.VS
