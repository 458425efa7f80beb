/- New rows and variables; rows that take another's place; what is written. -/
import Derived.Test.YtnibmainjgcmaaaV3
set_option linter.unusedVariables false
set_option linter.unusedSimpArgs false
namespace Go.VS
section
variable {P : Program} {cx : Cx} {st : St} {c c' c'' : Cfg} {a : Act} {w w' w'' : World} {gs : List (Nat × Bool)}

/-- The world with one block more (and orders drawn). -/
structure Grew (w w' : World) (o : Obj) : Prop where
  heap : w'.heap = w.heap.push o
  os : w'.os = w.os
  tape : w'.tape = w.tape
  output : w'.output = w.output

theorem Grew.size {o : Obj} (g : Grew w w' o) : w'.heap.size = w.heap.size + 1 := by rw [g.heap]; simp
theorem Grew.old {o : Obj} (g : Grew w w' o) {b : Nat} (h : b < w.heap.size) : w'.heap[b]? = w.heap[b]? := by
  rw [g.heap, Array.getElem?_push, if_neg (by omega)]
theorem Grew.last {o : Obj} (g : Grew w w' o) : w'.heap[w.heap.size]? = some o := by
  rw [g.heap, Array.getElem?_push, if_pos rfl]

theorem ow_lt (h : Rel st c a w) {b : Nat} {r : Res} (hb : c.ow b = some r) : b < w.heap.size := h.mem.lt b (by rw [hb]; simp)

def Cfg.addRow (c : Cfg) (n : Nat) (hd : Option Addr × Nat × Nat) (g : Option Nat) : Cfg :=
  { hdr := fun m => if m = n then hd else c.hdr m, box := c.box, ow := fun b => if some b = g then some (.row n) else c.ow b }

theorem addRow_hv (c : Cfg) (n : Nat) (hd : Option Addr × Nat × Nat) (g : Option Nat) : (c.addRow n hd g).hv n = .slice hd.1 hd.2.1 hd.2.2 := by
  simp [Cfg.hv, Cfg.addRow]

/-- A new row in a new block. -/
theorem Rel.newRow (h : Rel st c a w) (n : Nat) (hn : 1000 ≤ n) (r : Row) {arr : Array Value} {ty : TypeId} (hlim : r.xs.length < LIM) (hle : r.xs.length ≤ arr.size) (g : Grew w w' (.cells arr ty))
    (he : ∀ (i : Nat) x, r.xs[i]? = some x → ∃ u : Value, arr[i]? = some u ∧ FR w c.free r.e x u) :
    ∃ c', Rel (st.newRow n r) c' a w' ∧ Step c c' w w' ∧ Still c c' w w' ∧ c'.hv n = .slice (some ⟨w.heap.size, 0, none⟩) r.xs.length arr.size := by
  let c1 := c.addRow n (some ⟨w.heap.size, 0, none⟩, r.xs.length, arr.size) (some w.heap.size)
  have hne : ∀ b, b < w.heap.size → c1.ow b = c.ow b := fun b hb => by
    show (if some b = some w.heap.size then _ else _) = _
    rw [if_neg (by simp; omega)]
  have hnew : c1.ow w.heap.size = some (.row n) := by show (if _ then _ else _) = _; rw [if_pos rfl]
  have hmem : ∀ b, b < w.heap.size → c.free b → c1.free b ∧ w'.heap[b]? = w.heap[b]? := fun b hb hf => ⟨by unfold Cfg.free; rw [hne b hb]; exact hf, g.old hb⟩
  have over : Over { row := fun m => if m = n then none else some m, box := some } c c1 w w' := by
    refine ⟨fun k m hm => ?_, fun b m hm => by cases hm; rfl, hmem, fun b hb => ?_⟩
    · simp only at hm
      split at hm
      · cases hm
      · rename_i hk; cases hm; show (if _ then _ else _) = _; rw [if_neg hk]
    · rw [g.size]
      by_cases e : b = w.heap.size
      · omega
      · have : c.ow b ≠ none := by
          intro e2; apply hb; show (if some b = some w.heap.size then _ else _) = _; rw [if_neg (by simpa using e)]; exact e2
        have := h.mem.lt b this; omega
  have goes : ∀ r' : Res, Goes c c1 w w' r' r' := fun r' b hb => by
    have hlt := ow_lt h hb
    exact ⟨(hne b hlt).trans hb, g.old hlt⟩
  refine ⟨c1, ?_, ⟨by rw [g.size]; omega, g.os, g.tape, g.output, fun b hb _ => g.old hb, fun b => ?_, fun b r' hb hr => ?_, fun k hk => ⟨by show (if k = n then _ else _) = _; rw [if_neg (by omega)], rfl⟩⟩, fun b hb hc => ⟨g.old hb, fun m => by rw [hne b hb]; exact hc m⟩, ?_⟩
  · unfold St.newRow
    refine h.over over (fun m r' hm => ?_) (fun m cs hm => ?_)
    · simp only [look] at hm
      split at hm
      · rename_i hk; subst hk; cases hm
        right
        refine ⟨some ⟨w.heap.size, 0, none⟩, arr.size, ?_, hlim, .inr ⟨w.heap.size, arr, ty, rfl, hnew, g.last, rfl, hle, fun i x hi => ?_⟩⟩
        · exact addRow_hv ..
        · obtain ⟨u, hu, hx⟩ := he i x hi
          exact ⟨u, hu, FR.move hmem _ _ _ hx⟩
      · rename_i hk
        rw [look_cut_ne _ (Ne.symm hk)] at hm
        exact .inl ⟨m, by simp; exact fun e => hk e.symm, hm, goes _⟩
    · rw [look_map] at hm
      cases hq : look st.boxes m with
      | none => rw [hq] at hm; cases hm
      | some cs0 => rw [hq] at hm; cases hm; exact .inl ⟨m, cs0, rfl, hq, rfl, goes _⟩
  · by_cases e : b = w.heap.size
    · subst e
      rw [hnew]
      constructor
      · intro h; cases h
      · intro h'; have := ow_lt h h'; omega
    · show (if some b = some w.heap.size then _ else _) = _ ↔ _
      rw [if_neg (by simpa using e)]
  · by_cases e : b = w.heap.size
    · right; omega
    · left
      rw [show c1.ow b = c.ow b by show (if some b = some w.heap.size then _ else _) = _; rw [if_neg (by simpa using e)]] at hb
      exact ⟨r', hb, hr⟩
  · exact addRow_hv ..

/-- A new row that is nil. -/
theorem Rel.nilRow (h : Rel st c a w) (n : Nat) (hn : 1000 ≤ n) (e : K) : ∃ c', Rel (st.newRow n ⟨e, []⟩) c' a w ∧ Step c c' w w ∧ Still c c' w w ∧ c'.hv n = .slice none 0 0 ∧ c'.ow = c.ow ∧ (∀ m, m ≠ n → c'.hdr m = c.hdr m) ∧ c'.box = c.box := by
  let c1 := c.addRow n (none, 0, 0) none
  have how : ∀ b, c1.ow b = c.ow b := fun b => by show (if some b = none then some (Res.row n) else c.ow b) = _; rw [if_neg (by simp)]
  have hmem : ∀ b, b < w.heap.size → c.free b → c1.free b ∧ w.heap[b]? = w.heap[b]? := fun b hb hf => ⟨by unfold Cfg.free; rw [how b]; exact hf, rfl⟩
  have over : Over { row := fun m => if m = n then none else some m, box := some } c c1 w w := by
    refine ⟨fun k m hm => ?_, fun b m hm => by cases hm; rfl, hmem, fun b hb => h.mem.lt b (by rw [← how b]; exact hb)⟩
    simp only at hm
    split at hm
    · cases hm
    · rename_i hk; cases hm; show (if _ then _ else _) = _; rw [if_neg hk]
  have goes : ∀ r' : Res, Goes c c1 w w r' r' := fun r' b hb => ⟨(how b).trans hb, rfl⟩
  refine ⟨c1, ?_, ⟨Nat.le_refl _, rfl, rfl, rfl, fun b hb _ => rfl, fun b => by rw [how b], fun b r' hb hr => .inl ⟨r', by rw [← how b]; exact hb, hr⟩, fun k hk => ⟨by show (if k = n then _ else _) = _; rw [if_neg (by omega)], rfl⟩⟩, fun b hb hc => ⟨rfl, fun m => by rw [how b]; exact hc m⟩, ?_, funext how, fun m hm => ?_, rfl⟩
  · unfold St.newRow
    refine h.over over (fun m r' hm => ?_) (fun m cs hm => ?_)
    · simp only [look] at hm
      split at hm
      · rename_i hk; subst hk; cases hm
        right
        refine ⟨none, 0, ?_, by simp [LIM], .inl ⟨rfl, rfl, rfl⟩⟩
        exact addRow_hv ..
      · rename_i hk
        rw [look_cut_ne _ (Ne.symm hk)] at hm
        exact .inl ⟨m, by simp; exact fun e => hk e.symm, hm, goes _⟩
    · rw [look_map] at hm
      cases hq : look st.boxes m with
      | none => rw [hq] at hm; cases hm
      | some cs0 => rw [hq] at hm; cases hm; exact .inl ⟨m, cs0, rfl, hq, rfl, goes _⟩
  · exact addRow_hv ..
  · show (if _ then _ else _) = _; rw [if_neg hm]

/-- A new variable in memory. -/
theorem Rel.newBox (h : Rel st c a w) (b : Nat) (hn : 1000 ≤ b) {cs : List V} {arr : Array Value} {ty : TypeId} (g : Grew w w' (.cells arr ty)) (hcs : LR (CR c w) cs arr.toList) :
    ∃ c', Rel (st.newBox b cs) c' a w' ∧ Step c c' w w' ∧ Still c c' w w' ∧ c'.box b = w.heap.size := by
  let c1 : Cfg := { hdr := c.hdr, box := fun m => if m = b then w.heap.size else c.box m, ow := fun k => if k = w.heap.size then some (.box b) else c.ow k }
  have hne : ∀ k, k < w.heap.size → c1.ow k = c.ow k := fun k hk => by
    show (if k = w.heap.size then _ else _) = _
    rw [if_neg (by omega)]
  have hnew : c1.ow w.heap.size = some (.box b) := by show (if _ then _ else _) = _; rw [if_pos rfl]
  have hbox : c1.box b = w.heap.size := by show (if _ then _ else _) = _; rw [if_pos rfl]
  have hmem : ∀ k, k < w.heap.size → c.free k → c1.free k ∧ w'.heap[k]? = w.heap[k]? := fun k hk hf => ⟨by unfold Cfg.free; rw [hne k hk]; exact hf, g.old hk⟩
  have over : Over { row := some, box := fun m => if m = b then none else some m } c c1 w w' := by
    refine ⟨fun k m hm => by cases hm; rfl, fun k m hm => ?_, hmem, fun k hk => ?_⟩
    · simp only at hm
      split at hm
      · cases hm
      · rename_i hk; cases hm; show (if _ then _ else _) = _; rw [if_neg hk]
    · rw [g.size]
      by_cases e : k = w.heap.size
      · omega
      · have : c.ow k ≠ none := by
          intro e2; apply hk; show (if k = w.heap.size then _ else _) = _; rw [if_neg e]; exact e2
        have := h.mem.lt k this; omega
  have goes : ∀ r' : Res, Goes c c1 w w' r' r' := fun r' k hk => by
    have hlt := ow_lt h hk
    exact ⟨(hne k hlt).trans hk, g.old hlt⟩
  refine ⟨c1, ?_, ⟨by rw [g.size]; omega, g.os, g.tape, g.output, fun k hk _ => g.old hk, fun k => ?_, fun k r' hk hr => ?_, fun k hk => ⟨rfl, by show (if k = b then _ else _) = _; rw [if_neg (by omega)]⟩⟩, fun k hk hc => ⟨g.old hk, fun m => by rw [hne k hk]; exact hc m⟩, hbox⟩
  · unfold St.newBox
    have e : st.rows = st.rows := rfl
    refine h.over over (fun m r' hm => .inl ⟨m, rfl, hm, goes _⟩) (fun m cs' hm => ?_)
    simp only [look] at hm
    split at hm
    · rename_i hk; subst hk; cases hm
      right
      exact ⟨by rw [hbox]; exact hnew, arr, ty, by rw [hbox]; exact g.last, LR.map _ (fun v x hx => over.cr hx) hcs⟩
    · rename_i hk
      rw [look_map, look_cut_ne _ (Ne.symm hk)] at hm
      cases hq : look st.boxes m with
      | none => rw [hq] at hm; cases hm
      | some cs0 => rw [hq] at hm; cases hm; exact .inl ⟨m, cs0, by simp; exact fun e => hk e.symm, hq, rfl, goes _⟩
  · by_cases e : k = w.heap.size
    · subst e
      rw [hnew]
      constructor
      · intro h; cases h
      · intro h'; have := ow_lt h h'; omega
    · show (if k = w.heap.size then _ else _) = _ ↔ _
      rw [if_neg e]
  · by_cases e : k = w.heap.size
    · right; omega
    · left
      rw [show c1.ow k = c.ow k by show (if k = w.heap.size then _ else _) = _; rw [if_neg e]] at hk
      exact ⟨r', hk, hr⟩

/-- The world with one block written. -/
structure Wrote (w w' : World) (g : Nat) (o : Obj) : Prop where
  size : w'.heap.size = w.heap.size
  os : w'.os = w.os
  tape : w'.tape = w.tape
  output : w'.output = w.output
  old : ∀ b, b ≠ g → w'.heap[b]? = w.heap[b]?
  here : w'.heap[g]? = some o

/-- A row takes another's place, in its block: elements behind its own are written. -/
theorem Rel.swapRow (h : Rel st c a w) {n m : Nat} (hn : 1000 ≤ m) {r : Row} {g : Nat} {arr : Array Value} {ty : TypeId} (hg : c.ow g = some (.row n)) (hw : Wrote w w' g (.cells arr ty (0, 0))) (hlim : r.xs.length < LIM) (hle : r.xs.length ≤ arr.size)
    (he : ∀ (i : Nat) x, r.xs[i]? = some x → ∃ u : Value, arr[i]? = some u ∧ FR w c.free r.e x u) :
    ∃ c', Rel (st.swapRow n m r) c' a w' ∧ Step c c' w w' ∧ Still c c' w w' ∧ c'.hv m = .slice (some ⟨g, 0, none⟩) r.xs.length arr.size := by
  let c1 := c.addRow m (some ⟨g, 0, none⟩, r.xs.length, arr.size) (some g)
  have hglt := ow_lt h hg
  have hne : ∀ b, b ≠ g → c1.ow b = c.ow b := fun b hb => by
    show (if some b = some g then _ else _) = _
    rw [if_neg (by simpa using hb)]
  have hnew : c1.ow g = some (.row m) := by show (if _ then _ else _) = _; rw [if_pos rfl]
  have hfg : ∀ b, c.free b → b ≠ g := fun b hb e => by subst e; unfold Cfg.free at hb; rw [hg] at hb; cases hb
  have hmem : ∀ b, b < w.heap.size → c.free b → c1.free b ∧ w'.heap[b]? = w.heap[b]? := fun b hb hf => ⟨by unfold Cfg.free; rw [hne b (hfg b hf)]; exact hf, hw.old _ (hfg b hf)⟩
  have over : Over { row := fun k => if k = n then none else if k = m then none else some k, box := some } c c1 w w' := by
    refine ⟨fun k m' hm => ?_, fun b m hm => by cases hm; rfl, hmem, fun b hb => ?_⟩
    · simp only at hm
      split at hm
      · cases hm
      · split at hm
        · cases hm
        · rename_i hk; cases hm; show (if _ then _ else _) = _; rw [if_neg hk]
    · rw [hw.size]
      by_cases e : b = g
      · subst e; exact hglt
      · exact h.mem.lt b (by rw [← hne b e]; exact hb)
  have goes : ∀ r' : Res, r' ≠ .row n → Goes c c1 w w' r' r' := fun r' hr' b hb => by
    have : b ≠ g := fun e => by subst e; rw [hg] at hb; cases hb; exact hr' rfl
    exact ⟨(hne b this).trans hb, hw.old _ this⟩
  refine ⟨c1, ?_, ⟨by rw [hw.size]; exact Nat.le_refl _, hw.os, hw.tape, hw.output, fun b hb hc => hw.old _ (fun e => by subst e; rw [hg] at hc; rcases hc with hc | hc <;> cases hc), fun b => ?_, fun b r' hb hr => ?_, fun k hk => ⟨by show (if k = m then _ else _) = _; rw [if_neg (by omega)], rfl⟩⟩,
    fun b hb hc => ?_, ?_⟩
  · unfold St.swapRow
    refine h.over over (fun k r' hm => ?_) (fun k cs hm => ?_)
    · simp only [look] at hm
      split at hm
      · rename_i hk; subst hk; cases hm
        right
        refine ⟨some ⟨g, 0, none⟩, arr.size, ?_, hlim, .inr ⟨g, arr, ty, rfl, hnew, hw.here, rfl, hle, fun i x hi => ?_⟩⟩
        · exact addRow_hv ..
        · obtain ⟨u, hu, hx⟩ := he i x hi
          exact ⟨u, hu, FR.move hmem _ _ _ hx⟩
      · rename_i hk
        rw [look_cut_ne _ (Ne.symm hk)] at hm
        by_cases hkn : k = n
        · subst hkn; rw [look_cut_same] at hm; cases hm
        · rw [look_cut_ne _ hkn] at hm
          exact .inl ⟨k, by simp [hkn]; exact fun e => hk e.symm, hm, goes _ (by intro e; cases e; exact hkn rfl)⟩
    · rw [look_map] at hm
      cases hq : look st.boxes k with
      | none => rw [hq] at hm; cases hm
      | some cs0 => rw [hq] at hm; cases hm; exact .inl ⟨k, cs0, rfl, hq, rfl, goes _ (by intro e; cases e)⟩
  · by_cases e : b = g
    · subst e; rw [hnew, hg]; simp
    · rw [hne b e]
  · by_cases e : b = g
    · subst e; exact .inl ⟨_, hg, by simp⟩
    · rw [hne b e] at hb; exact .inl ⟨r', hb, hr⟩
  · have : b ≠ g := fun e => by subst e; exact hc n hg
    exact ⟨hw.old _ this, fun k => by rw [hne b this]; exact hc k⟩
  · exact addRow_hv ..

/-- A row moves into a new block. -/
theorem Rel.swapRowNew (h : Rel st c a w) {n m : Nat} (hn : 1000 ≤ m) {r : Row} {arr : Array Value} {ty : TypeId} (g : Grew w w' (.cells arr ty)) (hlim : r.xs.length < LIM) (hle : r.xs.length ≤ arr.size)
    (he : ∀ (i : Nat) x, r.xs[i]? = some x → ∃ u : Value, arr[i]? = some u ∧ FR w c.free r.e x u) :
    ∃ c', Rel (st.swapRow n m r) c' a w' ∧ Step c c' w w' ∧ Still c c' w w' ∧ c'.hv m = .slice (some ⟨w.heap.size, 0, none⟩) r.xs.length arr.size := by
  let c1 := c.addRow m (some ⟨w.heap.size, 0, none⟩, r.xs.length, arr.size) (some w.heap.size)
  have hne : ∀ b, b < w.heap.size → c1.ow b = c.ow b := fun b hb => by
    show (if some b = some w.heap.size then _ else _) = _
    rw [if_neg (by simp; omega)]
  have hnew : c1.ow w.heap.size = some (.row m) := by show (if _ then _ else _) = _; rw [if_pos rfl]
  have hmem : ∀ b, b < w.heap.size → c.free b → c1.free b ∧ w'.heap[b]? = w.heap[b]? := fun b hb hf => ⟨by unfold Cfg.free; rw [hne b hb]; exact hf, g.old hb⟩
  have over : Over { row := fun k => if k = n then none else if k = m then none else some k, box := some } c c1 w w' := by
    refine ⟨fun k m' hm => ?_, fun b m hm => by cases hm; rfl, hmem, fun b hb => ?_⟩
    · simp only at hm
      split at hm
      · cases hm
      · split at hm
        · cases hm
        · rename_i hk; cases hm; show (if _ then _ else _) = _; rw [if_neg hk]
    · rw [g.size]
      by_cases e : b = w.heap.size
      · omega
      · have : c.ow b ≠ none := by
          intro e2; apply hb; show (if some b = some w.heap.size then _ else _) = _; rw [if_neg (by simpa using e)]; exact e2
        have := h.mem.lt b this; omega
  have goes : ∀ r' : Res, Goes c c1 w w' r' r' := fun r' b hb => by
    have hlt := ow_lt h hb
    exact ⟨(hne b hlt).trans hb, g.old hlt⟩
  refine ⟨c1, ?_, ⟨by rw [g.size]; omega, g.os, g.tape, g.output, fun b hb _ => g.old hb, fun b => ?_, fun b r' hb hr => ?_, fun k hk => ⟨by show (if k = m then _ else _) = _; rw [if_neg (by omega)], rfl⟩⟩, fun b hb hc => ⟨g.old hb, fun m => by rw [hne b hb]; exact hc m⟩, ?_⟩
  · unfold St.swapRow
    refine h.over over (fun k r' hm => ?_) (fun k cs hm => ?_)
    · simp only [look] at hm
      split at hm
      · rename_i hk; subst hk; cases hm
        right
        refine ⟨some ⟨w.heap.size, 0, none⟩, arr.size, ?_, hlim, .inr ⟨w.heap.size, arr, ty, rfl, hnew, g.last, rfl, hle, fun i x hi => ?_⟩⟩
        · exact addRow_hv ..
        · obtain ⟨u, hu, hx⟩ := he i x hi
          exact ⟨u, hu, FR.move hmem _ _ _ hx⟩
      · rename_i hk
        rw [look_cut_ne _ (Ne.symm hk)] at hm
        by_cases hkn : k = n
        · subst hkn; rw [look_cut_same] at hm; cases hm
        · rw [look_cut_ne _ hkn] at hm
          exact .inl ⟨k, by simp [hkn]; exact fun e => hk e.symm, hm, goes _⟩
    · rw [look_map] at hm
      cases hq : look st.boxes k with
      | none => rw [hq] at hm; cases hm
      | some cs0 => rw [hq] at hm; cases hm; exact .inl ⟨k, cs0, rfl, hq, rfl, goes _⟩
  · by_cases e : b = w.heap.size
    · subst e
      rw [hnew]
      constructor
      · intro h; cases h
      · intro h'; have := ow_lt h h'; omega
    · show (if some b = some w.heap.size then _ else _) = _ ↔ _
      rw [if_neg (by simpa using e)]
  · by_cases e : b = w.heap.size
    · right; omega
    · left
      rw [show c1.ow b = c.ow b by show (if some b = some w.heap.size then _ else _) = _; rw [if_neg (by simpa using e)]] at hb
      exact ⟨r', hb, hr⟩
  · exact addRow_hv ..

/-- A row without memory goes, another one without memory comes. -/
theorem Rel.swapNil (h : Rel st c a w) {n m : Nat} (hn : 1000 ≤ m) {e : K} : ∃ c', Rel (st.swapRow n m ⟨e, []⟩) c' a w ∧ Step c c' w w ∧ Still c c' w w ∧ c'.hv m = .slice none 0 0 := by
  let c1 := c.addRow m (none, 0, 0) none
  have how : ∀ b, c1.ow b = c.ow b := fun b => by show (if some b = none then some (Res.row m) else c.ow b) = _; rw [if_neg (by simp)]
  have hmem : ∀ b, b < w.heap.size → c.free b → c1.free b ∧ w.heap[b]? = w.heap[b]? := fun b hb hf => ⟨by unfold Cfg.free; rw [how b]; exact hf, rfl⟩
  have over : Over { row := fun k => if k = n then none else if k = m then none else some k, box := some } c c1 w w := by
    refine ⟨fun k m' hm => ?_, fun b m hm => by cases hm; rfl, hmem, fun b hb => h.mem.lt b (by rw [← how b]; exact hb)⟩
    simp only at hm
    split at hm
    · cases hm
    · split at hm
      · cases hm
      · rename_i hk; cases hm; show (if _ then _ else _) = _; rw [if_neg hk]
  have goes : ∀ r' : Res, Goes c c1 w w r' r' := fun r' b hb => ⟨(how b).trans hb, rfl⟩
  refine ⟨c1, ?_, ⟨Nat.le_refl _, rfl, rfl, rfl, fun b hb _ => rfl, fun b => by rw [how b], fun b r' hb hr => .inl ⟨r', by rw [← how b]; exact hb, hr⟩, fun k hk => ⟨by show (if k = m then _ else _) = _; rw [if_neg (by omega)], rfl⟩⟩, fun b hb hc => ⟨rfl, fun m => by rw [how b]; exact hc m⟩, ?_⟩
  · unfold St.swapRow
    refine h.over over (fun k r' hm => ?_) (fun k cs hm => ?_)
    · simp only [look] at hm
      split at hm
      · rename_i hk; subst hk; cases hm
        right
        refine ⟨none, 0, ?_, by simp [LIM], .inl ⟨rfl, rfl, rfl⟩⟩
        exact addRow_hv ..
      · rename_i hk
        rw [look_cut_ne _ (Ne.symm hk)] at hm
        by_cases hkn : k = n
        · subst hkn; rw [look_cut_same] at hm; cases hm
        · rw [look_cut_ne _ hkn] at hm
          exact .inl ⟨k, by simp [hkn]; exact fun e => hk e.symm, hm, goes _⟩
    · rw [look_map] at hm
      cases hq : look st.boxes k with
      | none => rw [hq] at hm; cases hm
      | some cs0 => rw [hq] at hm; cases hm; exact .inl ⟨k, cs0, rfl, hq, rfl, goes _⟩
  · exact addRow_hv ..

end
end Go.VS
/- What is written: an element of a row, cells of a variable. -/
set_option linter.unusedVariables false
set_option linter.unusedSimpArgs false
namespace Go.VS
section
variable {P : Program} {cx : Cx} {st : St} {c c' c'' : Cfg} {a : Act} {w w' w'' : World} {gs : List (Nat × Bool)}

/-- The same names in another world. -/
structure OverS (c c' : Cfg) (w w' : World) : Prop where
  hdr : ∀ n, c'.hdr n = c.hdr n
  box : ∀ b, c'.box b = c.box b
  free : ∀ b, b < w.heap.size → c.free b → c'.free b ∧ w'.heap[b]? = w.heap[b]?
  lt : ∀ b, c'.ow b ≠ none → b < w'.heap.size

theorem OverS.hv (o : OverS c c' w w') (n : Nat) : c'.hv n = c.hv n := by unfold Cfg.hv; rw [o.hdr]

theorem OverS.cr (o : OverS c c' w w') {v : V} {x : Value} (h : CR c w v x) : CR c' w' v x := by
  cases v with
  | row n => exact Eq.trans h (o.hv n).symm
  | view n lo hi => obtain ⟨A, len, cap, h1, h2⟩ := h; exact ⟨A, len, cap, (o.hv n).trans h1, h2⟩
  | el n i => obtain ⟨g, len, cap, h1, h2⟩ := h; exact ⟨g, len, cap, (o.hv n).trans h1, h2⟩
  | ptr b i => have : x = _ := h; subst this; show _ = _; rw [o.box]
  | sl e xs => exact FR.move o.free _ _ _ h
  | fel e xs i =>
    obtain ⟨y, u, ad, h1, h2, h3, h4, h5⟩ := h
    obtain ⟨h6, h7⟩ := o.free _ (cell_lt h4) h3
    exact ⟨y, u, ad, h1, h2, h6, (cell_agree h7).trans h4, FR.move o.free _ _ _ h5⟩
  | fp cs i =>
    obtain ⟨g, arr, ty, fz, h1, h2, h3, h4⟩ := h
    obtain ⟨h6, h7⟩ := o.free _ (Array.getElem?_eq_some_iff.1 h3).1 h2
    exact ⟨g, arr, ty, fz, h1, h6, h7.trans h3, LR.mono (fun v x hx => FC.move o.free hx) h4⟩
  | _ => first | exact h | exact h.elim | trivial

theorem OverS.ar (o : OverS c c' w w') {v : V} {x : Value} (h : AR c w v x) : AR c' w' v x := by
  cases v with
  | agg vs => obtain ⟨cs, h1, h2⟩ := h; exact ⟨cs, h1, LR.mono (fun v x hx => o.cr hx) h2⟩
  | clo _ _ _ => exact h.elim
  | tup _ => exact h.elim
  | _ => exact CR.ar (o.cr (by exact h))

theorem OverS.cl (o : OverS c c' w w') {v : V} {x : Value} (h : ClR c w v x) : ClR c' w' v x := by
  cases v with
  | clo f fi ca => obtain ⟨a, b, h1, h2, h3⟩ := h; exact ⟨a, b, h1, LR.mono (fun v x hx => o.ar hx) h2, LR.mono (fun v x hx => o.ar hx) h3⟩
  | tup _ => exact h.elim
  | _ => exact AR.clr (o.ar (by exact h))

theorem OverS.tr (o : OverS c c' w w') {v : V} {x : Value} (h : TR c w v x) : TR c' w' v x := by
  cases v with
  | tup vs => obtain ⟨cs, h1, h2⟩ := h; exact ⟨cs, h1, LR.mono (fun v x hx => o.cl hx) h2⟩
  | _ => exact ClR.tr (o.cl (by exact h))

/-- The whole state goes over, its names as they are. -/
theorem Rel.overS (h : Rel st c a w) (o : OverS c c' w w') {rows' : List (Nat × Row)} {boxes' : List (Nat × List V)}
    (hr : ∀ m r, look rows' m = some r → (look st.rows m = some r ∧ Goes c c' w w' (.row m) (.row m)) ∨ OwnR c' w' m r)
    (hb : ∀ m cs, look boxes' m = some cs → (look st.boxes m = some cs ∧ Goes c c' w w' (.box m) (.box m)) ∨ BoxR c' w' m cs) :
    Rel { st with rows := rows', boxes := boxes' } c' a w' := by
  refine ⟨⟨fun m r hm => ?_, fun m cs hm => ?_, o.lt⟩, h.size, fun i => ?_, h.defers⟩
  · rcases hr m r hm with ⟨h2, ho⟩ | h'
    · obtain ⟨A, cap, e1, e2, e3⟩ := h.mem.rows _ _ h2
      refine ⟨A, cap, (o.hv m).trans e1, e2, ?_⟩
      rcases e3 with e3 | ⟨g, arr, ty, h4, h5, h6, h7, h8, h9⟩
      · exact .inl e3
      · obtain ⟨h10, h11⟩ := ho _ h5
        refine .inr ⟨g, arr, ty, h4, h10, h11.trans h6, h7, h8, fun i x hi => ?_⟩
        obtain ⟨u, hu, hx⟩ := h9 i x hi
        exact ⟨u, hu, FR.move o.free _ _ _ hx⟩
    · exact h'
  · rcases hb m cs hm with ⟨h2, ho⟩ | h'
    · obtain ⟨h1, arr, ty, h2, h3⟩ := h.mem.boxes _ _ h2
      obtain ⟨h4, h5⟩ := ho _ h1
      exact ⟨by rw [o.box]; exact h4, arr, ty, by rw [o.box, h5]; exact h2, LR.mono (fun v x hx => o.cr hx) h3⟩
    · exact h'
  · have := h.slot i
    unfold SlotR at this ⊢
    simp only
    split
    · rename_i hq; rw [hq] at this; exact o.tr this
    · rename_i t b hq
      rw [hq] at this
      rcases this with h1 | ⟨h1, h2⟩ | h1
      · exact .inl h1
      · exact .inr (.inl ⟨h1, o.tr h2⟩)
      · exact .inr (.inr h1)

/-- A block of one's own is written: everything else is as it was. -/
theorem wrote_step (h : Rel st c a w) {g : Nat} {r : Res} {o : Obj} (hg : c.ow g = some r) (hr : r ≠ .ext) (hw : Wrote w w' g o) : OverS c c w w' ∧ Step c c w w' ∧ (∀ r', r' ≠ r → Goes c c w w' r' r') ∧ ((∃ n, r = .row n) → Still c c w w') := by
  have hfg : ∀ b, c.ow b ≠ some r → b ≠ g := fun b hb e => by subst e; exact hb hg
  refine ⟨⟨fun _ => rfl, fun _ => rfl, fun b hb hf => ⟨hf, hw.old _ (hfg b (by unfold Cfg.free at hf; rw [hf]; simp))⟩, fun b hb => by rw [hw.size]; exact h.mem.lt b hb⟩,
    ⟨by rw [hw.size]; exact Nat.le_refl _, hw.os, hw.tape, hw.output, fun b hb hc => hw.old _ (hfg b ?_), fun _ => Iff.rfl, fun b r' hb hne => .inl ⟨r', hb, hne⟩, fun _ _ => ⟨rfl, rfl⟩⟩,
    fun r' hne b hb => ⟨hb, hw.old _ (hfg b (by rw [hb]; simpa using hne))⟩, fun ⟨n, hn⟩ b hb hc => ⟨hw.old _ (hfg b (by rw [hn]; exact hc n)), hc⟩⟩
  rcases hc with hc | hc
  · rw [hc]; simp
  · rw [hc]; simp; exact fun e => hr e.symm

theorem Rel.storeRow (h : Rel st c a w) {n : Nat} {r : Row} (hr : look st.rows n = some r) {i : Nat} {x : r.e.T} {u : Value} (hi : i < r.xs.length) (hx : FR w c.free r.e x u) (hu : u.oneCell' = true) :
    ∃ g len cap, c.hv n = .slice (some ⟨g, 0, none⟩) len cap ∧ ∀ (P : Program), (store ⟨g, i, none⟩ u).run P w = .ok () (w.setCell ⟨g, i, none⟩ u) ∧
      Rel { st with rows := (n, ⟨r.e, r.xs.set i x⟩) :: cut st.rows n } c a (w.setCell ⟨g, i, none⟩ u) ∧ Step c c w (w.setCell ⟨g, i, none⟩ u) := by
  obtain ⟨A, cap, e1, e2, e3⟩ := h.mem.rows _ _ hr
  rcases e3 with ⟨_, e4, _⟩ | ⟨g, arr, ty, rfl, h5, h6, h7, h8, h9⟩
  · rw [e4] at hi; simp at hi
  · refine ⟨g, _, cap, e1, fun P => ?_⟩
    have hlt : i < arr.size := by omega
    have hcell : w.cell? ⟨g, i, none⟩ = some arr[i] := by rw [heap_cell h6]; simp [hlt]
    have hfz : w.frozen? ⟨g, i, none⟩ = false := by unfold World.frozen?; simp [h6]
    have hg := ow_lt h h5
    have hw : Wrote w (w.setCell ⟨g, i, none⟩ u) g (.cells (arr.setIfInBounds i u) ty (0, 0)) := by
      refine ⟨by simp [World.setCell], rfl, rfl, rfl, fun b hb => ?_, ?_⟩
      · simp only [World.setCell, Array.getElem?_modify]
        rw [if_neg (fun e => hb e.symm)]
      · simp only [World.setCell, Array.getElem?_modify, if_true, h6, Option.map_some]
        rfl
    obtain ⟨o, s, gs, _⟩ := wrote_step h h5 (by simp) hw
    refine ⟨?_, ?_, s⟩
    · rw [run_store _ _ _ _ _ hu, hcell]
      simp [hfz]
    · refine h.overS o (fun m r' hm => ?_) (fun m cs hm => .inl ⟨hm, gs _ (by simp)⟩)
      simp only [look] at hm
      split at hm
      · rename_i hk; subst hk; cases hm
        right
        refine ⟨_, cap, by simpa using e1, by simpa using e2, .inr ⟨g, arr.setIfInBounds i u, ty, rfl, h5, hw.here, by simpa using h7, by simpa using h8, fun j y hj => ?_⟩⟩
        by_cases hij : i = j
        · subst hij
          simp [hi] at hj
          subst hj
          exact ⟨u, by simp [hlt], FR.move o.free _ _ _ hx⟩
        · simp only [List.getElem?_set, if_neg hij] at hj
          obtain ⟨u', hu', hx'⟩ := h9 j y hj
          exact ⟨u', by rw [Array.getElem?_setIfInBounds_ne hij]; exact hu', FR.move o.free _ _ _ hx'⟩
      · rename_i hk
        rw [look_cut_ne _ (Ne.symm hk)] at hm
        exact .inl ⟨hm, gs _ (by intro e; cases e; exact hk rfl)⟩

/-- Cells written one after the other, in one block. -/
theorem storeCells_run {g : Nat} {ty : TypeId} (P : Program) (o : Nat) : ∀ (us : List Value) (j : Nat) (w : World) (arr : Array Value), w.heap[g]? = some (.cells arr ty (0, 0)) → (∀ u ∈ us, u.oneCell' = true) → o + j + us.length ≤ arr.size →
    ∃ w', (storeCells ⟨g, o, none⟩ us j).run P w = .ok () w' ∧ Wrote w w' g (.cells ((us.zipIdx j).foldl (fun (a : Array Value) (p : Value × Nat) => a.setIfInBounds (o + p.2) p.1) arr) ty (0, 0))
  | [], j, w, arr, h, _, _ => ⟨w, rfl, rfl, rfl, rfl, rfl, fun _ _ => rfl, h⟩
  | u :: us, j, w, arr, h, hu, hl => by
    simp only [List.length_cons] at hl
    have hadd : (⟨g, o, none⟩ : Addr).add j = ⟨g, o + j, none⟩ := by unfold Addr.add; split <;> simp_all
    have hlt : o + j < arr.size := by omega
    have hcell : w.cell? ⟨g, o + j, none⟩ = some arr[o + j] := by rw [heap_cell h]; simp [hlt]
    have hfz : w.frozen? ⟨g, o + j, none⟩ = false := by unfold World.frozen?; simp [h]
    have h1 : (w.setCell ⟨g, o + j, none⟩ u).heap[g]? = some (.cells (arr.setIfInBounds (o + j) u) ty (0, 0)) := by
      simp only [World.setCell, Array.getElem?_modify, if_true, h, Option.map_some]
      rfl
    obtain ⟨w', hrun, hw⟩ := storeCells_run P o us (j + 1) (w.setCell ⟨g, o + j, none⟩ u) (arr.setIfInBounds (o + j) u) h1 (fun v hv => hu v (List.mem_cons_of_mem _ hv)) (by simp; omega)
    refine ⟨w', ?_, ?_⟩
    · unfold storeCells
      rw [Sem.run_bind, hadd, run_store _ _ _ _ _ (hu u (List.mem_cons_self ..)), hcell]
      simp [hfz, hrun]
    · refine ⟨by rw [hw.size]; simp [World.setCell], hw.os, hw.tape, hw.output, fun b hb => ?_, ?_⟩
      · rw [hw.old b hb]
        simp only [World.setCell, Array.getElem?_modify]
        rw [if_neg (fun e => hb e.symm)]
      · rw [hw.here]; rfl

theorem oneCell_of {v : V} {x : Value} (h : CR c w v x) (hv : v.isCell = true) : x.oneCell' = true := by
  cases v with
  | int k n => have : x = _ := h; subst this; rfl
  | bool b => have : x = _ := h; subst this; rfl
  | str s => have : x = _ := h; subst this; rfl
  | sl e xs => obtain ⟨A, cap, rfl, _⟩ := h; rfl
  | snil => have : x = _ := h; subst this; rfl
  | row n => have : x = _ := h; subst this; rfl
  | fnil => have : x = _ := h; subst this; rfl
  | _ => simp [V.isCell] at hv

theorem LR.all {vs : List V} {xs : List Value} (h : LR (CR c w) vs xs) (hc : ∀ v ∈ vs, v.isCell = true) : ∀ x ∈ xs, x.oneCell' = true := by
  induction vs generalizing xs with
  | nil => cases xs with
    | nil => simp
    | cons => exact h.elim
  | cons v vs ih => cases xs with
    | nil => exact h.elim
    | cons x xs =>
      intro y hy
      rcases List.mem_cons.1 hy with rfl | hy
      · exact oneCell_of h.1 (hc _ (List.mem_cons_self ..))
      · exact ih h.2 (fun v hv => hc v (List.mem_cons_of_mem _ hv)) y hy

theorem Rel.storeBox (h : Rel st c a w) {b o : Nat} {cs cs' vs : List V} (hb : look st.boxes b = some cs) (hp : putAt cs o vs = some cs') (hne : vs ≠ []) {us : List Value} (hvs : LR (CR c w) vs us) (P : Program) :
    ∃ w', (storeCells ⟨c.box b, o, none⟩ us).run P w = .ok () w' ∧ Rel { st with boxes := (b, cs') :: cut st.boxes b } c a w' ∧ Step c c w w' := by
  obtain ⟨h1, arr, ty, h2, h3⟩ := h.mem.boxes _ _ hb
  have hcell := putAt_cells hp
  have hle := (putAt_le hp).resolve_left hne
  have hl3 := LR.length h3
  have hlv := LR.length hvs
  simp only [Array.length_toList] at hl3
  obtain ⟨w', hrun, hw⟩ := storeCells_run P o us 0 w arr h2 (LR.all hvs hcell) (by omega)
  obtain ⟨ov, s, gs, _⟩ := wrote_step h h1 (by simp) hw
  refine ⟨w', hrun, ?_, s⟩
  refine h.overS ov (fun m r' hm => .inl ⟨hm, gs _ (by simp)⟩) (fun m cs1 hm => ?_)
  simp only [look] at hm
  split at hm
  · rename_i hk; subst hk; cases hm
    right
    exact ⟨h1, _, ty, hw.here, LR.mono (fun v x hx => ov.cr hx) (putAt_lr o 0 hvs h3 (by simpa using hp))⟩
  · rename_i hk
    rw [look_cut_ne _ (Ne.symm hk)] at hm
    exact .inl ⟨hm, gs _ (by intro e; cases e; exact hk rfl)⟩

end
end Go.VS
