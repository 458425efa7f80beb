/- Appending. -/
import Derived.Test.YtnibmainjgcmaaaV4
set_option linter.unusedVariables false
set_option linter.unusedSimpArgs false
namespace Go.VS
section
variable {P : Program} {cx : Cx} {st : St} {c c' c'' : Cfg} {a : Act} {w w' w'' : World} {gs : List (Nat × Bool)}

/-- What a slice value holds, cell by cell. -/
structure Reads (w : World) (fr : Nat → Prop) (e : K) (ys : List e.T) (x : Value) (us : List Value) : Prop where
  len : us.length = ys.length
  val : ∃ A cap, x = .slice A ys.length cap ∧ (0 < ys.length → ∃ ad, A = some ad ∧ ∀ (j : Nat) v, us[j]? = some v → w.cell? (ad.add j) = some v)
  elem : ∀ (i : Nat) y, ys[i]? = some y → ∃ u, us[i]? = some u ∧ FR w fr e y u

theorem FR.one {w : World} {fr : Nat → Prop} {e : K} {x : e.T} {u : Value} (h : FR w fr e x u) : u.oneCell' = true ∧ u.cells = #[u] := by
  cases e with
  | int k => have : u = _ := h; subst this; exact ⟨rfl, rfl⟩
  | bool => have : u = _ := h; subst this; exact ⟨rfl, rfl⟩
  | str => have : u = _ := h; subst this; exact ⟨rfl, rfl⟩
  | sl e => obtain ⟨A, cap, rfl, _⟩ := h; exact ⟨rfl, rfl⟩

theorem Reads.of_frozen {fr : Nat → Prop} {e : K} {ys : List e.T} {x : Value} (h : FR w fr (.sl e) ys x) : ∃ us, Reads w fr e ys x us := by
  obtain ⟨A, cap, h1, h2, h3, h4⟩ := h
  by_cases h0 : 0 < ys.length
  · obtain ⟨ad, ha, hf, hc⟩ := h4 h0
    have hex : ∀ i : Fin ys.length, ∃ u, w.cell? (ad.add i) = some u ∧ FR w fr e ys[i] u := fun i => hc i ys[i] (by simp)
    refine ⟨(List.finRange ys.length).map fun i => (hex i).choose, by simp, ⟨A, cap, h1, fun _ => ⟨ad, ha, fun j v hj => ?_⟩⟩, fun i y hi => ?_⟩
    · have hlt : j < ys.length := by have := (List.getElem?_eq_some_iff.1 hj).1; simpa using this
      simp [hlt] at hj
      rw [← hj]
      exact (hex ⟨j, hlt⟩).choose_spec.1
    · have hlt := (List.getElem?_eq_some_iff.1 hi).1
      refine ⟨(hex ⟨i, hlt⟩).choose, by simp [hlt], ?_⟩
      have := (hex ⟨i, hlt⟩).choose_spec.2
      have e1 : ys[i] = y := by simpa [hlt] using hi
      rw [← e1]; exact this
  · have : ys = [] := by cases ys with | nil => rfl | cons => simp at h0
    subst this
    exact ⟨[], rfl, ⟨A, cap, h1, fun h => by simp at h⟩, fun i y hi => by simp at hi⟩

theorem Reads.weaken {fr fr' : Nat → Prop} {e : K} {ys : List e.T} {x : Value} {us : List Value} (h : ∀ b, fr b → fr' b) (hr : Reads w fr e ys x us) : Reads w fr' e ys x us :=
  ⟨hr.len, hr.val, fun i y hi => let ⟨u, hu, hx⟩ := hr.elem i y hi; ⟨u, hu, FR.weaken h _ _ _ hx⟩⟩

theorem OwnR.fr {n : Nat} {r : Row} (h : OwnR c w n r) : ∀ (i : Nat) x, r.xs[i]? = some x → ∃ u, FR w c.free r.e x u := by
  obtain ⟨A, cap, h1, h2, h3⟩ := h
  intro i x hi
  rcases h3 with ⟨_, h4, _⟩ | ⟨g, arr, ty, rfl, h5, h6, h7, h8, h9⟩
  · rw [h4] at hi; simp at hi
  · obtain ⟨u, _, hx⟩ := h9 i x hi; exact ⟨u, hx⟩

/-- A row of one's own, read; its elements avoid what is one's own. -/
theorem Reads.of_own {n : Nat} {r : Row} (h : OwnR c w n r) {lo hi : Nat} (h1 : lo ≤ hi) (h2 : hi ≤ r.xs.length) {x : Value} (hx : ∃ A len cap, c.hv n = .slice A len cap ∧ x = .slice (if cap = lo then A else A.map (·.add lo)) (hi - lo) (cap - lo)) :
    ∃ us, Reads w c.free r.e (r.part lo hi) x us := by
  obtain ⟨A, cap, e1, e2, e3⟩ := h
  obtain ⟨A', len', cap', e4, rfl⟩ := hx
  rw [e1] at e4
  cases e4
  have hlen : (r.part lo hi).length = hi - lo := by simp [Row.part]; omega
  rcases e3 with ⟨rfl, e5, rfl⟩ | ⟨g, arr, ty, rfl, h5, h6, h7, h8, h9⟩
  · have : hi = 0 := by rw [e5] at h2; simpa using h2
    subst this
    refine ⟨[], by rw [hlen]; simp, ⟨_, _, by rw [hlen], fun h => by rw [hlen] at h; omega⟩, fun i y hi => ?_⟩
    have := (List.getElem?_eq_some_iff.1 hi).1
    rw [hlen] at this; omega
  · refine ⟨(arr.toList.take hi).drop lo, by rw [hlen]; simp; omega, ⟨_, _, by rw [hlen], fun hpos => ?_⟩, fun i y hi' => ?_⟩
    · rw [hlen] at hpos
      refine ⟨⟨g, lo, none⟩, ?_, fun j v hj => ?_⟩
      · rw [if_neg (by omega)]
        simp [Addr.add]
        intro e; exact e.symm
      · have hadd : (⟨g, lo, none⟩ : Addr).add j = ⟨g, lo + j, none⟩ := by unfold Addr.add; split <;> simp_all
        rw [hadd, heap_cell h6]
        rw [List.getElem?_drop, List.getElem?_take] at hj
        split at hj
        · simpa using hj
        · cases hj
    · unfold Row.part at hi'
      rw [List.getElem?_drop, List.getElem?_take] at hi'
      split at hi'
      · rename_i hlt
        obtain ⟨u, hu, hx⟩ := h9 _ _ hi'
        refine ⟨u, ?_, hx⟩
        rw [List.getElem?_drop, List.getElem?_take, if_pos hlt]
        simpa using hu
      · cases hi'

theorem Row.part_all (r : Row) : r.part 0 r.xs.length = r.xs := by simp [Row.part]

theorem Reads.cast {fr : Nat → Prop} {e e' : K} (h : e = e') {ys : List e.T} {x : Value} {us : List Value} (hr : Reads w fr e ys x us) : Reads w fr e' (castL h ys) x us := by
  subst h; exact hr

theorem content_reads (h : Rel st c a w) {e : K} {y : V} {x : Value} {ys : List e.T} (hy : TR c w y x) (hc : rowContent st e y = some ys) : ∃ us, Reads w c.free e ys x us := by
  unfold rowContent at hc
  split at hc
  · cases hc
    have : x = _ := hy
    subst this
    exact ⟨[], rfl, ⟨none, 0, rfl, fun h => by simp at h⟩, fun i y hi => by simp at hi⟩
  · split at hc
    · cases hc
      obtain ⟨us, hu⟩ := Reads.of_frozen (show FR w c.free (.sl _) _ x from hy)
      exact ⟨us, hu.cast _⟩
    · cases hc
  · rename_i n
    split at hc
    · rename_i r hr
      split at hc
      · cases hc
        have hown := h.mem.rows _ _ hr
        obtain ⟨A, cap, e1, _⟩ := id hown
        have hx : x = c.hv n := hy
        obtain ⟨us, hu⟩ := Reads.of_own hown (Nat.zero_le _) (Nat.le_refl _) (x := x) ⟨A, _, cap, e1, by
          rw [hx, e1]
          cases A with
          | none => simp
          | some ad => simp [Addr.add]⟩
        rw [Row.part_all] at hu
        exact ⟨us, hu.cast _⟩
      · cases hc
    · cases hc
  · rename_i n lo hi
    split at hc
    · rename_i r hr
      split at hc
      · cases hc
        have hown := h.mem.rows _ _ hr
        obtain ⟨A, len, cap, e1, e2, e3, e4⟩ := hy
        obtain ⟨A', cap', e5, _⟩ := id hown
        rw [e1] at e5
        cases e5
        obtain ⟨us, hu⟩ := Reads.of_own hown e2 e3 (x := x) ⟨A, _, cap, e1, e4⟩
        exact ⟨us, hu.cast _⟩
      · cases hc
    · cases hc
  · cases hc

theorem firstCells_run {fr : Nat → Prop} {e : K} {ys : List e.T} {x : Value} {us : List Value} (h : Reads w fr e ys x us) (P : Program) : (Builtin.firstCells 1 ys.length x).run P w = .ok us.toArray w := by
  obtain ⟨A, cap, rfl, h1⟩ := h.val
  cases A with
  | none =>
    have : ys.length = 0 := by
      rcases Nat.eq_zero_or_pos ys.length with h0 | h0
      · exact h0
      · obtain ⟨ad, ha, _⟩ := h1 h0; cases ha
    have : us = [] := by have := h.len; exact List.eq_nil_of_length_eq_zero (by omega)
    subst this
    simp [Builtin.firstCells]
  | some ad =>
    simp only [Builtin.firstCells, Nat.mul_one]
    rw [← h.len]
    refine run_loadCells_list w ad us fun j v hj => ?_
    have : 0 < ys.length := by rw [← h.len]; exact Nat.lt_of_le_of_lt (Nat.zero_le _) (List.getElem?_eq_some_iff.1 hj).1
    obtain ⟨ad', ha, hc⟩ := h1 this
    cases ha
    exact hc j v hj

theorem growBy_le (n : Nat) : ∀ (k c : Nat), c < n + (n + 768) / 4 + 1 → Builtin.growBy n k c ≤ n + (n + 768) / 4
  | 0, c, h => by simp only [Builtin.growBy]; omega
  | k + 1, c, h => by
    simp only [Builtin.growBy]
    split
    · omega
    · rename_i hc
      exact growBy_le n k _ (by omega)

theorem nextcap_le {need cap : Nat} (h : cap < need) : Builtin.nextslicecap need cap ≤ need + (need + 768) / 4 + 512 := by
  unfold Builtin.nextslicecap
  split
  · omega
  · split
    · omega
    · have := growBy_le need 4 cap (by omega)
      omega

theorem zeroCells_size (z : Value) (n : Nat) : (Builtin.zeroCells #[z] n).size = n := by simp [Builtin.zeroCells]

structure ElemOk (P : Program) (t eT : TypeId) (z : Value) : Prop where
  under : P.underlying t = some (.slice eT)
  info : ∃ i, P.info? eT = some i ∧ i.size = 1 ∧ i.bytes ≤ 24 ∧ i.zero = some z
  cell : z.cells = #[z]

/-- What append comes to: in place, or in a new block. -/
theorem append_run {t t' eT : TypeId} {z : Value} (he : ElemOk P t eT z) (ht' : ∃ eT', P.underlying t' = some (.slice eT')) {fr : Nat → Prop} {e : K} {ys : List e.T} {y : Value} {us : List Value} (hy : Reads w fr e ys y us)
    {base : Option Addr} {sLen sCap : Nat} {old : List Value} (hold : sLen ≤ sCap) (hcells : ∀ w' : World, w'.heap = w.heap → (Builtin.firstCells 1 sLen (.slice base sLen sCap)).run P w' = .ok old.toArray w') (hus : ∀ w' : World, w'.heap = w.heap → (Builtin.firstCells 1 ys.length y).run P w' = .ok us.toArray w')
    (hlen : old.length = sLen) (hmost : sLen + ys.length < most) (ty : TypeId) :
    (sLen + ys.length ≤ sCap ∧ (∀ ad, base = some ad → (Builtin.append_ #[t, t'] ty #[.slice base sLen sCap, y]).run P w =
      ((storeCells (ad.add sLen) us).run P w).andThen fun _ w' => .ok (.slice base (sLen + ys.length) sCap) w') ∧
      (base = none → (Builtin.append_ #[t, t'] ty #[.slice base sLen sCap, y]).run P w = .ok (.slice base (sLen + ys.length) sCap) w)) ∨
    (∃ cap arr w', sLen + ys.length ≤ cap ∧ arr.size = cap ∧ arr.toList.take (sLen + ys.length) = old ++ us ∧ Grew w w' (.cells arr eT) ∧
      (Builtin.append_ #[t, t'] ty #[.slice base sLen sCap, y]).run P w = .ok (.slice (some ⟨w.heap.size, 0, none⟩) (sLen + ys.length) cap) w') := by
  obtain ⟨hu, ⟨i, hi, hs, hb, hz⟩, hzc⟩ := he
  obtain ⟨eT', hu'⟩ := ht'
  obtain ⟨A, cap, rfl, hval⟩ := hy.val
  by_cases hroom : sLen + ys.length ≤ sCap
  · left
    refine ⟨hroom, fun ad hb => ?_, fun hb => ?_⟩ <;> subst hb <;> simp [Builtin.append_, underlying, hu, hu', sizeOf, typeInfo, hi, hs, Builtin.lenOf, hroom, hus w rfl]
  · right
    have hb2 : ¬ (281474976710656 < Builtin.nextslicecap (sLen + ys.length) sCap * i.bytes) := by
      have h1 := nextcap_le (need := sLen + ys.length) (cap := sCap) (by omega)
      have h2 : Builtin.nextslicecap (sLen + ys.length) sCap * i.bytes ≤ (sLen + ys.length + (sLen + ys.length + 768) / 4 + 512) * 24 := Nat.mul_le_mul h1 hb
      unfold most at hmost
      omega
    have hb3 : ¬ (IntKind.i64.max < ((sLen : Int) + ys.length)) := by
      unfold most at hmost
      have : IntKind.i64.max = 9223372036854775807 := by decide
      rw [this]; omega
    let cut := (Question.appendCap (sLen + ys.length) sCap eT).cut (w.tape w.drawn (.appendCap (sLen + ys.length) sCap eT))
    have hcut : sLen + ys.length ≤ cut := by show _ ≤ (Question.appendCap _ _ _).cut _; simp [Question.cut]
    let arr := old.toArray ++ us.toArray ++ Builtin.zeroCells #[z] (cut - (sLen + ys.length))
    refine ⟨cut, arr, w.drew.alloc (.cells arr eT), hcut, ?_, ?_, ⟨rfl, rfl, rfl, rfl⟩, ?_⟩
    · show arr.size = cut
      have := hy.len
      simp [arr, zeroCells_size]; omega
    · have := hy.len
      have e : arr.toList = (old ++ us) ++ (Builtin.zeroCells #[z] (cut - (sLen + ys.length))).toList := by simp [arr]
      rw [e]
      exact List.take_left' (by simp; omega)
    · have h4 := hcells w.drew rfl
      have h5 := hus w.drew rfl
      have hq : (Question.appendCap (sLen + ys.length) sCap eT).forced = false := rfl
      have hb4 : ¬ (9223372036854775807 < ((sLen : Int) + ys.length) ∧ i.bytes = 0) := by
        have : IntKind.i64.max = 9223372036854775807 := by decide
        rw [this] at hb3; exact fun h => hb3 h.1
      simp [Builtin.append_, underlying, hu, hu', sizeOf, typeInfo, hi, hs, Builtin.lenOf, hroom, hb4, hb2, hq, h4, h5, zeroValue, hz, hzc, newRow]
      exact ⟨rfl, by simp [arr]; rfl⟩

theorem buildSlice_run {t eT : TypeId} {z : Value} (he : ElemOk P t eT z) (len : Nat) (parts : Array (Nat × Value)) (hbig : len < 65536) : ∃ arr0 : Array Value, arr0.size = len ∧ ∀ arr, Instr.fill (fun i => some (i, 1)) arr0 parts.toList = some arr → (Instr.buildSlice t len parts).run P w = .ok (.slice (some ⟨w.heap.size,0,none⟩) len len) (w.alloc (.cells arr eT)) := by
  obtain ⟨hu, ⟨i, hi, hs, hb, hz⟩, hzc⟩ := he
  have hb' : ¬ (2 ^ 24 < len) := by omega
  have hb'' : ¬ (16777216 < len) := by omega
  by_cases h0 : len = 0
  · subst h0
    refine ⟨Array.map (fun _ => default) (Array.range 0), by simp, fun arr ha => ?_⟩
    simp [Instr.buildSlice, underlying, hu, sizeOf, typeInfo, hi, hs, newRow]
    rw [ha]
    simp
  · refine ⟨(Array.range len).map (fun i => #[z][i % 1]!), by simp, fun arr ha => ?_⟩
    simp [Instr.buildSlice, underlying, hu, sizeOf, typeInfo, hi, hs, h0, hb', hb'', zeroValue, hz, hzc, newRow] at ha ⊢
    simp [ha]
theorem makeSlice_run {t eT : TypeId} {z : Value} {k k' : IntKind} {n m : Int} (he : ElemOk P t eT z) (h0 : 0 ≤ n) (h1 : n ≤ m) (h2 : m < most) : 
    (Instr.makeSlice t (.int k n) (.int k' m)).run P w = .ok (.slice (some ⟨w.heap.size,0,none⟩) n.toNat m.toNat) (w.alloc (.cells ((Array.range m.toNat).map fun _ => z) eT)) := by
  obtain ⟨hu, ⟨i, hi, hs, hb, hz⟩, hzc⟩ := he
  unfold most at h2
  have w1 : IntKind.i64.wrap n = n := by rw [IntKind.wrap_i64]; omega
  have w2 : IntKind.i64.wrap m = m := by rw [IntKind.wrap_i64]; omega
  have h3 : ¬ (2 ^ 48 < (i.bytes : Int) * m) := by
    have : (i.bytes : Int) * m ≤ 24 * m := Int.mul_le_mul_of_nonneg_right (by omega) (by omega)
    omega
  have h4 : ¬ m < 0 := by omega
  have h5 : ¬ n < 0 := by omega
  have h6 : ¬ m < n := by omega
  have h7 : ¬ (281474976710656 < (i.bytes : Int) * m) := by simpa using h3
  by_cases h8 : m.toNat = 0
  · simp [Instr.makeSlice, underlying, hu, sizeOf, typeInfo, hi, hs, asInt, asIntOf, w1, w2, h3, h4, h5, h6, h7, h8, zeroValue, hz, hzc, newRow]
    have e0 : Array.range 0 = #[] := by simp
    rw [e0]; simp
  · simp [Instr.makeSlice, underlying, hu, sizeOf, typeInfo, hi, hs, asInt, asIntOf, w1, w2, h3, h4, h5, h6, h7, h8, zeroValue, hz, hzc, newRow]
    congr 3
    funext j
    simp [Nat.mod_one]

end
end Go.VS
/- Operations that make or write memory. -/
set_option linter.unusedVariables false
set_option linter.unusedSimpArgs false
namespace Go.VS
section
variable {P : Program} {cx : Cx} {st : St} {c c' c'' : Cfg} {a : Act} {w w' w'' : World} {gs : List (Nat × Bool)}

/-- What an operation comes to: a value (or nothing), a world, and the state that says so. -/
def Same (w w' : World) : Prop := ∀ b, b < w.heap.size → w'.heap[b]? = w.heap[b]?

theorem same_alloc {o : Obj} : Same w (w.alloc o) := fun b hb => (⟨rfl, rfl, rfl, rfl⟩ : Grew w (w.alloc o) o).old hb

/-- What an operation that makes leaves as it was. -/
def StillO (op : Op) (c c' : Cfg) (w w' : World) : Prop := Still c c' w w' ∧ (keepsAll op = true → Same w w')

theorem StillO.refl {op : Op} : StillO op c c w w := ⟨Still.refl _ _, fun _ _ _ => rfl⟩

def Comes2 (P : Program) (c : Cfg) (a : Act) (w : World) (dst : Option Nat) (op : Op) (still : Bool) (k : St → Option R) (r : R) : Prop :=
  ∃ (st' : St) (c' : Cfg) (w' : World) (nx : Next) (x : Value), k st' = some r ∧ (nx = .value x ∨ (nx = .skip ∧ x = undef)) ∧ Rel st' c' (a.put dst x) w' ∧ Step c c' w w' ∧ (still = true → StillO op c c' w w') ∧
    ∀ (ty : TypeId) (pos : String) (after : Array Edge) (gd : Option (Nat × Bool)), (execOp a.eval { dst, op, type := ty, pos, after, guard := gd }).run P w = .ok nx w'

theorem elemOk (hty : TyOk P cx) {t eT : TypeId} {e : K} (h : look cx.ty t = some (.slice eT e)) : ∃ z, ElemOk P t eT z ∧ ∀ w fr, FR w fr e e.dflt z := by
  obtain ⟨hu, _, i, v, hi, hs, hb, hz, hc, hf⟩ := hty _ _ h
  exact ⟨v, ⟨hu, ⟨i, hi, hs, hb, hz⟩, hc⟩, hf⟩

theorem zero_lr (hty : TyOk P cx) {t : TypeId} {zs : List V} (h : zeroCells cx t = some zs) : ∃ z, (∀ w', (zeroValue t).run P w' = .ok z w') ∧ LR IsZero zs z.cells.toList := by
  unfold VS.zeroCells at h
  cases hl : look cx.ty t with
  | none => rw [hl] at h; cases h
  | some ti =>
    rw [hl] at h
    cases ti with
    | cell z =>
      cases h
      obtain ⟨_, i, v, hi, _, hz, h0, hc⟩ := hty _ _ hl
      exact ⟨v, fun w' => by simp [zeroValue, typeInfo, hi, hz], by rw [hc]; exact ⟨h0, trivial⟩⟩
    | slice eT e =>
      cases h
      obtain ⟨_, ⟨i, hi, _, hz⟩, _⟩ := hty _ _ hl
      exact ⟨.slice none 0 0, fun w' => by simp [zeroValue, typeInfo, hi, hz], ⟨rfl, trivial⟩⟩
    | agg n fs zs =>
      cases h
      obtain ⟨_, cells, _, ⟨i, hi, _, hz⟩, _, hzs, _⟩ := hty _ _ hl
      exact ⟨.agg cells, fun w' => by simp [zeroValue, typeInfo, hi, hz], hzs⟩
    | arr n eT zs =>
      cases h
      obtain ⟨cells, _, ⟨i, hi, _, hz⟩, _, hzs, _⟩ := hty _ _ hl
      exact ⟨.agg cells, fun w' => by simp [zeroValue, typeInfo, hi, hz], hzs⟩

theorem alloc_sound (hty : TyOk P cx) (h : Rel st c a w) {t d : Nat} {zs : List V} (hz : zeroCells cx t = some zs) {k : St → Option R} {r : R} (hk : k ((st.newBox (opTag d) zs).put (some d) (.ptr (opTag d) 0)) = some r) :
    Comes2 P c a w (some d) (.alloc t) true k r := by
  obtain ⟨z, hrun, hl⟩ := zero_lr hty hz
  obtain ⟨c', hr, hs, hst, hb⟩ := h.newBox (opTag d) (by unfold opTag; omega) (w' := w.alloc (.cells z.cells t)) (arr := z.cells) (ty := t) ⟨rfl, rfl, rfl, rfl⟩ (LR.mono (fun _ _ => IsZero.cr) hl)
  refine ⟨_, c', _, .value (.pointer (some ⟨w.heap.size, 0, none⟩)), _, hk, .inl rfl, hr.put (show TR c' _ (.ptr (opTag d) 0) _ by show _ = _; rw [hb]), hs, fun _ => ⟨hst, fun _ => same_alloc⟩, fun ty pos after gd => ?_⟩
  simp [execOp, Instr.alloc, hrun, newVar, newRow]

theorem box_sound (hty : TyOk P cx) (h : Rel st c a w) (hg : Holds a gs) {t d : Nat} {x : Operand} {n : Nat} (hall : ∀ u ∈ cellsOf (opd st gs x), u.isCell = true) {k : St → Option R} {r : R}
    (hk : k ((st.newBox (opTag d) (cellsOf (opd st gs x))).put (some d) (.ptr (opTag d) 0)) = some r) : Comes2 P c a w (some d) (.box t x) true k r := by
  have hx := opd_sound h hg x
  have hl := cells_lr hx hall
  obtain ⟨c', hr, hs, hst, hb⟩ := h.newBox (opTag d) (by unfold opTag; omega) (w' := w.alloc (.cells (a.eval x).cells t)) (arr := (a.eval x).cells) (ty := t) ⟨rfl, rfl, rfl, rfl⟩ hl
  refine ⟨_, c', _, .value (.pointer (some ⟨w.heap.size, 0, none⟩)), _, hk, .inl rfl, hr.put (show TR c' _ (.ptr (opTag d) 0) _ by show _ = _; rw [hb]), hs, fun _ => ⟨hst, fun _ => same_alloc⟩, fun ty pos after gd => ?_⟩
  simp [execOp, Instr.box, newVar, newRow]

/-- Elements in the order of their places. -/
theorem fill_elems : ∀ (vals : List Value) (k : Nat) (arr : Array Value), (∀ v ∈ vals, v.cells = #[v]) → k + vals.length ≤ arr.size →
    ∃ arr', Instr.fill (fun i => some (i, 1)) arr ((List.range' k vals.length).zip vals) = some arr' ∧ arr'.size = arr.size ∧ (∀ i, i < k → arr'[i]? = arr[i]?) ∧ ∀ (i : Nat) v, vals[i]? = some v → arr'[k + i]? = some v
  | [], k, arr, _, _ => ⟨arr, by simp [Instr.fill], rfl, fun _ _ => rfl, fun i v h => by simp at h⟩
  | v :: vals, k, arr, hc, hl => by
    have hv := hc v (List.mem_cons_self ..)
    simp only [List.length_cons] at hl
    obtain ⟨arr', h1, h2, h3, h4⟩ := fill_elems vals (k + 1) (arr.setIfInBounds k v) (fun u hu => hc u (List.mem_cons_of_mem _ hu)) (by simp; omega)
    refine ⟨arr', ?_, by simpa using h2, fun i hi => ?_, fun i u hi => ?_⟩
    · simp only [List.length_cons, List.range'_succ, List.zip_cons_cons, Instr.fill, hv]
      rw [if_neg (by simp; omega)]
      simpa using h1
    · rw [h3 i (by omega), Array.getElem?_setIfInBounds_ne (by omega)]
    · cases i with
      | zero =>
        simp at hi; subst hi
        rw [Nat.add_zero, h3 k (by omega), Array.getElem?_setIfInBounds, if_pos rfl, if_pos (by omega)]
      | succ i =>
        have := h4 i u (by simpa using hi)
        rw [← this]; congr 1; omega

theorem toKs_elem {e : K} : ∀ {vs : List V} {us : List Value} {xs : List e.T}, toKs e vs = some xs → LR (TR c w) vs us → xs.length = us.length ∧ ∀ (i : Nat) x, xs[i]? = some x → ∃ u, us[i]? = some u ∧ FR w c.free e x u
  | [], [], xs, h, _ => by simp [toKs] at h; subst h; exact ⟨rfl, fun i x hi => by simp at hi⟩
  | v :: vs, u :: us, xs, h, hl => by
    simp only [toKs] at h
    cases hv : toK e v with
    | none => rw [hv] at h; cases h
    | some x =>
      rw [hv] at h
      simp only at h
      cases hvs : toKs e vs with
      | none => rw [hvs] at h; cases h
      | some xs' =>
        rw [hvs] at h; cases h
        obtain ⟨h1, h2⟩ := toKs_elem hvs hl.2
        have hcr : CR c w v u := by
          have := hl.1
          cases v <;> first | exact this | (cases e <;> simp [toK] at hv)
        refine ⟨by simp [h1], fun i y hi => ?_⟩
        cases i with
        | zero => simp at hi; subst hi; exact ⟨u, rfl, FR.toK hv hcr⟩
        | succ i => exact h2 i y (by simpa using hi)
  | [], _ :: _, _, _, h => h.elim
  | _ :: _, [], _, _, h => h.elim

theorem toKs_length {e : K} : ∀ {vs : List V} {xs : List e.T}, toKs e vs = some xs → xs.length = vs.length
  | [], xs, h => by simp [toKs] at h; subst h; rfl
  | v :: vs, xs, h => by
    simp only [toKs] at h
    cases hv : toK e v with
    | none => rw [hv] at h; cases h
    | some x =>
      rw [hv] at h
      simp only at h
      cases hvs : toKs e vs with
      | none => rw [hvs] at h; cases h
      | some xs' => rw [hvs] at h; cases h; simp [toKs_length hvs]

theorem buildSlice_sound (hty : TyOk P cx) (h : Rel st c a w) (hg : Holds a gs) {t d len : Nat} {eT : TypeId} {e : K} {parts : Array (Nat × Operand)} (hl : look cx.ty t = some (.slice eT e)) (hp : parts.toList.map (·.1) = List.range len) {l : List Nat} {xs : List e.T}
    (hxs : toKs e (parts.toList.map fun p => opd (st.freezeAll l) gs p.2) = some xs) (hlen : len < 65536) {k : St → Option R} {r : R}
    (hk : k (((st.freezeAll l).newRow (opTag d) ⟨e, xs⟩).put (some d) (.row (opTag d))) = some r) : Comes2 P c a w (some d) (.buildSlice t len parts) true k r := by
  obtain ⟨c1, h1, s1, t1, _, _⟩ := h.freezeAll l
  obtain ⟨z, ⟨hu, ⟨i, hi, hs, hb, hz⟩, hzc⟩, hf⟩ := elemOk hty hl
  have hplen : parts.toList.length = len := by have := congrArg List.length hp; simpa using this
  have hlr : LR (TR c1 w) (parts.toList.map fun p => opd (st.freezeAll l) gs p.2) (parts.toList.map fun p => a.eval p.2) := by
    have : ∀ q : List (Nat × Operand), LR (TR c1 w) (q.map fun p => opd (st.freezeAll l) gs p.2) (q.map fun p => a.eval p.2) := by
      intro q
      induction q with
      | nil => trivial
      | cons p q ih => exact ⟨opd_sound h1 hg _, ih⟩
    exact this _
  obtain ⟨hx1, hx2⟩ := toKs_elem hxs hlr
  let vals := parts.toList.map fun p => a.eval p.2
  have hvlen : vals.length = len := by simp [vals, hplen]
  have hcell : ∀ v ∈ vals, v.cells = #[v] := by
    intro v hv
    obtain ⟨j, hj, hj'⟩ := List.mem_iff_getElem.1 hv
    have hjx : j < xs.length := by rw [hx1]; exact hj
    obtain ⟨u, hu', hx⟩ := hx2 j xs[j] (by simp [hjx])
    have : u = v := by
      have h3 : vals[j]? = some v := by simp [hj, hj']
      have h4 : vals[j]? = some u := hu'
      rw [h3] at h4; exact (Option.some.inj h4).symm
    subst this
    exact (FR.one hx).2
  obtain ⟨arr0, ha0, hrun⟩ := buildSlice_run (P := P) (w := w) ⟨hu, ⟨i, hi, hs, hb, hz⟩, hzc⟩ len (parts.map fun (i, x) => (i, a.eval x)) hlen
  obtain ⟨arr, hfill, hsz, _, hget⟩ := fill_elems vals 0 arr0 hcell (by omega)
  have hasz : arr.size = len := by rw [hsz, ha0]
  have hzip : (parts.map fun (i, x) => (i, a.eval x)).toList = (List.range' 0 vals.length).zip vals := by
    rw [hvlen, Array.toList_map]
    have : List.range' 0 len = parts.toList.map (·.1) := by rw [hp]; exact List.range_eq_range'.symm
    rw [this]
    simp only [vals]
    rw [List.zip_map']
  obtain ⟨c2, h2, s2, t2, hhv⟩ := h1.newRow (opTag d) (by unfold opTag; omega) ⟨e, xs⟩ (w' := w.alloc (.cells arr eT)) (arr := arr) (ty := eT) (by show xs.length < LIM; rw [hx1]; simp [hplen, LIM]; omega) (by show xs.length ≤ _; rw [hx1, hasz]; simp [hplen]) ⟨rfl, rfl, rfl, rfl⟩
    (fun j x hj => by
      obtain ⟨u, hu', hx⟩ := hx2 j x hj
      have := hget j u hu'
      exact ⟨u, by simpa using this, hx⟩)
  refine ⟨_, c2, _, .value (.slice (some ⟨w.heap.size, 0, none⟩) len len), _, hk, .inl rfl, h2.put (show TR c2 _ (.row (opTag d)) _ from ?_), s1.trans s2, fun _ => ⟨t1.trans t2 (Nat.le_refl _), fun _ => same_alloc⟩, fun ty pos after gd => ?_⟩
  · show _ = _
    rw [hhv]
    simp only
    rw [hx1, hasz]; simp [hplen]
  · have := hrun arr (by rw [hzip]; exact hfill)
    simp [execOp, this]

theorem makeSlice_sound (hty : TyOk P cx) (h : Rel st c a w) {t d : Nat} {eT : TypeId} {e : K} {x y : Operand} {k1 k2 : IntKind} {n m : Int} (hl : look cx.ty t = some (.slice eT e)) (hx : a.eval x = .int k1 n) (hy : a.eval y = .int k2 m)
    (h0 : 0 ≤ n) (h1 : n ≤ m) (h2 : m < most) {k : St → Option R} {r : R} (hk : k ((st.newRow (opTag d) ⟨e, List.replicate n.toNat e.dflt⟩).put (some d) (.row (opTag d))) = some r) :
    Comes2 P c a w (some d) (.makeSlice t x y) true k r := by
  obtain ⟨z, he, hf⟩ := elemOk hty hl
  have hrun := makeSlice_run (P := P) (w := w) (k := k1) (k' := k2) he h0 h1 h2
  have hm : m.toNat < most := by omega
  obtain ⟨c2, hr2, s2, t2, hhv⟩ := h.newRow (opTag d) (by unfold opTag; omega) ⟨e, List.replicate n.toNat e.dflt⟩ (w' := w.alloc (.cells ((Array.range m.toNat).map fun _ => z) eT)) (arr := (Array.range m.toNat).map fun _ => z) (ty := eT)
    (by simp [LIM]; unfold most at hm; omega) (by simp; omega) ⟨rfl, rfl, rfl, rfl⟩ (fun i x hi => by
      have hlt := (List.getElem?_eq_some_iff.1 hi).1
      simp at hlt
      have hx : x = e.dflt := by have := List.getElem?_eq_some_iff.1 hi; simpa using this.2.symm
      refine ⟨z, ?_, by rw [hx]; exact hf _ _⟩
      have : i < m.toNat := by omega
      simp [this])
  refine ⟨_, c2, _, .value (.slice (some ⟨w.heap.size, 0, none⟩) n.toNat m.toNat), _, hk, .inl rfl, hr2.put (show TR c2 _ (.row (opTag d)) _ from ?_), s2, fun _ => ⟨t2, fun _ => same_alloc⟩, fun ty pos after gd => ?_⟩
  · show _ = _
    rw [hhv]; simp
  · simp [execOp, hx, hy, hrun]

theorem FR.castX {fr : Nat → Prop} {e e' : K} (h : e = e') (x : e.T) {u : Value} (hr : FR w fr e x u) : FR w fr e' (h ▸ x) u := by
  subst h; exact hr

theorem tyCells_size (hty : TyOk P cx) {t : TypeId} {n : Nat} {isA : Bool} (h : tyCells cx t = some (n, isA)) : ∀ w', (sizeOf t).run P w' = .ok n w' := by
  intro w'
  unfold tyCells at h
  cases hl : look cx.ty t with
  | none => rw [hl] at h; cases h
  | some ti =>
    rw [hl] at h
    cases ti with
    | cell z => cases h; obtain ⟨_, i, v, hi, hs, _⟩ := hty _ _ hl; simp [sizeOf, typeInfo, hi, hs]
    | slice eT e => cases h; obtain ⟨_, ⟨i, hi, hs, _⟩, _⟩ := hty _ _ hl; simp [sizeOf, typeInfo, hi, hs]
    | agg n fs zs => cases h; obtain ⟨_, cells, _, ⟨i, hi, hs, _⟩, _⟩ := hty _ _ hl; simp [sizeOf, typeInfo, hi, hs]
    | arr n eT zs => cases h; obtain ⟨cells, _, ⟨i, hi, hs, _⟩, _⟩ := hty _ _ hl; simp [sizeOf, typeInfo, hi, hs]

theorem hdr_kept (h : Rel st c a w) {n i : Nat} {x : Value} (hx : CR c w (.el n i) x) (hd : ∀ m, c'.hdr m = c.hdr m) : CR c' w (.el n i) x := by
  obtain ⟨g, len, cap, h1, h2, h3⟩ := hx
  exact ⟨g, len, cap, by rw [← h1]; unfold Cfg.hv; rw [hd], h2, h3⟩

theorem toK_cr {e : K} {v : V} {u : Value} {x : e.T} (hv : toK e v = some x) (h : TR c w v u) : CR c w v u := by
  cases v <;> first | exact h | (cases e <;> simp [toK] at hv)

theorem storeRow_sound (hty : TyOk P cx) (h : Rel st c a w) (hg : Holds a gs) {t : TypeId} {x y : Operand} {n i : Nat} {l : List Nat} {r' : Row} {v : r'.e.T} (hx : opd st gs x = .el n i) (ht : tyCells cx t = some (1, false))
    (hr : look (st.freezeAll l).rows n = some r') (hv : toK r'.e (opd (st.freezeAll l) gs y) = some v) (hi : i < r'.xs.length) {k : St → Option R} {r : R}
    (hk : k { st.freezeAll l with rows := (n, ⟨r'.e, r'.xs.set i v⟩) :: cut (st.freezeAll l).rows n } = some r) : Comes2 P c a w none (.store t x y) false k r := by
  obtain ⟨c1, h1, s1, t1, hd, _⟩ := h.freezeAll l
  have hex := opd_sound h hg x
  rw [hx] at hex
  obtain ⟨g, len, cap, e1, e2, e3⟩ := hdr_kept (c' := c1) h hex hd
  have hey := opd_sound h1 hg y
  have hcr : CR c1 w (opd (st.freezeAll l) gs y) (a.eval y) := toK_cr hv hey
  have hfr := FR.toK hv hcr
  obtain ⟨g', len', cap', e4, hgo⟩ := h1.storeRow hr (i := i) (x := v) hi hfr (FR.one hfr).1
  rw [e1] at e4
  cases e4
  obtain ⟨hrun, hrel, hst⟩ := hgo P
  refine ⟨_, c1, _, .skip, undef, hk, .inr ⟨rfl, rfl⟩, hrel, s1.trans hst, (fun h => by cases h), fun ty pos after gd => ?_⟩
  have hc := (FR.one hfr).2
  simp [execOp, e3, Instr.storeAt, Instr.sureAddr, storeVar, tyCells_size hty ht, hc, storeCells, Addr.add, hrun]

theorem storeBox_sound (hty : TyOk P cx) (h : Rel st c a w) (hg : Holds a gs) {t : TypeId} {x y : Operand} {b o n : Nat} {isA : Bool} {cs cs' : List V} (hx : opd st gs x = .ptr b o) (ht : tyCells cx t = some (n, isA)) (hb : look st.boxes b = some cs)
    (hlen : (cellsOf (opd st gs y)).length = n) (hne : cellsOf (opd st gs y) ≠ []) (hp : putAt cs o (cellsOf (opd st gs y)) = some cs') {k : St → Option R} {r : R}
    (hk : k { st with boxes := (b, cs') :: cut st.boxes b } = some r) : Comes2 P c a w none (.store t x y) false k r := by
  have hex := opd_sound h hg x
  rw [hx] at hex
  have hxe : a.eval x = .pointer (some ⟨c.box b, o, none⟩) := hex
  have hey := opd_sound h hg y
  have hcell := putAt_cells hp
  have hl := cells_lr hey hcell
  have hsz := cells_size hey hcell
  obtain ⟨w', hrun, hrel, hst⟩ := h.storeBox hb hp hne hl P
  refine ⟨_, c, w', .skip, undef, hk, .inr ⟨rfl, rfl⟩, hrel, hst, (fun h => by cases h), fun ty pos after gd => ?_⟩
  have : (a.eval y).cells.size = n := by omega
  simp [execOp, hxe, Instr.storeAt, Instr.sureAddr, storeVar, tyCells_size hty ht, this, hrun]

theorem castL_length {e e' : K} (h : e = e') (xs : List e.T) : (castL h xs).length = xs.length := by subst h; rfl

theorem foldSet_get (o : Nat) : ∀ (us : List Value) (j : Nat) (arr : Array Value), o + j + us.length ≤ arr.size →
    ((us.zipIdx j).foldl (fun (a : Array Value) (p : Value × Nat) => a.setIfInBounds (o + p.2) p.1) arr).size = arr.size ∧
    (∀ i, i < o + j → ((us.zipIdx j).foldl (fun (a : Array Value) (p : Value × Nat) => a.setIfInBounds (o + p.2) p.1) arr)[i]? = arr[i]?) ∧
    ∀ (i : Nat) u, us[i]? = some u → ((us.zipIdx j).foldl (fun (a : Array Value) (p : Value × Nat) => a.setIfInBounds (o + p.2) p.1) arr)[o + j + i]? = some u
  | [], j, arr, _ => ⟨rfl, fun _ _ => rfl, fun i u h => by simp at h⟩
  | v :: us, j, arr, hl => by
    simp only [List.length_cons] at hl
    obtain ⟨h1, h2, h3⟩ := foldSet_get o us (j + 1) (arr.setIfInBounds (o + j) v) (by simp; omega)
    simp only [List.zipIdx_cons, List.foldl_cons]
    refine ⟨by rw [h1]; simp, fun i hi => ?_, fun i u hi => ?_⟩
    · rw [h2 i (by omega), Array.getElem?_setIfInBounds_ne (by omega)]
    · cases i with
      | zero =>
        simp at hi; subst hi
        rw [h2 _ (by omega), Nat.add_zero, Array.getElem?_setIfInBounds, if_pos rfl, if_pos (by omega)]
      | succ i =>
        have := h3 i u (by simpa using hi)
        rw [← this]; congr 1; omega

theorem append_sound (hty : TyOk P cx) (h : Rel st c a w) (hg : Holds a gs) {t t' : TypeId} {eT : TypeId} {e : K} {d : Nat} {x y : Operand} (hl : look cx.ty t = some (.slice eT e)) (hl' : isSlTy cx t' = true) {k : St → Option R} {r : R}
    (hk : appendOp st d e (opd st gs x) (opd st gs y) k = some r) : Comes2 P c a w (some d) (.call { callee := .builtin .append, args := #[x, y], argTypes := #[t, t'] }) true k r := by
  obtain ⟨z, he, hf⟩ := elemOk hty hl
  obtain ⟨eT', e', hlt'⟩ := isSlTy_ok hl'
  have hu' : ∃ eT', P.underlying t' = some (.slice eT') := ⟨_, (hty _ _ hlt').1⟩
  have hex := opd_sound h hg x
  have hey := opd_sound h hg y
  unfold appendOp at hk
  cases hys : rowContent st e (opd st gs y) with
  | none => rw [hys] at hk; cases hk
  | some ys =>
    rw [hys] at hk
    simp only at hk
    obtain ⟨us, hus⟩ := content_reads h hey hys
    have husr : ∀ w' : World, w'.heap = w.heap → (Builtin.firstCells 1 ys.length (a.eval y)).run P w' = .ok us.toArray w' := by
      intro w' hw'
      refine firstCells_run (w := w') (fr := fun _ => True) (e := e) ⟨hus.len, ?_, fun i y hi => ?_⟩ P
      · obtain ⟨A, cap, h1, h2⟩ := hus.val
        refine ⟨A, cap, h1, fun h0 => ?_⟩
        obtain ⟨ad, ha, hc⟩ := h2 h0
        exact ⟨ad, ha, fun j v hj => by rw [← hc j v hj]; exact cell_agree (by rw [hw'])⟩
      · obtain ⟨u, hu, hx⟩ := hus.elem i y hi
        exact ⟨u, hu, FR.move (fun b _ _ => ⟨trivial, by rw [hw']⟩) _ _ _ hx⟩
    have hone : ∀ u ∈ us, u.oneCell' = true := by
      intro u hu
      obtain ⟨j, hj, hj'⟩ := List.mem_iff_getElem.1 hu
      have hjy : j < ys.length := by rw [← hus.len]; exact hj
      obtain ⟨u', hu', hx⟩ := hus.elem j ys[j] (by simp [hjy])
      have : u' = u := by
        have h3 : us[j]? = some u := by simp [hj, hj']
        rw [h3] at hu'; exact (Option.some.inj hu').symm
      subst this
      exact (FR.one hx).1
    have hconst : ∀ (xv : Value) (ty : TypeId), Builtin.append_ #[t, t'] ty #[xv, a.eval y] = Builtin.append_ #[t, t'] 0 #[xv, a.eval y] := fun _ _ => rfl
    split at hk
    · -- onto nil
      rename_i hxv
      split at hk
      · rename_i hm
        rw [hxv] at hex
        have hxe : a.eval x = .slice none 0 0 := hex
        rcases append_run (P := P) (w := w) (t := t) (t' := t') he hu' hus (base := none) (sLen := 0) (sCap := 0) (old := []) (Nat.le_refl _) (fun w' _ => by simp [Builtin.firstCells]) husr rfl (by omega) 0 with ⟨h1, _, h2⟩ | ⟨cap, arr, w1, h1, h2, h3, h4, h5⟩
        · -- nothing is appended
          have hy0 : ys = [] := List.eq_nil_of_length_eq_zero (by omega)
          subst hy0
          obtain ⟨c2, hr2, s2, t2, hhv, _⟩ := h.nilRow (opTag d) (by unfold opTag; omega) e
          refine ⟨_, c2, w, .value (.slice none 0 0), _, hk, .inl rfl, hr2.put (show TR c2 _ (.row (opTag d)) _ by show _ = _; rw [hhv]), s2, fun _ => ⟨t2, fun hh => by cases hh⟩, fun ty pos after gd => ?_⟩
          simp [execOp, resolve, invoke, builtin, hxe, hconst]
          have h2 := h2 rfl
          simp at h2
          simp [h2]
        · obtain ⟨c2, hr2, s2, t2, hhv⟩ := h.newRow (opTag d) (by unfold opTag; omega) ⟨e, ys⟩ (w' := w1) (arr := arr) (ty := eT) (by show ys.length < LIM; unfold most at hm; unfold LIM; omega) (by show ys.length ≤ _; omega) h4 (fun i y hi => by
            obtain ⟨u, hu, hx⟩ := hus.elem i y hi
            refine ⟨u, ?_, hx⟩
            have hi' := (List.getElem?_eq_some_iff.1 hi).1
            have hi'' : i < 0 + ys.length := by simpa using hi'
            have : (arr.toList.take (0 + ys.length))[i]? = some u := by rw [h3]; simpa using hu
            rw [List.getElem?_take, if_pos hi''] at this
            simpa using this)
          refine ⟨_, c2, w1, .value (.slice (some ⟨w.heap.size, 0, none⟩) (0 + ys.length) cap), _, hk, .inl rfl, hr2.put (show TR c2 _ (.row (opTag d)) _ by show _ = _; rw [hhv]; simp [h2]), s2, fun _ => ⟨t2, fun hh => by cases hh⟩, fun ty pos after gd => ?_⟩
          simp [execOp, resolve, invoke, builtin, hxe, hconst, h5]
      · cases hk
    · -- onto a row
      rename_i n hxv
      rw [hxv] at hex
      have hk' : appendRow st d e ys n k = some r := by
        split at hk
        · split at hk
          · cases hk
          · exact hk
        · split at hk
          · cases hk
          · exact hk
        · exact hk
      unfold appendRow at hk'
      cases hrow : look st.rows n with
      | none => rw [hrow] at hk'; cases hk'
      | some rw0 =>
        rw [hrow] at hk'
        simp only at hk'
        split at hk'
        · cases hk'
        · rename_i heq _
          split at hk'
          · rename_i hm
            have hown := h.mem.rows _ _ hrow
            obtain ⟨A, cap0, e1, e2, e3⟩ := id hown
            have hxe : a.eval x = .slice A rw0.xs.length cap0 := Eq.trans hex e1
            obtain ⟨old, hold⟩ := Reads.of_own hown (Nat.zero_le _) (Nat.le_refl _) (x := .slice A rw0.xs.length cap0) ⟨A, _, cap0, e1, by
              cases A with
              | none => simp
              | some ad => simp [Addr.add]⟩
            rw [Row.part_all] at hold
            have hcap : rw0.xs.length ≤ cap0 := by
              rcases e3 with ⟨_, h2, h3⟩ | ⟨_, _, _, _, _, _, _, h3, _⟩
              · rw [h2]; simp
              · exact h3
            have holdr : ∀ w' : World, w'.heap = w.heap → (Builtin.firstCells 1 rw0.xs.length (.slice A rw0.xs.length cap0)).run P w' = .ok old.toArray w' := by
              intro w' hw'
              refine firstCells_run (w := w') (fr := fun _ => True) (e := rw0.e) ⟨hold.len, ?_, fun i y hi => ?_⟩ P
              · obtain ⟨A, cap, h1, h2⟩ := hold.val
                refine ⟨A, cap, h1, fun h0 => ?_⟩
                obtain ⟨ad, ha, hc⟩ := h2 h0
                exact ⟨ad, ha, fun j v hj => by rw [← hc j v hj]; exact cell_agree (by rw [hw'])⟩
              · obtain ⟨u, hu, hx⟩ := hold.elem i y hi
                exact ⟨u, hu, FR.move (fun b _ _ => ⟨trivial, by rw [hw']⟩) _ _ _ hx⟩
            have hlen : (castL heq rw0.xs ++ ys).length = rw0.xs.length + ys.length := by simp [castL_length]
            have hlim : (castL heq rw0.xs ++ ys).length < LIM := by rw [hlen]; unfold most at hm; unfold LIM; omega
            have helem : ∀ (arr : Array Value), arr.toList.take (rw0.xs.length + ys.length) = old ++ us → ∀ (i : Nat) z, (castL heq rw0.xs ++ ys)[i]? = some z → ∃ u : Value, arr[i]? = some u ∧ FR w c.free e z u := by
              intro arr harr i z hi
              have hi' := (List.getElem?_eq_some_iff.1 hi).1
              rw [hlen] at hi'
              have hu : ∃ u, (old ++ us)[i]? = some u ∧ FR w c.free e z u := by
                by_cases hlt : i < rw0.xs.length
                · rw [List.getElem?_append_left (by rw [castL_length]; exact hlt)] at hi
                  obtain ⟨u, hu, hx⟩ := (hold.cast heq).elem i z hi
                  exact ⟨u, by rw [List.getElem?_append_left (by rw [hold.len]; exact hlt)]; exact hu, hx⟩
                · rw [List.getElem?_append_right (by rw [castL_length]; omega)] at hi
                  obtain ⟨u, hu, hx⟩ := hus.elem _ z hi
                  refine ⟨u, ?_, hx⟩
                  rw [List.getElem?_append_right (by rw [hold.len]; omega), hold.len]
                  rw [castL_length] at hu; exact hu
              obtain ⟨u, hu, hx⟩ := hu
              refine ⟨u, ?_, hx⟩
              rw [← harr, List.getElem?_take, if_pos hi'] at hu
              simpa using hu
            rcases append_run (P := P) (w := w) (t := t) (t' := t') he hu' hus (base := A) (sLen := rw0.xs.length) (sCap := cap0) (old := old) hcap holdr husr hold.len hm 0 with ⟨h1, h2s, h2n⟩ | ⟨cap, arr, w1, h1, h2, h3, h4, h5⟩
            · -- in place
              rcases e3 with ⟨rfl, h0, rfl⟩ | ⟨g, arr, ty0, rfl, h5, h6, h7, h8, h9⟩
              · -- nil, and nothing is appended
                have hx0 : rw0.xs.length = 0 := by rw [h0]; rfl
                have hy0 : ys = [] := List.eq_nil_of_length_eq_zero (by omega)
                have hz0 : castL heq rw0.xs ++ ys = [] := List.eq_nil_of_length_eq_zero (by rw [hlen, hx0, hy0]; rfl)
                rw [hz0] at hk'
                obtain ⟨c2, hr2, s2, t2, hhv⟩ := h.swapNil (n := n) (m := opTag d) (by unfold opTag; omega) (e := e)
                refine ⟨_, c2, w, .value (.slice none 0 0), _, hk', .inl rfl, hr2.put (show TR c2 _ (.row (opTag d)) _ by show _ = _; rw [hhv]), s2, fun _ => ⟨t2, fun hh => by cases hh⟩, fun ty pos after gd => ?_⟩
                simp [execOp, resolve, invoke, builtin, hxe, hconst]
                have h2 := h2n rfl
                simp [hx0, hy0] at h2
                simp [h2, hx0, hy0]
              · have hlus := hus.len
                obtain ⟨w', hrun, hw⟩ := storeCells_run P rw0.xs.length us 0 w arr h6 hone (by omega)
                have hadd : (⟨g, 0, none⟩ : Addr).add rw0.xs.length = ⟨g, rw0.xs.length, none⟩ := by unfold Addr.add; split <;> simp_all
                have h2 := h2s _ rfl
                rw [hadd, hrun] at h2
                have harr : (Array.toList ((us.zipIdx 0).foldl (fun (a : Array Value) (p : Value × Nat) => a.setIfInBounds (rw0.xs.length + p.2) p.1) arr)).take (rw0.xs.length + ys.length) = old ++ us := by
                  obtain ⟨f1, f2, f3⟩ := foldSet_get rw0.xs.length us 0 arr (by omega)
                  refine List.ext_getElem? fun i => ?_
                  rw [List.getElem?_take]
                  by_cases hi : i < rw0.xs.length + ys.length
                  · rw [if_pos hi]
                    rw [Array.getElem?_toList]
                    by_cases hi2 : i < rw0.xs.length
                    · rw [f2 i (by omega), List.getElem?_append_left (by rw [hold.len]; exact hi2)]
                      obtain ⟨A', cap', q1, q2⟩ := hold.val
                      obtain ⟨ad, q3, q4⟩ := q2 (by omega)
                      have hio : i < old.length := by rw [hold.len]; exact hi2
                      have q5 := q4 i old[i] (by simp [hio])
                      subst q3
                      cases q1
                      have hadd' : (⟨g, 0, none⟩ : Addr).add i = ⟨g, i, none⟩ := by unfold Addr.add; split <;> simp_all
                      rw [hadd', heap_cell h6] at q5
                      rw [q5]; simp [hio]
                    · rw [List.getElem?_append_right (by rw [hold.len]; omega), hold.len]
                      have hiu : i - rw0.xs.length < us.length := by omega
                      have q := f3 (i - rw0.xs.length) us[i - rw0.xs.length] (by simp [hiu])
                      have q' : rw0.xs.length + 0 + (i - rw0.xs.length) = i := by omega
                      rw [q'] at q
                      rw [q]; simp [hiu]
                  · rw [if_neg hi]
                    symm
                    rw [List.getElem?_eq_none]
                    simp only [List.length_append, hold.len, hus.len]; omega
                have hsz : Array.size ((us.zipIdx 0).foldl (fun (a : Array Value) (p : Value × Nat) => a.setIfInBounds (rw0.xs.length + p.2) p.1) arr) = cap0 := by
                  rw [(foldSet_get rw0.xs.length us 0 arr (by omega)).1, h7]
                obtain ⟨c2, hr2, s2, t2, hhv⟩ := h.swapRow (n := n) (m := opTag d) (by unfold opTag; omega) (r := ⟨e, castL heq rw0.xs ++ ys⟩) h5 hw hlim (by show (castL heq rw0.xs ++ ys).length ≤ _; rw [hlen, hsz]; exact h1) (helem _ harr)
                refine ⟨_, c2, w', .value (.slice (some ⟨g, 0, none⟩) (rw0.xs.length + ys.length) cap0), _, hk', .inl rfl, hr2.put (show TR c2 _ (.row (opTag d)) _ by show _ = _; rw [hhv]; simp only [hlen, hsz]), s2, fun _ => ⟨t2, fun hh => by cases hh⟩, fun ty pos after gd => ?_⟩
                simp at h2
                simp [execOp, resolve, invoke, builtin, hxe, hconst, h2]
            · obtain ⟨c2, hr2, s2, t2, hhv⟩ := h.swapRowNew (n := n) (m := opTag d) (by unfold opTag; omega) (r := ⟨e, castL heq rw0.xs ++ ys⟩) h4 hlim (by show (castL heq rw0.xs ++ ys).length ≤ _; rw [hlen, h2]; exact h1) (helem _ h3)
              refine ⟨_, c2, w1, .value (.slice (some ⟨w.heap.size, 0, none⟩) (rw0.xs.length + ys.length) cap), _, hk', .inl rfl, hr2.put (show TR c2 _ (.row (opTag d)) _ by show _ = _; rw [hhv, h2]; simp [hlen]), s2, fun _ => ⟨t2, fun hh => by cases hh⟩, fun ty pos after gd => ?_⟩
              simp [execOp, resolve, invoke, builtin, hxe, hconst, h5]
          · cases hk'
    · cases hk

end
end Go.VS
