/- Operations that only compute and read, second part. -/
import Derived.Test.YtnibmainjgcmaaaV1
import Derived.Laws.Tables
set_option linter.unusedVariables false
set_option linter.unusedSimpArgs false
namespace Go.VS
section
variable {P : Program} {cx : Cx} {st : St} {c : Cfg} {a : Act} {w : World} {gs : List (Nat × Bool)}

theorem convert_sound {src dst' : TypeId} {x : Operand} {k k' : IntKind} {n : Int} {cl : Nat} {el : Bool} (hty : TyOk P cx) (hs : P.underlying src ≠ none) (hk : intOfTy cx dst' = some k) (hx : a.eval x = .int k' n) :
    Gives P c w a (.convert src dst' x) (.int k (k.wrap n)) cl el := by
  unfold intOfTy at hk
  split at hk <;> cases hk
  rename_i z hl
  obtain ⟨⟨d, hd, hz⟩, _⟩ := hty _ _ hl
  simp only [zeroDesc] at hz
  subst hz
  obtain ⟨d, hsd⟩ := Option.ne_none_iff_exists'.1 hs
  refine Gives.pure (x := .int k (k.wrap n)) rfl fun w' dst ty pos after gd => ?_
  simp [execOp, hx, Go.convert, underlying, hd, hsd, Conv.intToInt]

theorem nilCheck_sound {x : Operand} {ad : Addr} {v : V} {cl : Nat} {el : Bool} (hx : a.eval x = .pointer (some ad)) (hv : TR c w v (.pointer (some ad))) : Gives P c w a (.nilCheck x) v cl el := by
  refine Gives.pure hv fun w' dst ty pos after gd => ?_
  simp [execOp, hx]

theorem inRange_iff {i n : Int} (h : inRange i n = true) : 0 ≤ i ∧ i < n := by
  simpa [inRange] using h

theorem index_sound {t : TypeId} {x y : Operand} {s : ByteArray} {k : IntKind} {n : Int} {cl : Nat} {el : Bool} (hu : P.underlying t = some .string) (hx : a.eval x = .string s) (hy : a.eval y = .int k n) (hr : inRange n s.size = true) :
    Gives P c w a (.index t x y) (.int .u8 ((s.data.toList.getD n.toNat 0).toNat : Int)) cl el := by
  obtain ⟨h0, h1⟩ := inRange_iff hr
  have hlt : n.toNat < s.size := by omega
  refine Gives.pure (x := .int .u8 ((s.data.toList.getD n.toNat 0).toNat : Int)) rfl fun w' dst ty pos after gd => ?_
  have hb : s[n.toNat]? = some (s.data.toList.getD n.toNat 0) := by
    have hl : n.toNat < s.data.size := hlt
    rw [show s.data.toList.getD n.toNat 0 = s.data[n.toNat] by simp [List.getD, Array.getElem?_eq_getElem hl]]
    simp [hlt]
    rfl
  simp [execOp, hx, hy, Instr.index, asIntOf, underlying, hu, h0, hb]

theorem arr_ok (hty : TyOk P cx) {t : TypeId} {n : Nat} (h : arrLen cx t = some n) : ∃ eT d i, P.underlying t = some (.array n eT) ∧ P.info? eT = some i ∧ i.size = 1 ∧ P.underlying eT = some d ∧ isAggB d = false := by
  unfold arrLen at h
  split at h
  · rename_i m eT zs hl
    cases h
    obtain ⟨cells, hu, _, _, _, ⟨i, hi, hs⟩, d, hd, ha⟩ := hty _ _ hl
    exact ⟨eT, d, i, hu, hi, hs, hd, ha⟩
  · cases h

theorem indexArr_sound {t : TypeId} {x y : Operand} {k : IntKind} {n : Int} {len : Nat} {ad : Addr} {v : V} {cl : Nat} {el : Bool} (hty : TyOk P cx) (hl : arrLen cx t = some len)
    (hx : a.eval x = .pointer (some ad)) (hy : a.eval y = .int k n) (h0 : 0 ≤ n) (h1 : n < len) (hv : TR c w v (.pointer (some (ad.add n.toNat)))) : Gives P c w a (.indexAddr t x y) v cl el := by
  obtain ⟨eT, d, i, hu, hi, hs, _⟩ := arr_ok hty hl
  refine Gives.pure hv fun w' dst ty pos after gd => ?_
  simp [execOp, hx, hy, Instr.indexAt, Instr.sureAddr, asIntOf, underlying, hu, h0, h1, sizeOf, typeInfo, hi, hs]

theorem index_arr_sound {t : TypeId} {x y : Operand} {k : IntKind} {n : Int} {len : Nat} {cs : Array Value} {u : Value} {v : V} {cl : Nat} {el : Bool} (hty : TyOk P cx) (hl : arrLen cx t = some len)
    (hx : a.eval x = .agg cs) (hy : a.eval y = .int k n) (h0 : 0 ≤ n) (h1 : n < len) (hu : cs[n.toNat]? = some u) (hv : TR c w v u) : Gives P c w a (.index t x y) v cl el := by
  obtain ⟨eT, d, i, hun, hi, hs, hd, ha⟩ := arr_ok hty hl
  refine Gives.pure hv fun w' dst ty pos after gd => ?_
  have hagg : (isAgg eT).run P w' = .ok false w' := by
    unfold isAgg
    simp [underlying, hd]
    cases d <;> simp_all [isAggB]
  simp [execOp, hx, hy, Instr.index, asIntOf, underlying, hun, h0, h1, sizeOf, typeInfo, hi, hs, part, hagg, hu]

theorem indexAddr_sound {t : TypeId} {eT : TypeId} {e : K} {x y : Operand} {k : IntKind} {n : Int} {A : Option Addr} {len cap : Nat} {ad : Addr} {v : V} {cl : Nat} {el : Bool} (hty : TyOk P cx) (hl : look cx.ty t = some (.slice eT e))
    (hx : a.eval x = .slice A len cap) (hA : A = some ad) (hy : a.eval y = .int k n) (h0 : 0 ≤ n) (h1 : n < len) (hv : TR c w v (.pointer (some (ad.add n.toNat)))) : Gives P c w a (.indexAddr t x y) v cl el := by
  obtain ⟨hu, _, i, z, hi, hs, _⟩ := hty _ _ hl
  refine Gives.pure hv fun w' dst ty pos after gd => ?_
  subst hA
  simp [execOp, hx, hy, Instr.indexAt, asIntOf, underlying, hu, h0, h1, sizeOf, typeInfo, hi, hs]

theorem FR.elem {w : World} {fr : Nat → Prop} {e : K} {xs : List e.T} {v : Value} (h : FR w fr (.sl e) xs v) {i : Nat} (hi : i < xs.length) :
    ∃ ad cap u, v = .slice (some ad) xs.length cap ∧ fr ad.block ∧ w.cell? (ad.add i) = some u ∧ FR w fr e (xs.getD i e.dflt) u := by
  obtain ⟨A, cap, h1, h2, h3, h4⟩ := h
  obtain ⟨ad, ha, hf, hc⟩ := h4 (by omega)
  obtain ⟨u, hu, hx⟩ := hc i xs[i] (by simp [hi])
  refine ⟨ad, cap, u, by rw [h1, ha], hf, hu, ?_⟩
  rw [show xs.getD i e.dflt = xs[i] by simp [List.getD, hi]]
  exact hx

theorem add_block (ad : Addr) (n : Nat) : (ad.add n).block = ad.block := by unfold Addr.add; split <;> rfl

theorem cell_lt {w : World} {a : Addr} {v : Value} (h : w.cell? a = some v) : a.block < w.heap.size := by
  unfold World.cell? at h
  cases hb : w.heap[a.block]? with
  | none => rw [hb] at h; cases h
  | some o => exact (Array.getElem?_eq_some_iff.1 hb).1

theorem cell_agree {w w' : World} {a : Addr} (h : w'.heap[a.block]? = w.heap[a.block]?) : w'.cell? a = w.cell? a := by unfold World.cell?; rw [h]

/-- A load of one cell. -/
theorem load_cell_run {t : TypeId} {x : Operand} {ad : Addr} {u : Value} (hna : ∃ d, P.underlying t = some d ∧ isAggB d = false) (hx : a.eval x = .pointer (some ad)) (hc : w.cell? ad = some u)
    (w' : World) (dst : Option Tmp) (ty : TypeId) (pos : String) (after : Array Edge) (gd : Option (Nat × Bool)) (hag : w'.heap[ad.block]? = w.heap[ad.block]?) :
    (execOp a.eval { dst, op := .load t x, type := ty, pos, after, guard := gd }).run P w' = .ok (.value u) w' := by
  obtain ⟨d, hd, ha⟩ := hna
  have hc' : w'.cell? ad = some u := by rw [cell_agree hag]; exact hc
  have hagg : (isAgg t).run P w' = .ok false w' := by
    unfold isAgg
    simp [underlying, hd]
    cases d <;> simp_all [isAggB]
  simp [execOp, hx, Instr.loadAt, Instr.sureAddr, loadVar, hagg, hc']

theorem load_cell_sound {t : TypeId} {x : Operand} {ad : Addr} {u : Value} {v : V} {cl : Nat} {el : Bool} (hcl : cl ≠ 0) (hna : ∃ d, P.underlying t = some d ∧ isAggB d = false) (hx : a.eval x = .pointer (some ad)) (hc : w.cell? ad = some u)
    (hel : el = false → ∀ n, c.ow ad.block ≠ some (.row n)) (hv : TR c w v u) : Gives P c w a (.load t x) v cl el := by
  obtain ⟨d, hd, ha⟩ := hna
  refine ⟨u, some ad.block, hv, fun h => absurd h hcl, fun g hg => ?_, fun w' dst ty pos after gd hag => ?_⟩
  · cases hg; exact ⟨cell_lt hc, hel⟩
  · have hc' : w'.cell? ad = some u := by rw [cell_agree (hag _ rfl)]; exact hc
    have hagg : (isAgg t).run P w' = .ok false w' := by
      unfold isAgg
      simp [underlying, hd]
      cases d <;> simp_all [isAggB]
    simp [execOp, hx, Instr.loadAt, Instr.sureAddr, loadVar, hagg, hc']

theorem heap_cell {w : World} {g : Nat} {arr : Array Value} {ty : TypeId} {fz : Nat × Nat} (h : w.heap[g]? = some (.cells arr ty fz)) (o : Nat) : w.cell? ⟨g, o, none⟩ = arr[o]? := by
  unfold World.cell?; simp [h]

/-- A load out of a variable in memory, of one cell or of more. -/
theorem load_var_sound {t : TypeId} {x : Operand} {g o : Nat} {arr : Array Value} {ty0 : TypeId} {fz : Nat × Nat} {cs : List V} {size : Nat} {isA : Bool} {cl : Nat} {el : Bool} (hcl : cl ≠ 0) (hty : TyOk P cx) (ht : tyCells cx t = some (size, isA))
    (hx : a.eval x = .pointer (some ⟨g, o, none⟩)) (hh : w.heap[g]? = some (.cells arr ty0 fz)) (hcs : LR (CR c w) cs arr.toList) (hlt : o + size ≤ cs.length) (hel : el = false → ∀ n, c.ow g ≠ some (.row n)) :
    Gives P c w a (.load t x) (partOf cs o size isA) cl el := by
  have hlen := LR.length hcs
  simp only [Array.length_toList] at hlen
  have hg : g < w.heap.size := (Array.getElem?_eq_some_iff.1 hh).1
  have one : (∃ d, P.underlying t = some d ∧ isAggB d = false) → size = 1 → isA = false → Gives P c w a (.load t x) (partOf cs o size isA) cl el := by
    intro hd h1 h2
    subst h1; subst h2
    have hlt' : o < arr.size := by omega
    have hcell : w.cell? ⟨g, o, none⟩ = some arr[o] := by rw [heap_cell hh]; simp [hlt']
    refine load_cell_sound hcl hd hx hcell hel ?_
    have := hcs.get o (by omega)
    rw [show arr.toList.getD o undef = arr[o] by simp [List.getD, hlt']] at this
    exact this.tr
  unfold tyCells at ht
  cases hl : look cx.ty t with
  | none => rw [hl] at ht; cases ht
  | some ti =>
    rw [hl] at ht
    cases ti with
    | cell z =>
      simp only at ht; cases ht
      obtain ⟨⟨d, hd, hz⟩, _⟩ := hty _ _ hl
      exact one ⟨d, hd, by cases z <;> cases d <;> simp_all [zeroDesc, isAggB]⟩ rfl rfl
    | slice eT e =>
      simp only at ht; cases ht
      obtain ⟨hu, _⟩ := hty _ _ hl
      exact one ⟨_, hu, rfl⟩ rfl rfl
    | agg n fs zs =>
      simp only at ht; cases ht
      obtain ⟨fields, cells, hu, ⟨i, hi, hs, _⟩, _⟩ := hty _ _ hl
      refine ⟨.agg (arr.extract o (o + size)), some g, ⟨_, rfl, ?_⟩, fun h => absurd h hcl, fun g' hg' => ?_, fun w' dst ty pos after gd hag => ?_⟩
      · have := hcs.part o size
        have e : (arr.extract o (o + size)).toList = (arr.toList.drop o).take size := by simp
        rw [e]; exact this
      · cases hg'; exact ⟨hg, hel⟩
      · have hh' : w'.heap[g]? = some (.cells arr ty0 fz) := by rw [hag _ rfl]; exact hh
        have hagg : (isAgg t).run P w' = .ok true w' := by
          unfold isAgg
          simp [underlying, hu]
        have hload : (loadCells ⟨g, o, none⟩ size).run P w' = .ok (arr.extract o (o + size)) w' := by
          have := run_loadCells_list (P := P) w' ⟨g, o, none⟩ (arr.extract o (o + size)).toList (fun j v hv => ?_)
          · rw [show (arr.extract o (o + size)).toList.length = size by simp; omega] at this
            rw [this]
          · have hj : j < size := by
              have := (List.getElem?_eq_some_iff.1 hv).1
              simp at this; omega
            have hadd : (⟨g, o, none⟩ : Addr).add j = ⟨g, o + j, none⟩ := by unfold Addr.add; split <;> simp_all
            rw [hadd, heap_cell hh']
            simp at hv
            rw [List.getElem?_take] at hv
            simp [hj] at hv
            exact hv
        simp [execOp, hx, Instr.loadAt, Instr.sureAddr, loadVar, hagg, sizeOf, typeInfo, hi, hs, hload]
    | arr n eT zs =>
      simp only at ht; cases ht
      obtain ⟨cells, hu, ⟨i, hi, hs, _⟩, _⟩ := hty _ _ hl
      refine ⟨.agg (arr.extract o (o + size)), some g, ⟨_, rfl, ?_⟩, fun h => absurd h hcl, fun g' hg' => ?_, fun w' dst ty pos after gd hag => ?_⟩
      · have := hcs.part o size
        have e : (arr.extract o (o + size)).toList = (arr.toList.drop o).take size := by simp
        rw [e]; exact this
      · cases hg'; exact ⟨hg, hel⟩
      · have hh' : w'.heap[g]? = some (.cells arr ty0 fz) := by rw [hag _ rfl]; exact hh
        have hagg : (isAgg t).run P w' = .ok true w' := by
          unfold isAgg
          simp [underlying, hu]
        have hload : (loadCells ⟨g, o, none⟩ size).run P w' = .ok (arr.extract o (o + size)) w' := by
          have := run_loadCells_list (P := P) w' ⟨g, o, none⟩ (arr.extract o (o + size)).toList (fun j v hv => ?_)
          · rw [show (arr.extract o (o + size)).toList.length = size by simp; omega] at this
            rw [this]
          · have hj : j < size := by
              have := (List.getElem?_eq_some_iff.1 hv).1
              simp at this; omega
            have hadd : (⟨g, o, none⟩ : Addr).add j = ⟨g, o + j, none⟩ := by unfold Addr.add; split <;> simp_all
            rw [hadd, heap_cell hh']
            simp at hv
            rw [List.getElem?_take] at hv
            simp [hj] at hv
            exact hv
        simp [execOp, hx, Instr.loadAt, Instr.sureAddr, loadVar, hagg, sizeOf, typeInfo, hi, hs, hload]

theorem slice_str_sound {t : TypeId} {x : Operand} {lo hi : Option Operand} {s : ByteArray} {l h : Int} {cl : Nat} {el : Bool} (hu : P.underlying t = some .string) (hx : a.eval x = .string s)
    (hlo : ∀ o, lo = some o → ∃ k, a.eval o = .int k l) (hlo0 : lo = none → l = 0) (hhi : ∀ o, hi = some o → ∃ k, a.eval o = .int k h) (hhi0 : hi = none → h = s.size) (h0 : 0 ≤ l) (h1 : l ≤ h) (h2 : h ≤ s.size) :
    Gives P c w a (.slice t x lo hi none) (.str (s.extract l.toNat h.toNat)) cl el := by
  refine Gives.pure (x := .string (s.extract l.toNat h.toNat)) rfl fun w' dst ty pos after gd => ?_
  have hl' : l ≤ (h.toNat : Int) := by omega
  have hh' : 0 ≤ h := by omega
  cases lo with
  | none =>
    cases hi with
    | none =>
      have := hlo0 rfl; have := hhi0 rfl; subst_vars
      simp [execOp, hx, Instr.sliceAt, Instr.slice, Instr.sliceBounds, underlying, hu]
    | some o =>
      obtain ⟨k, hk⟩ := hhi o rfl
      have := hlo0 rfl; subst_vars
      simp [execOp, hx, hk, Instr.sliceAt, Instr.slice, Instr.sliceBounds, Instr.sliceBound, asIntOf, underlying, hu, hh', h2]
  | some o' =>
    obtain ⟨k', hk'⟩ := hlo o' rfl
    cases hi with
    | none =>
      have := hhi0 rfl; subst_vars
      simp [execOp, hx, hk', Instr.sliceAt, Instr.slice, Instr.sliceBounds, Instr.sliceBound, asIntOf, underlying, hu, h0, h1]
    | some o =>
      obtain ⟨k, hk⟩ := hhi o rfl
      have hm : ¬ (max h 0 < l) := by omega
      simp [execOp, hx, hk, hk', Instr.sliceAt, Instr.slice, Instr.sliceBounds, Instr.sliceBound, asIntOf, underlying, hu, h0, h1, h2, hh', hl', hm]

theorem slice_sl_sound {t : TypeId} {eT : TypeId} {e : K} {x : Operand} {lo hi : Option Operand} {A : Option Addr} {len cap : Nat} {l h : Int} {v : V} {cl : Nat} {el : Bool} (hty : TyOk P cx) (hl : look cx.ty t = some (.slice eT e)) (hx : a.eval x = .slice A len cap)
    (hlo : ∀ o, lo = some o → ∃ k, a.eval o = .int k l) (hlo0 : lo = none → l = 0) (hhi : ∀ o, hi = some o → ∃ k, a.eval o = .int k h) (hhi0 : hi = none → h = len) (h0 : 0 ≤ l) (h1 : l ≤ h) (h2 : h ≤ len) (hcap : len ≤ cap)
    (hv : TR c w v (.slice (if cap = l.toNat then A else A.map (·.add l.toNat)) (h.toNat - l.toNat) (cap - l.toNat))) :
    Gives P c w a (.slice t x lo hi none) v cl el := by
  obtain ⟨hu, _, i, z, hi', hs, _⟩ := hty _ _ hl
  refine Gives.pure hv fun w' dst ty pos after gd => ?_
  have hl' : l ≤ (h.toNat : Int) := by omega
  have hh' : 0 ≤ h := by omega
  have hc' : h ≤ (cap : Int) := by omega
  cases lo with
  | none =>
    cases hi with
    | none =>
      have := hlo0 rfl; have := hhi0 rfl; subst_vars
      simp [execOp, hx, Instr.sliceAt, Instr.slice, Instr.sliceBounds, underlying, hu, sizeOf, typeInfo, hi', hs]
    | some o =>
      obtain ⟨k, hk⟩ := hhi o rfl
      have := hlo0 rfl; subst_vars
      simp [execOp, hx, hk, Instr.sliceAt, Instr.slice, Instr.sliceBounds, Instr.sliceBound, asIntOf, underlying, hu, hh', hc', sizeOf, typeInfo, hi', hs]
  | some o' =>
    obtain ⟨k', hk'⟩ := hlo o' rfl
    cases hi with
    | none =>
      have := hhi0 rfl; subst_vars
      simp [execOp, hx, hk', Instr.sliceAt, Instr.slice, Instr.sliceBounds, Instr.sliceBound, asIntOf, underlying, hu, h0, h1, sizeOf, typeInfo, hi', hs]
    | some o =>
      obtain ⟨k, hk⟩ := hhi o rfl
      have hm : ¬ (max h 0 < l) := by omega
      simp [execOp, hx, hk, hk', Instr.sliceAt, Instr.slice, Instr.sliceBounds, Instr.sliceBound, asIntOf, underlying, hu, h0, h1, hc', hh', hl', hm, sizeOf, typeInfo, hi', hs]

theorem extract_sound {x : Operand} {vs : List V} {i : Nat} {cl : Nat} {el : Bool} (hx : TR c w (.tup vs) (a.eval x)) (hi : i < vs.length) : Gives P c w a (.extract x i) (getV vs i) cl el := by
  obtain ⟨cs, hcs, hlr⟩ := hx
  have hlen := LR.length hlr
  simp only [Array.length_toList] at hlen
  have hlt : i < cs.size := by omega
  have := hlr.get i hi
  rw [show cs.toList.getD i undef = cs[i] by simp [List.getD, hlt]] at this
  refine Gives.pure this.tr fun w' dst ty pos after gd => ?_
  simp [execOp, hcs, Instr.extract, hlt]

theorem len_sound {x : Operand} {ts : Array TypeId} {t : TypeId} {d : TypeDesc} {n : Nat} {cl : Nat} {el : Bool} (ht : ts[0]? = some t) (hu : P.underlying t = some d)
    (h : (d = .string ∧ ∃ s, a.eval x = .string s ∧ n = s.size) ∨ ∃ e A cap, d = .slice e ∧ a.eval x = .slice A n cap) :
    Gives P c w a (.call { callee := .builtin .len, args := #[x], argTypes := ts }) (.int .i64 n) cl el := by
  refine Gives.pure (x := .int .i64 n) rfl fun w' dst ty pos after gd => ?_
  rcases h with ⟨rfl, s, hx, rfl⟩ | ⟨e, A, cap, rfl, hx⟩
  · simp [execOp, resolve, invoke, builtin, Builtin.len_, ht, hx, underlying, hu, goInt]
  · simp [execOp, resolve, invoke, builtin, Builtin.len_, ht, hx, underlying, hu, goInt]

theorem max_sound {x y : Operand} {ts : Array TypeId} {k k' : IntKind} {m n : Int} {cl : Nat} {el : Bool} (hx : a.eval x = .int k m) (hy : a.eval y = .int k' n) :
    Gives P c w a (.call { callee := .builtin .max, args := #[x, y], argTypes := ts }) (.int k (if n > m then n else m)) cl el := by
  refine Gives.pure (x := .int k (if n > m then n else m)) rfl fun w' dst ty pos after gd => ?_
  simp [execOp, resolve, invoke, builtin, Builtin.max_, Builtin.max2, hx, hy]

theorem min_sound {x y : Operand} {ts : Array TypeId} {k k' : IntKind} {m n : Int} {cl : Nat} {el : Bool} (hx : a.eval x = .int k m) (hy : a.eval y = .int k' n) :
    Gives P c w a (.call { callee := .builtin .min, args := #[x, y], argTypes := ts }) (.int k (if n < m then n else m)) cl el := by
  refine Gives.pure (x := .int k (if n < m then n else m)) rfl fun w' dst ty pos after gd => ?_
  simp [execOp, resolve, invoke, builtin, Builtin.min_, Builtin.min2, hx, hy]

theorem LR.of_map (r : V → Value → Prop) (f : Operand → V) (g : Operand → Value) (h : ∀ o, r (f o) (g o)) : ∀ l : List Operand, LR r (l.map f) (l.map g)
  | [] => trivial
  | o :: l => ⟨h o, LR.of_map r f g h l⟩

end
end Go.VS
/- Operations that only compute and read: all of them. -/
set_option linter.unusedVariables false
set_option linter.unusedSimpArgs false
namespace Go.VS
section
variable {P : Program} {cx : Cx} {st : St} {c : Cfg} {a : Act} {w : World} {gs : List (Nat × Bool)}

theorem isStrTy_ok (hty : TyOk P cx) {t : TypeId} (h : isStrTy cx t = true) : P.underlying t = some .string := by
  unfold isStrTy at h
  split at h
  · rename_i s hl
    obtain ⟨⟨d, hd, hz⟩, _⟩ := hty _ _ hl
    simp only [zeroDesc] at hz
    rw [hd, hz]
  · cases h

theorem isSlTy_ok {t : TypeId} (h : isSlTy cx t = true) : ∃ eT e, look cx.ty t = some (.slice eT e) := by
  unfold isSlTy at h
  split at h
  · rename_i eT e hl; exact ⟨eT, e, hl⟩
  · cases h

theorem isCellTy_ok (hty : TyOk P cx) {t : TypeId} (h : isCellTy cx t = true) : P.underlying t ≠ none := by
  unfold isCellTy at h
  split at h
  · rename_i z hl
    obtain ⟨⟨d, hd, hz⟩, _⟩ := hty _ _ hl
    rw [hd]; simp
  · cases h

theorem tyCells_one (hty : TyOk P cx) {t : TypeId} (h : tyCells cx t = some (1, false)) : ∃ d, P.underlying t = some d ∧ isAggB d = false := by
  unfold tyCells at h
  cases hl : look cx.ty t with
  | none => rw [hl] at h; cases h
  | some ti =>
    rw [hl] at h
    cases ti with
    | cell z =>
      obtain ⟨⟨d, hd, hz⟩, _⟩ := hty _ _ hl
      exact ⟨d, hd, by cases z <;> cases d <;> simp_all [zeroDesc, isAggB]⟩
    | slice eT e =>
      obtain ⟨hu, _⟩ := hty _ _ hl
      exact ⟨_, hu, rfl⟩
    | agg n fs zs => simp at h
    | arr n eT zs => simp at h

theorem Holds.cons {gs : List (Nat × Bool)} {t : Nat} {b : Bool} (hg : Holds a gs) (h : a.tmps.getD t undef = .bool b) : Holds a ((t, b) :: gs) := by
  intro t' b' hm
  rcases List.mem_cons.1 hm with hm | hm
  · cases hm; exact h
  · exact hg _ _ hm

theorem bound_ok (h : Rel st c a w) (hg : Holds a gs) {x : Option Operand} {d n : Int} (hb : boundOf gs st x d = some n) : (∀ o, x = some o → ∃ k, a.eval o = .int k n) ∧ (x = none → n = d) := by
  unfold boundOf at hb
  cases x with
  | none => cases hb; exact ⟨fun _ h => (by cases h), fun _ => rfl⟩
  | some o =>
    refine ⟨fun o' ho => ?_, fun h => by cases h⟩
    cases ho
    simp only at hb
    split at hb
    · rename_i k m hm
      cases hb
      have := opd_sound h hg o
      rw [hm] at this
      exact ⟨k, TR.int this⟩
    · cases hb

theorem OwnR.get {n : Nat} {r : Row} (h : OwnR c w n r) {i : Nat} (hi : i < r.xs.length) : ∃ g arr ty cap u, c.hv n = .slice (some ⟨g, 0, none⟩) r.xs.length cap ∧ c.ow g = some (.row n) ∧ w.heap[g]? = some (.cells arr ty (0, 0)) ∧ arr[i]? = some u ∧ FR w c.free r.e (r.xs.getD i r.e.dflt) u := by
  obtain ⟨A, cap, hh, _, h | ⟨g, arr, ty, rfl, ho, hw, hs, hl, hc⟩⟩ := h
  · rw [h.2.1] at hi; simp at hi
  · obtain ⟨u, hu, hf⟩ := hc i r.xs[i] (by simp [hi])
    refine ⟨g, arr, ty, cap, u, hh, ho, hw, hu, ?_⟩
    rw [show r.xs.getD i r.e.dflt = r.xs[i] by simp [List.getD, hi]]
    exact hf

theorem setV_lr {r : V → Value → Prop} {v : V} {x : Value} (hv : r v x) : ∀ {cs : List V} {xs : List Value} (i : Nat), LR r cs xs → LR r (setV cs i v) (xs.set i x)
  | [], [], _, _ => trivial
  | _ :: _, _ :: _, 0, h => ⟨hv, h.2⟩
  | _ :: _, _ :: _, i + 1, h => ⟨h.1, setV_lr hv i h.2⟩
  | [], _ :: _, _, h => h.elim
  | _ :: _, [], _, h => h.elim

theorem setV_length : ∀ (cs : List V) (i : Nat) (v : V), (setV cs i v).length = cs.length
  | [], _, _ => rfl
  | _ :: _, 0, _ => rfl
  | _ :: cs, i + 1, v => by simp [setV, setV_length cs i v]

theorem putAt_length : ∀ {vs cs cs' : List V} {o : Nat}, putAt cs o vs = some cs' → cs'.length = cs.length
  | [], _, _, _, h => by simp [putAt] at h; rw [h]
  | v :: vs, cs, cs', o, h => by
    simp only [putAt] at h
    split at h
    · rw [putAt_length h, setV_length]
    · cases h

theorem putAt_lr {c : Cfg} {w : World} : ∀ {vs : List V} {xs : List Value} {cs cs' : List V} {arr : Array Value} (off j : Nat), LR (CR c w) vs xs → LR (CR c w) cs arr.toList → putAt cs (off + j) vs = some cs' →
    LR (CR c w) cs' ((xs.zipIdx j).foldl (fun (a : Array Value) (p : Value × Nat) => a.setIfInBounds (off + p.2) p.1) arr).toList
  | [], [], _, _, _, _, _, _, hc, h => by simp [putAt] at h; subst h; exact hc
  | v :: vs, x :: xs, cs, cs', arr, off, j, hl, hc, h => by
    simp only [putAt] at h
    split at h
    · simp only [List.zipIdx_cons, List.foldl_cons]
      exact putAt_lr off (j + 1) hl.2 (by simpa using setV_lr hl.1 (off + j) hc) (by simpa [Nat.add_assoc] using h)
    · cases h
  | [], _ :: _, _, _, _, _, _, h, _, _ => h.elim
  | _ :: _, [], _, _, _, _, _, h, _, _ => h.elim

theorem putAt_le : ∀ {vs cs cs' : List V} {o : Nat}, putAt cs o vs = some cs' → vs = [] ∨ o + vs.length ≤ cs.length
  | [], _, _, _, _ => .inl rfl
  | v :: vs, cs, cs', o, h => by
    simp only [putAt] at h
    split at h
    · rename_i hc
      simp only [Bool.and_eq_true, decide_eq_true_eq] at hc
      right
      rcases putAt_le h with h' | h'
      · subst h'; simp; omega
      · simp [setV_length] at h' ⊢; omega
    · cases h

theorem putAt_cells : ∀ {vs cs cs' : List V} {o : Nat}, putAt cs o vs = some cs' → ∀ v ∈ vs, v.isCell = true
  | [], _, _, _, _, _, h => by cases h
  | v :: vs, cs, cs', o, h, u, hu => by
    simp only [putAt] at h
    split at h
    · rename_i hc
      simp only [Bool.and_eq_true, decide_eq_true_eq] at hc
      rcases List.mem_cons.1 hu with rfl | hu
      · exact hc.2
      · exact putAt_cells h u hu
    · cases h

/-- The cells of a value are those that it is told by. -/
theorem cells_lr {v : V} {x : Value} (h : TR c w v x) (hc : ∀ u ∈ cellsOf v, u.isCell = true) : LR (CR c w) (cellsOf v) x.cells.toList := by
  cases v with
  | agg vs => obtain ⟨cs, rfl, hl⟩ := h; exact hl
  | int k n => have : x = _ := h; subst this; exact ⟨rfl, trivial⟩
  | bool b => have : x = _ := h; subst this; exact ⟨rfl, trivial⟩
  | str s => have : x = _ := h; subst this; exact ⟨rfl, trivial⟩
  | sl e xs => obtain ⟨A, cap, rfl, h2⟩ := h; exact ⟨⟨A, cap, rfl, h2⟩, trivial⟩
  | snil => have : x = _ := h; subst this; exact ⟨rfl, trivial⟩
  | row n => have : x = _ := h; subst this; exact ⟨rfl, trivial⟩
  | fnil => have : x = _ := h; subst this; exact ⟨rfl, trivial⟩
  | _ => exact absurd (hc _ (List.mem_singleton.2 rfl)) (by simp [V.isCell])

theorem cells_size {v : V} {x : Value} (h : TR c w v x) (hc : ∀ u ∈ cellsOf v, u.isCell = true) : x.cells.size = (cellsOf v).length := by
  have := LR.length (cells_lr h hc)
  simpa using this.symm

theorem fill_lr (fs : List (Nat × Nat × Bool)) : ∀ {parts : List (Nat × V)} {xs : List (Nat × Value)} {cs cs' : List V} {arr : Array Value},
    parts.length = xs.length → (∀ (i : Nat) (p : Nat × V) (x : Nat × Value), parts[i]? = some p → xs[i]? = some x → p.1 = x.1 ∧ TR c w p.2 x.2) → (∀ p ∈ parts, cellsOf p.2 ≠ []) → LR (CR c w) cs arr.toList → buildParts fs cs parts = some cs' →
    ∃ arr', Instr.fill ((fs.map fun x => (x.1, x.2.1)).toArray[·]?) arr xs = some arr' ∧ LR (CR c w) cs' arr'.toList
  | [], [], cs, cs', arr, _, _, _, hc, h => by
    simp [buildParts] at h; subst h
    exact ⟨arr, rfl, hc⟩
  | (i, v) :: parts, (j, x) :: xs, cs, cs', arr, hlen, hp, hne, hc, h => by
    obtain ⟨hij, hv⟩ := hp 0 _ _ rfl rfl
    simp only at hij hv
    subst hij
    simp only [buildParts] at h
    cases hf : fs[i]? with
    | none => rw [hf] at h; cases h
    | some y =>
      obtain ⟨off, size, isA⟩ := y
      rw [hf] at h
      simp only at h
      split at h
      · rename_i hsz
        split at h
        · rename_i cs1 hcs1
          have hcell := putAt_cells hcs1
          have hx := cells_lr hv hcell
          have hxs := cells_size hv hcell
          have hle : off + (cellsOf v).length ≤ cs.length := by
            rcases putAt_le hcs1 with h' | h'
            · exact absurd h' (hne _ (List.mem_cons_self ..))
            · exact h'
          have hcl := LR.length hc
          simp only [Array.length_toList] at hcl
          have h1 := putAt_lr off 0 hx hc (by simpa using hcs1)
          obtain ⟨arr', ha, hl⟩ := fill_lr fs (parts := parts) (xs := xs) (by simpa using hlen) (fun k p x h1 h2 => hp (k + 1) p x h1 h2) (fun p hp => hne p (List.mem_cons_of_mem _ hp)) h1 h
          refine ⟨arr', ?_, hl⟩
          unfold Instr.fill
          rw [show (fs.map fun x => (x.1, x.2.1)).toArray[i]? = some (off, size) by simp [hf]]
          simp only []
          rw [if_neg (by simp; omega)]
          rw [← Array.foldl_toList, Array.toList_zipIdx]
          exact ha
        · cases h
      · cases h
  | [], _ :: _, _, _, _, h, _, _, _, _ => by simp at h
  | _ :: _, [], _, _, _, h, _, _, _, _ => by simp at h

theorem mapM_fields : ∀ (fields : List Field) (fs : List (Nat × Nat × Bool)), fields.length = fs.length → (∀ (i : Nat) (f : Field) x, fields[i]? = some f → fs[i]? = some x → FieldOk P f x) →
    fields.mapM (fun f => (P.info? f.type).map fun i => (f.offset, i.size)) = some (fs.map fun x => (x.1, x.2.1))
  | [], [], _, _ => rfl
  | f :: fields, x :: fs, hl, h => by
    obtain ⟨h1, ⟨i, hi, hs⟩, _⟩ := h 0 f x rfl rfl
    rw [List.mapM_cons, mapM_fields fields fs (by simpa using hl) (fun i f x h1 h2 => h (i + 1) f x h1 h2)]
    simp [hi, hs, h1]
  | [], _ :: _, hl, _ => by simp at hl
  | _ :: _, [], hl, _ => by simp at hl

theorem IsZero.cr {v : V} {x : Value} (h : IsZero v x) : CR c w v x := by cases v <;> first | exact h | exact h.elim

theorem build_sound (hty : TyOk P cx) (h : Rel st c a w) (hg : Holds a gs) {t : TypeId} {parts : Array (Nat × Operand)} {n : Nat} {fs : List (Nat × Nat × Bool)} {zs vs : List V} (hl : look cx.ty t = some (.agg n fs zs))
    (hne : ∀ p ∈ parts.toList, cellsOf (opd st gs p.2) ≠ []) (hb : buildParts fs zs (parts.toList.map fun p => (p.1, opd st gs p.2)) = some vs) {cl : Nat} {el : Bool} : Gives P c w a (.build t parts) (.agg vs) cl el := by
  obtain ⟨fields, cells, hu, ⟨i, hi, hs, hz⟩, hzl, hzs, hsz, hf⟩ := hty _ _ hl
  obtain ⟨arr', ha, hlr⟩ := fill_lr (c := c) (w := w) fs (parts := parts.toList.map fun p => (p.1, opd st gs p.2)) (xs := parts.toList.map fun p => (p.1, a.eval p.2)) (cs := zs) (arr := cells) (by simp)
    (fun i p x h1 h2 => by
      simp only [List.getElem?_map] at h1 h2
      cases hq : parts.toList[i]? with
      | none => rw [hq] at h1; cases h1
      | some q =>
        rw [hq] at h1 h2
        cases h1; cases h2
        exact ⟨rfl, opd_sound h hg _⟩)
    (fun p hp => by
      obtain ⟨q, hq, rfl⟩ := List.mem_map.1 hp
      exact hne q hq)
    (LR.mono (fun _ _ => IsZero.cr) hzs) hb
  refine Gives.pure (x := .agg arr') ⟨arr', rfl, hlr⟩ fun w' dst ty pos after gd => ?_
  have hbuilt : P.built t (parts.map fun (i, x) => (i, a.eval x)).toList = some arr' := by
    unfold Program.built
    simp only [hu, hi, hz, mapM_fields fields.toList fs (by simpa using hsz) (fun i f x h1 h2 => hf i f x (by simpa using h1) h2)]
    simp only [Value.cells, Array.toList_map]
    exact ha
  simp [execOp, run_build _ _ _ _ hbuilt]

theorem LR.of_map' (r : V → Value → Prop) (f : Operand → V) (g : Operand → Value) : ∀ l : List Operand, (∀ o ∈ l, r (f o) (g o)) → LR r (l.map f) (l.map g)
  | [], _ => trivial
  | o :: l, h => ⟨h o (List.mem_cons_self ..), LR.of_map' r f g l fun o ho => h o (List.mem_cons_of_mem _ ho)⟩

theorem TR.ar_of {v : V} {x : Value} (h : TR c w v x) (hv : v.isA = true) : AR c w v x := by
  cases v <;> first | exact h | simp [V.isA] at hv

/-- The class of an operation that only computes or reads. -/
theorem TR.cr_of {v : V} {x : Value} (h : TR c w v x) (hv : ∀ vs, v ≠ .agg vs) (hv' : ∀ f a b, v ≠ .clo f a b) (hv'' : ∀ vs, v ≠ .tup vs) : CR c w v x := by
  cases v <;> first | exact h | exact absurd rfl (hv _) | exact absurd rfl (hv' _ _ _) | exact absurd rfl (hv'' _)

theorem toKs_elem0 {e : K} : ∀ {vs : List V} {us : List Value} {xs : List e.T}, toKs e vs = some xs → LR (CR c w) vs us → xs.length = us.length ∧ ∀ (i : Nat) x, xs[i]? = some x → ∃ u, us[i]? = some u ∧ FR w c.free e x u
  | [], [], xs, h, _ => by simp only [toKs] at h; cases h; exact ⟨rfl, fun i x hx => by simp at hx⟩
  | [], _ :: _, _, _, h => h.elim
  | _ :: _, [], _, _, h => h.elim
  | v :: vs, u :: us, xs, h, hl => by
    simp only [toKs] at h
    cases hv : toK e v with
    | none => rw [hv] at h; cases h
    | some y =>
      rw [hv] at h
      simp only at h
      cases hvs : toKs e vs with
      | none => rw [hvs] at h; cases h
      | some ys =>
        rw [hvs] at h
        cases h
        obtain ⟨q1, q2⟩ := toKs_elem0 hvs hl.2
        refine ⟨by simp [q1], fun i x hx => ?_⟩
        cases i with
        | zero => simp at hx; subst hx; exact ⟨u, rfl, FR.toK hv hl.1⟩
        | succ i => exact q2 i x (by simpa using hx)

theorem pure_sound (hty : TyOk P cx) (h : Rel st c a w) (hg : Holds a gs) {op : Op} {q : Option Bool} {v : V} (hp : pureOp cx st gs op = some (q, v)) (hq : ∀ b, q = some b → b = true) :
    Gives P c w a op v (pureClass op) (elLoad st gs op) := by
  have ev := fun o => opd_sound h hg o
  unfold pureOp at hp
  split at hp
  · -- move
    rename_i x; cases hp
    exact Gives.pure (ev x) fun w' dst ty pos after gd => by simp [execOp]
  · -- assign
    rename_i x; cases hp
    exact Gives.pure (ev x) fun w' dst ty pos after gd => by simp [execOp]
  · -- pick
    rename_i x y z
    split at hp
    · rename_i t
      split at hp
      · rename_i b hgd hb
        cases hp
        have hs : a.eval (.tmp t) = .bool b := by
          have := h.slot t
          unfold SlotR at this
          rw [hgd, hb] at this
          exact this
        exact pick_sound hs (by cases b <;> exact ev _)
      · split at hp
        · rename_i b hb
          have hs : a.eval (.tmp t) = .bool b := by have := ev (.tmp t); rw [hb] at this; exact TR.bool this
          split at hp
          · rename_i hy
            split at hp
            · rename_i b' hb'
              cases hp
              have hy' : a.eval y = .bool true := by
                unfold isTrue at hy
                split at hy
                · rename_i bb; subst hy; rfl
                · cases hy
              refine pick_sound hs ?_
              cases b with
              | true => exact hy'
              | false =>
                have := opd_sound h (hg.cons (t := t) (b := false) hs) z
                rw [hb'] at this
                exact this
            · cases hp
          · split at hp
            · rename_i hz
              split at hp
              · rename_i b' hb'
                cases hp
                have hz' : a.eval z = .bool false := by
                  unfold isFalse at hz
                  split at hz
                  · rename_i bb; simp at hz; subst hz; rfl
                  · cases hz
                refine pick_sound hs ?_
                cases b with
                | false => exact hz'
                | true =>
                  have := opd_sound h (hg.cons (t := t) (b := true) hs) y
                  rw [hb'] at this
                  exact this
              · cases hp
            · cases hp
        · cases hp
    · cases hp
  · -- binOp
    rename_i op t x y yt
    split at hp
    · rename_i u b hx hl
      exact bin_sound (by rw [← hx]; exact ev x) (ev y) (fun b' hb' => by
        obtain ⟨⟨d, hd, hz⟩, _⟩ := hty _ _ hl
        simp only [zeroDesc] at hz
        rw [hd, hz]) hp hq
    · cases hp
    · rename_i h1 h2
      exact bin_sound (ev x) (ev y) (fun b' hb' => by first | exact absurd hb' (h2 _) | exact absurd hb' (h1 _)) hp hq
  · -- unOp
    rename_i op t x
    split at hp <;> cases hp
    rename_i r hr
    exact un_sound (ev x) hr
  · -- convert
    rename_i src dst x
    split at hp
    · rename_i k n hx
      split at hp
      · rename_i hs
        split at hp <;> cases hp
        rename_i k' hk
        exact convert_sound hty (isCellTy_ok hty hs) hk (by have := ev x; rw [hx] at this; exact TR.int this)
      · cases hp
    · cases hp
  · -- nilCheck
    rename_i x
    split at hp
    · rename_i b o hx; cases hp
      have := ev x; rw [hx] at this
      exact nilCheck_sound (x := x) this rfl
    · rename_i cs o hx; cases hp
      have := ev x; rw [hx] at this
      obtain ⟨g, arr, ty, fz, h1, h2⟩ := this
      exact nilCheck_sound (x := x) h1 ⟨g, arr, ty, fz, rfl, h2⟩
    · cases hp
  · -- fieldAddr
    rename_i t x i
    split at hp
    · rename_i n fs zs hl
      split at hp
      · rename_i off s hi
        split at hp
        · rename_i b o hx; cases hp
          have := ev x; rw [hx] at this
          exact fieldAddr_sound hty hl hi (x := x) this rfl
        · rename_i cs o hx; cases hp
          have := ev x; rw [hx] at this
          obtain ⟨g, arr, ty, fz, h1, h2⟩ := this
          exact fieldAddr_sound hty hl hi (x := x) h1 ⟨g, arr, ty, fz, rfl, h2⟩
        · cases hp
      · cases hp
    · cases hp
  · -- field
    rename_i t x i
    split at hp
    · rename_i n fs zs hl
      split at hp
      · rename_i off size isA hi
        split at hp
        · rename_i vs hx
          split at hp <;> cases hp
          rename_i hlt
          exact field_sound hty hl hi (x := x) (by have := ev x; rw [hx] at this; exact this) hlt
        · cases hp
      · cases hp
    · cases hp
  · -- index
    rename_i t x i
    split at hp
    · rename_i s k n hx hi
      split at hp <;> cases hp
      rename_i hs
      have := hq _ rfl
      exact index_sound (isStrTy_ok hty (by simpa using hs)) (by have := ev x; rw [hx] at this; exact TR.str this) (by have := ev i; rw [hi] at this; exact TR.int this) this
    · rename_i vs k n hx hi
      split at hp
      · rename_i e len he hlen
        split at hp
        · rename_i hvl
          have hy : a.eval i = .int k n := by have := ev i; rw [hi] at this; exact TR.int this
          have := ev x; rw [hx] at this
          obtain ⟨cs, hcs, hlr⟩ := this
          have hll := LR.length hlr
          split at hp <;> cases hp
          · rename_i xs hxs
            obtain ⟨h0, h1⟩ := inRange_iff (hq _ rfl)
            obtain ⟨q1, q2⟩ := toKs_elem0 hxs hlr
            have hlt : n.toNat < xs.length := by omega
            obtain ⟨u, hu, hfr⟩ := q2 n.toNat xs[n.toNat] (by simp [hlt])
            refine index_arr_sound hty hlen hcs hy h0 h1 (u := u) (by simpa using hu) ?_
            rw [show xs.getD n.toNat e.dflt = xs[n.toNat] by simp [List.getD, hlt]]
            exact (CR.ofK hfr).tr
          · obtain ⟨h0, h1⟩ := inRange_iff (hq _ rfl)
            have hlt : n.toNat < vs.length := by omega
            have hg := hlr.get n.toNat hlt
            have hltc : n.toNat < cs.size := by simp at hll; omega
            refine index_arr_sound hty hlen hcs hy h0 h1 (u := cs[n.toNat]) (by simp [hltc]) ?_
            rw [show cs.toList.getD n.toNat undef = cs[n.toNat] by simp [List.getD, hltc]] at hg
            exact hg.tr
        · cases hp
      · cases hp
    · cases hp
  · -- indexAddr
    rename_i t x i
    split at hp
    · split at hp
      · rename_i len b o k n hlen hx hi
        cases hp
        obtain ⟨h0, h1⟩ := inRange_iff (hq _ rfl)
        have hy : a.eval i = .int k n := by have := ev i; rw [hi] at this; exact TR.int this
        have hxe : a.eval x = .pointer (some ⟨c.box b, o, none⟩) := by have := ev x; rw [hx] at this; exact this
        refine indexArr_sound hty hlen hxe hy h0 h1 ?_
        show _ = _
        unfold Addr.add
        split
        · rename_i hz; simp [hz]
        · rfl
      · rename_i len cs o k n hlen hx hi
        cases hp
        obtain ⟨h0, h1⟩ := inRange_iff (hq _ rfl)
        have hy : a.eval i = .int k n := by have := ev i; rw [hi] at this; exact TR.int this
        have := ev x; rw [hx] at this
        obtain ⟨g, arr, ty, fz, hv, hf, hh, hlr⟩ := this
        refine indexArr_sound hty hlen hv hy h0 h1 ?_
        refine ⟨g, arr, ty, fz, ?_, hf, hh, hlr⟩
        unfold Addr.add
        split
        · rename_i hz; simp [hz]
        · rfl
      · cases hp
    · rename_i hs
      obtain ⟨eT, e0, hl⟩ := isSlTy_ok (by simpa using hs)
      split at hp
      · rename_i k n hi
        have hy : a.eval i = .int k n := by have := ev i; rw [hi] at this; exact TR.int this
        split at hp
        · rename_i e xs hx; cases hp
          obtain ⟨h0, h1⟩ := inRange_iff (hq _ rfl)
          have hfr : FR w c.free (.sl e) xs (a.eval x) := by have := ev x; rw [hx] at this; exact this
          obtain ⟨ad, cap, u, hv, hf, hc, hu⟩ := hfr.elem (i := n.toNat) (by omega)
          exact indexAddr_sound hty hl hv rfl hy h0 h1 ⟨_, u, ad.add n.toNat, by simp [List.getD, show n.toNat < xs.length by omega], rfl, by rw [add_block]; exact hf, hc, hu⟩
        · rename_i m hx
          split at hp <;> cases hp
          rename_i r hr
          obtain ⟨h0, h1⟩ := inRange_iff (hq _ rfl)
          obtain ⟨g, arr, ty, cap, u, hh, _⟩ := (h.mem.rows _ _ hr).get (i := n.toNat) (by omega)
          have hx' : a.eval x = c.hv m := by have := ev x; rw [hx] at this; exact this
          have hadd : (⟨g, 0, none⟩ : Addr).add n.toNat = ⟨g, n.toNat, none⟩ := by unfold Addr.add; split <;> simp_all
          exact indexAddr_sound hty hl (hx'.trans hh) rfl hy h0 h1 (by rw [hadd]; exact ⟨g, _, cap, hh, by omega, rfl⟩)
        · rename_i m lo hi' hx
          split at hp <;> cases hp
          rename_i r hr
          obtain ⟨h0, h1⟩ := inRange_iff (hq _ rfl)
          have := ev x; rw [hx] at this
          obtain ⟨A, len, cap, hhv, hlo, hhi, hv⟩ := this
          obtain ⟨A', cap', hh', _, hor⟩ := h.mem.rows _ _ hr
          rw [hhv] at hh'
          cases hh'
          rcases hor with ⟨_, hx0, _⟩ | ⟨g, arr, ty, hA, _, _, _, hcap, _⟩
          · exfalso
            rw [hx0] at hhi
            simp at hhi
            omega
          · have hne : ¬ cap = lo := by omega
            rw [if_neg hne, hA] at hv
            refine indexAddr_sound hty hl hv rfl hy h0 h1 ?_
            refine ⟨g, _, cap, by rw [hhv, hA], (show lo + n.toNat < r.xs.length by omega), ?_⟩
            congr 2
            unfold Addr.add
            (repeat' split) <;> simp_all <;> omega
        · cases hp
          have := hq _ rfl
          cases this
        · cases hp
      · cases hp
  · -- load
    rename_i t x
    split at hp
    · rename_i e xs i hx
      split at hp <;> cases hp
      rename_i ht
      have := ev x; rw [hx] at this
      obtain ⟨y, u, ad, hy, hv, hf, hc, hu⟩ := this
      refine load_cell_sound (by simp [pureClass]) (tyCells_one hty ht) hv hc (fun _ n => by rw [show c.ow ad.block = none from hf]; simp) ?_
      have : xs.getD i e.dflt = y := by simp [List.getD, hy]
      rw [this]
      exact (CR.ofK hu).tr
    · rename_i n i hx
      split at hp
      · cases hp
      · rename_i ht
        split at hp <;> cases hp
        rename_i r hr
        have hlt := of_decide_eq_true (hq _ rfl)
        obtain ⟨g, arr, ty, cap, u, hh, ho, hw, ha, hu⟩ := (h.mem.rows _ _ hr).get hlt
        have := ev x; rw [hx] at this
        obtain ⟨g', len', cap', hh', _, hv⟩ := this
        rw [hh] at hh'
        cases hh'
        refine load_cell_sound (by simp [pureClass]) (tyCells_one hty (by simpa using ht)) hv (u := u) (by rw [heap_cell hw]; exact ha) (fun he => ?_) (CR.ofK hu).tr
        simp [elLoad, hx] at he
    · rename_i b o hx
      split at hp
      · rename_i cs size isA hb ht
        split at hp <;> cases hp
        rename_i hlt
        obtain ⟨ho, arr, ty, hh, hl⟩ := h.mem.boxes _ _ hb
        have := ev x; rw [hx] at this
        exact load_var_sound (by simp [pureClass]) hty ht this hh hl hlt (fun _ n => by rw [ho]; simp)
      · cases hp
    · rename_i cs o hx
      split at hp
      · rename_i size isA ht
        split at hp <;> cases hp
        rename_i hlt
        have := ev x; rw [hx] at this
        obtain ⟨g, arr, ty, fz, hv, hf, hh, hl⟩ := this
        exact load_var_sound (by simp [pureClass]) hty ht hv hh (LR.mono (fun _ _ => FC.cr) hl) hlt (fun _ n => by rw [show c.ow g = none from hf]; simp)
      · cases hp
    · cases hp
  · -- slice
    rename_i t x lo hi
    split at hp
    · rename_i s hx
      split at hp
      · cases hp
      · rename_i hs
        split at hp <;> cases hp
        rename_i l h' hl hh
        obtain ⟨b1, b2⟩ := bound_ok h hg hl
        obtain ⟨b3, b4⟩ := bound_ok h hg hh
        have := hq _ rfl
        simp only [Bool.and_eq_true, decide_eq_true_eq] at this
        exact slice_str_sound (isStrTy_ok hty (by simpa using hs)) (by have := ev x; rw [hx] at this; exact TR.str this) b1 b2 b3 b4 this.1.1 this.1.2 this.2
    · rename_i e xs hx
      split at hp
      · cases hp
      · rename_i hs
        obtain ⟨eT, e0, hlt⟩ := isSlTy_ok (by simpa using hs)
        split at hp <;> cases hp
        rename_i l h' hl hh
        obtain ⟨b1, b2⟩ := bound_ok h hg hl
        obtain ⟨b3, b4⟩ := bound_ok h hg hh
        have := hq _ rfl
        simp only [Bool.and_eq_true, decide_eq_true_eq] at this
        obtain ⟨⟨h0, h1⟩, h2⟩ := this
        have hfr : FR w c.free (.sl e) xs (a.eval x) := by have := ev x; rw [hx] at this; exact this
        obtain ⟨A, cap, e1, e2, e3, e4⟩ := hfr
        refine slice_sl_sound hty hlt e1 b1 b2 b3 b4 h0 h1 h2 e2 ?_
        refine ⟨if cap = l.toNat then A else A.map (·.add l.toNat), cap - l.toNat, by congr 1; simp; omega, by simp; omega, by simp; omega, fun hpos => ?_⟩
        simp at hpos
        obtain ⟨ad, rfl, hf, hc⟩ := e4 (by omega)
        have hne : ¬ cap = l.toNat := by omega
        refine ⟨ad.add l.toNat, by simp [hne], by rw [add_block]; exact hf, fun i y hi => ?_⟩
        have hadd : (ad.add l.toNat).add i = ad.add (l.toNat + i) := by unfold Addr.add; (repeat' split) <;> simp_all <;> omega
        rw [hadd]
        refine hc _ _ ?_
        rw [List.getElem?_drop] at hi
        rw [List.getElem?_take] at hi
        split at hi
        · exact hi
        · cases hi
    · rename_i n hx
      split at hp
      · cases hp
      · rename_i hs
        obtain ⟨eT, e0, hlt⟩ := isSlTy_ok (by simpa using hs)
        split at hp
        · rename_i r hr
          split at hp <;> cases hp
          rename_i l h' hl hh
          obtain ⟨b1, b2⟩ := bound_ok h hg hl
          obtain ⟨b3, b4⟩ := bound_ok h hg hh
          have := hq _ rfl
          simp only [Bool.and_eq_true, decide_eq_true_eq] at this
          obtain ⟨⟨h0, h1⟩, h2⟩ := this
          obtain ⟨A, cap, hd, _, hor⟩ := h.mem.rows _ _ hr
          have hx' : a.eval x = c.hv n := by have := ev x; rw [hx] at this; exact this
          have hcap : r.xs.length ≤ cap := by
            rcases hor with ⟨_, h2, h3⟩ | ⟨_, _, _, _, _, _, _, h3, _⟩
            · rw [h2]; simp
            · exact h3
          exact slice_sl_sound hty hlt (hx'.trans hd) b1 b2 b3 b4 h0 h1 h2 hcap ⟨A, _, cap, hd, by omega, by omega, rfl⟩
        · cases hp
    · rename_i hx
      split at hp
      · rename_i eT e hlt
        split at hp <;> cases hp
        rename_i l h' hl hh
        obtain ⟨b1, b2⟩ := bound_ok h hg hl
        obtain ⟨b3, b4⟩ := bound_ok h hg hh
        have := hq _ rfl
        simp only [Bool.and_eq_true, decide_eq_true_eq] at this
        obtain ⟨⟨h0, h1⟩, h2⟩ := this
        have hx' : a.eval x = .slice none 0 0 := by have := ev x; rw [hx] at this; exact this
        refine slice_sl_sound hty hlt hx' b1 b2 b3 (by simpa using b4) h0 h1 (by simpa using h2) (Nat.le_refl _) ?_
        have e1 : l = 0 := by omega
        have e2 : h' = 0 := by omega
        subst e1; subst e2
        exact ⟨none, 0, rfl, by simp, by simp [LIM], fun h => by simp at h⟩
      · cases hp
    · cases hp
  · -- extract
    rename_i x i
    split at hp
    · rename_i vs hx
      split at hp <;> cases hp
      rename_i hi
      exact extract_sound (x := x) (by have := ev x; rw [hx] at this; exact this) hi
    · cases hp
  · -- build
    rename_i t parts
    split at hp
    · rename_i n fs zs hl
      split at hp
      · rename_i hne
        split at hp <;> cases hp
        rename_i vs hb
        simp only [List.all_eq_true, Bool.not_eq_true', List.isEmpty_eq_false_iff] at hne
        exact build_sound hty h hg hl hne hb
      · cases hp
    · cases hp
  · -- makeFunc
    rename_i f first captured
    split at hp <;> cases hp
    rename_i hall
    simp only [Bool.and_eq_true, List.all_eq_true] at hall
    refine Gives.pure (x := .func (.func f) (first.map a.eval) (captured.map a.eval)) ⟨_, _, rfl, ?_, ?_⟩ fun w' dst ty pos after gd => by simp [execOp, Instr.makeFunc]
    · rw [Array.toList_map]
      exact LR.of_map' _ _ _ _ fun o ho => TR.ar_of (ev o) (hall.1 _ (List.mem_map_of_mem ho))
    · rw [Array.toList_map]
      exact LR.of_map' _ _ _ _ fun o ho => TR.ar_of (ev o) (hall.2 _ (List.mem_map_of_mem ho))
  · -- len
    rename_i args ts
    split at hp
    · rename_i x t hargs ht
      obtain rfl : args = #[x] := Array.ext' hargs
      split at hp
      · rename_i s hx
        split at hp <;> cases hp
        rename_i hs
        exact len_sound ht (isStrTy_ok hty hs) (.inl ⟨rfl, s, by have := ev x; rw [hx] at this; exact TR.str this, rfl⟩)
      · split at hp
        · rename_i hs
          obtain ⟨eT, e0, hl⟩ := isSlTy_ok hs
          have hu := (hty _ _ hl).1
          split at hp <;> cases hp
          rename_i n hn
          have hx := ev x
          unfold lenOf at hn
          split at hn
          · rename_i e xs hv; cases hn; rw [hv] at hx
            obtain ⟨A, cap, e1, _⟩ := hx
            exact len_sound ht hu (.inr ⟨_, A, cap, rfl, e1⟩)
          · rename_i hv; cases hn; rw [hv] at hx
            exact len_sound ht hu (.inr ⟨_, none, 0, rfl, hx⟩)
          · rename_i m hv
            split at hn <;> cases hn
            rename_i r hr
            rw [hv] at hx
            obtain ⟨A, cap, hd, _⟩ := h.mem.rows _ _ hr
            exact len_sound ht hu (.inr ⟨_, A, cap, rfl, Eq.trans hx hd⟩)
          · rename_i m lo hi hv; cases hn; rw [hv] at hx
            obtain ⟨A, l, cap, hd, _, _, e1⟩ := hx
            exact len_sound ht hu (.inr ⟨_, _, _, rfl, e1⟩)
          · cases hn
        · cases hp
    · cases hp
  · -- max
    rename_i args ts
    split at hp
    · rename_i x y hargs
      obtain rfl : args = #[x, y] := Array.ext' hargs
      split at hp <;> cases hp
      rename_i k m k' n hx hy
      exact max_sound (by have := ev x; rw [hx] at this; exact TR.int this) (by have := ev y; rw [hy] at this; exact TR.int this)
    · cases hp
  · -- min
    rename_i args ts
    split at hp
    · rename_i x y hargs
      obtain rfl : args = #[x, y] := Array.ext' hargs
      split at hp <;> cases hp
      rename_i k m k' n hx hy
      exact min_sound (by have := ev x; rw [hx] at this; exact TR.int this) (by have := ev y; rw [hy] at this; exact TR.int this)
    · cases hp
  · cases hp
end
end Go.VS
