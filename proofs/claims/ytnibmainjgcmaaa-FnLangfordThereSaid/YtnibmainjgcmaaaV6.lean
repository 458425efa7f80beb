/- What makes or writes memory, in one law. -/
import Derived.Test.YtnibmainjgcmaaaV5
set_option linter.unusedVariables false
set_option linter.unusedSimpArgs false
namespace Go.VS
section
variable {P : Program} {cx : Cx} {st : St} {c c' c'' : Cfg} {a : Act} {w w' w'' : World} {gs : List (Nat × Bool)}

def isStore : Op → Bool
  | .store .. => true
  | _ => false

theorem eff_sound (hty : TyOk P cx) (h : Rel st c a w) (hg : Holds a gs) {dst : Option Nat} {op : Op} {k : St → Option R} {r : R} (hk : effOp cx st gs dst op k = some r) :
    Comes2 P c a w dst op (!isStore op) k r := by
  unfold effOp at hk
  split at hk
  · -- alloc
    rename_i t
    split at hk
    · rename_i d zs hz; exact alloc_sound hty h hz hk
    · cases hk
  · -- box
    split at hk
    · rename_i d n _ ht
      simp only at hk
      split at hk
      · rename_i hc
        simp only [Bool.and_eq_true, List.all_eq_true] at hc
        exact box_sound (n := n) hty h hg hc.2 hk
      · cases hk
    · cases hk
  · -- buildSlice
    split at hk
    · rename_i d eT e hl
      split at hk
      · rename_i hp
        simp only at hk
        split at hk
        · rename_i xs hxs
          split at hk
          · rename_i hlen
            exact buildSlice_sound hty h hg hl hp hxs hlen hk
          · cases hk
        · cases hk
      · cases hk
    · cases hk
  · -- makeSlice
    split at hk
    · rename_i d eT e k1 n k2 m hl hx hy
      split at hk
      · rename_i hc
        simp only [Bool.and_eq_true, decide_eq_true_eq] at hc
        have h1 := opd_sound h hg ‹_›
        exact makeSlice_sound hty h hl (TR.int (hx ▸ opd_sound h hg _)) (TR.int (hy ▸ opd_sound h hg _)) hc.1.1 hc.1.2 (by have := hc.2; unfold most at *; omega) hk
      · cases hk
    · cases hk
  · -- store
    split at hk
    · cases hk
    · split at hk
      · rename_i n i hx
        split at hk
        · cases hk
        · rename_i r0 hr0
          simp only at hk
          split at hk
          · rename_i r' x hr' hv
            split at hk
            · rename_i he _
              split at hk
              · rename_i hc
                simp only [Bool.and_eq_true, decide_eq_true_eq] at hc
                refine storeRow_sound hty h hg hx hc.2 hr' (v := he ▸ x) ?_ hc.1 hk
                clear hk
                revert x
                obtain ⟨e', xs'⟩ := r'
                simp only at he
                subst he
                exact fun _ h => h
              · cases hk
            · cases hk
          · cases hk
      · rename_i b o hx
        split at hk
        · rename_i cs n isA hb ht
          simp only at hk
          split at hk
          · rename_i hc
            simp only [Bool.and_eq_true, decide_eq_true_eq] at hc
            split at hk
            · rename_i cs' hp
              exact storeBox_sound hty h hg hx ht hb hc.1 (by intro e; rw [e] at hc; simp at hc) hp hk
            · cases hk
          · cases hk
        · cases hk
      · cases hk
  · -- append
    rename_i args argTypes
    split at hk
    · rename_i d t t' x y ht ha
      split at hk
      · rename_i eT e hl
        split at hk
        · rename_i hl'
          have e1 : args = #[x, y] := by rw [← Array.toArray_toList (xs := args), ha]
          have e2 : argTypes = #[t, t'] := by rw [← Array.toArray_toList (xs := argTypes), ht]
          subst e1; subst e2
          exact append_sound hty h hg hl hl' hk
        · cases hk
      · cases hk
    · cases hk
  · cases hk

end
end Go.VS
/- A call is entered: the callee's values are the caller's, under the callee's names. -/
set_option linter.unusedVariables false
set_option linter.unusedSimpArgs false
namespace Go.VS
section
variable {P : Program} {cx : Cx} {st : St} {c c' c'' : Cfg} {a : Act} {w w' w'' : World} {gs : List (Nat × Bool)} {E E' E'' : Ent}

def TL (r : V → V → Prop) : List V → List V → Prop
  | [], [] => True
  | v :: vs, x :: xs => r v x ∧ TL r vs xs
  | _, _ => False

def TrC (E : Ent) : V → V → Prop
  | .row n, v' => (∃ k, E.pr[k]? = some n ∧ v' = .row k) ∨ (∃ r, n ∈ E.rd ∧ look E.st.rows n = some r ∧ v' = .sl r.e r.xs)
  | .view n lo hi, v' => ∃ r, n ∈ E.rd ∧ look E.st.rows n = some r ∧ v' = .sl r.e (r.part lo hi)
  | .lit b, v' => v' = .bool b
  | .int k n, v' => v' = .int k n
  | .bool b, v' => v' = .bool b
  | .str s, v' => v' = .str s
  | .sl e xs, v' => v' = .sl e xs
  | .snil, v' => v' = .snil
  | .fnil, v' => v' = .fnil
  | .fp cs o, v' => v' = .fp cs o
  | _, _ => False

def TrA (E : Ent) : V → V → Prop
  | .agg vs, v' => ∃ vs', v' = .agg vs' ∧ TL (TrC E) vs vs'
  | .ptr b o, v' => (∃ k, E.pb[k]? = some b ∧ v' = .ptr k o) ∨ (∃ cs, b ∈ E.rb ∧ look E.st.boxes b = some cs ∧ cs.all V.isFrozenCell = true ∧ v' = .fp cs o)
  | v, v' => TrC E v v'

def TrCl (E : Ent) : V → V → Prop
  | .clo f fi ca, v' => ∃ fi' ca', v' = .clo f fi' ca' ∧ TL (TrA E) fi fi' ∧ TL (TrA E) ca ca'
  | v, v' => TrA E v v'

structure EGrow (E E' : Ent) : Prop where
  st : E'.st = E.st
  pr : ∀ (k : Nat) n, E.pr[k]? = some n → E'.pr[k]? = some n
  pb : ∀ (k : Nat) n, E.pb[k]? = some n → E'.pb[k]? = some n
  rd : ∀ n ∈ E.rd, n ∈ E'.rd
  rb : ∀ n ∈ E.rb, n ∈ E'.rb

theorem EGrow.refl (E : Ent) : EGrow E E := ⟨rfl, fun _ _ h => h, fun _ _ h => h, fun _ h => h, fun _ h => h⟩
theorem EGrow.trans (h : EGrow E E') (h' : EGrow E' E'') : EGrow E E'' :=
  ⟨h'.st.trans h.st, fun k n x => h'.pr k n (h.pr k n x), fun k n x => h'.pb k n (h.pb k n x), fun n x => h'.rd n (h.rd n x), fun n x => h'.rb n (h.rb n x)⟩

theorem TL.mono {r r' : V → V → Prop} (h : ∀ v x, r v x → r' v x) : ∀ {vs xs : List V}, TL r vs xs → TL r' vs xs
  | [], [], _ => trivial
  | _ :: _, _ :: _, hl => ⟨h _ _ hl.1, TL.mono h hl.2⟩
  | [], _ :: _, h => h.elim
  | _ :: _, [], h => h.elim

theorem TrC.grow (g : EGrow E E') {v v' : V} (h : TrC E v v') : TrC E' v v' := by
  cases v
  case row =>
    rcases h with ⟨k, h1, h2⟩ | ⟨r, h1, h2, h3⟩
    · exact .inl ⟨k, g.pr k _ h1, h2⟩
    · exact .inr ⟨r, g.rd _ h1, by rw [g.st]; exact h2, h3⟩
  case view =>
    obtain ⟨r, h1, h2, h3⟩ := h
    exact ⟨r, g.rd _ h1, by rw [g.st]; exact h2, h3⟩
  all_goals exact h

theorem TrA.grow (g : EGrow E E') : ∀ {v v' : V}, TrA E v v' → TrA E' v v'
  | .ptr b o, v', h => by
    rcases h with ⟨k, h1, h2⟩ | ⟨r, h1, h2, h3⟩
    · exact .inl ⟨k, g.pb k _ h1, h2⟩
    · exact .inr ⟨r, g.rb _ h1, by rw [g.st]; exact h2, h3⟩
  | .agg vs, v', h => by
    obtain ⟨vs', h1, h2⟩ := h
    exact ⟨vs', h1, TL.mono (fun _ _ => TrC.grow g) h2⟩
  | .int k n, u, h => TrC.grow (v := .int k n) (v' := u) g h
  | .bool b, u, h => TrC.grow (v := .bool b) (v' := u) g h
  | .lit b, u, h => TrC.grow (v := .lit b) (v' := u) g h
  | .str s, u, h => TrC.grow (v := .str s) (v' := u) g h
  | .sl e xs, u, h => TrC.grow (v := .sl e xs) (v' := u) g h
  | .snil , u, h => TrC.grow (v := .snil ) (v' := u) g h
  | .row n, u, h => TrC.grow (v := .row n) (v' := u) g h
  | .view n lo hi, u, h => TrC.grow (v := .view n lo hi) (v' := u) g h
  | .el n i, u, h => TrC.grow (v := .el n i) (v' := u) g h
  | .fel e xs i, u, h => TrC.grow (v := .fel e xs i) (v' := u) g h
  | .fnil , u, h => TrC.grow (v := .fnil ) (v' := u) g h
  | .dead , u, h => TrC.grow (v := .dead ) (v' := u) g h
  | .fp cs o, u, h => TrC.grow (v := .fp cs o) (v' := u) g h
  | .tup vs, u, h => TrC.grow (v := .tup vs) (v' := u) g h
  | .clo f fi ca, u, h => TrC.grow (v := .clo f fi ca) (v' := u) g h

theorem TrCl.grow (g : EGrow E E') : ∀ {v v' : V}, TrCl E v v' → TrCl E' v v'
  | .clo f fi ca, v', h => by
    obtain ⟨fi', ca', h1, h2, h3⟩ := h
    exact ⟨fi', ca', h1, TL.mono (fun _ _ => TrA.grow g) h2, TL.mono (fun _ _ => TrA.grow g) h3⟩
  | .int k n, u, h => TrA.grow (v := .int k n) (v' := u) g h
  | .bool b, u, h => TrA.grow (v := .bool b) (v' := u) g h
  | .lit b, u, h => TrA.grow (v := .lit b) (v' := u) g h
  | .str s, u, h => TrA.grow (v := .str s) (v' := u) g h
  | .sl e xs, u, h => TrA.grow (v := .sl e xs) (v' := u) g h
  | .snil , u, h => TrA.grow (v := .snil ) (v' := u) g h
  | .row n, u, h => TrA.grow (v := .row n) (v' := u) g h
  | .view n lo hi, u, h => TrA.grow (v := .view n lo hi) (v' := u) g h
  | .el n i, u, h => TrA.grow (v := .el n i) (v' := u) g h
  | .fel e xs i, u, h => TrA.grow (v := .fel e xs i) (v' := u) g h
  | .fnil , u, h => TrA.grow (v := .fnil ) (v' := u) g h
  | .dead , u, h => TrA.grow (v := .dead ) (v' := u) g h
  | .fp cs o, u, h => TrA.grow (v := .fp cs o) (v' := u) g h
  | .tup vs, u, h => TrA.grow (v := .tup vs) (v' := u) g h
  | .ptr b o, u, h => TrA.grow (v := .ptr b o) (v' := u) g h
  | .agg vs, u, h => TrA.grow (v := .agg vs) (v' := u) g h

theorem TrC.toA {v v' : V} (h : TrC E v v') : TrA E v v' := by cases v <;> first | exact h | exact h.elim
theorem TrA.toCl {v v' : V} (h : TrA E v v') : TrCl E v v' := by cases v <;> first | exact h | exact h.elim

structure EGood (E : Ent) : Prop where
  nd : ∀ (i j n : Nat), E.pr[i]? = some n → E.pr[j]? = some n → i = j
  dis : ∀ n ∈ E.rd, n ∉ E.pr
  ndb : ∀ (i j n : Nat), E.pb[i]? = some n → E.pb[j]? = some n → i = j
  disb : ∀ n ∈ E.rb, n ∉ E.pb
  rows : ∀ k r, look E.rows k = some r → ∃ n, E.pr[k]? = some n ∧ look E.st.rows n = some r
  boxes : ∀ k cs', look E.boxes k = some cs' → ∃ b cs, E.pb[k]? = some b ∧ look E.st.boxes b = some cs ∧ TL (TrC E) cs cs'
  rdl : ∀ n ∈ E.rd, look E.st.rows n ≠ none
  rbl : ∀ n ∈ E.rb, look E.st.boxes n ≠ none
  has : ∀ k, k < E.pr.length → look E.rows k ≠ none
  hasb : ∀ k, k < E.pb.length → look E.boxes k ≠ none

theorem EGood.empty (st : St) : EGood { st := st, rows := [], boxes := [], pr := [], pb := [], rd := [], rb := [] } :=
  ⟨fun _ _ _ h => (by simp at h), fun _ h => (by cases h), fun _ _ _ h => (by simp at h), fun _ h => (by cases h), fun _ _ h => (by cases h), fun _ _ h => (by cases h), fun _ h => (by cases h), fun _ h => (by cases h), fun _ h => absurd h (Nat.not_lt_zero _), fun _ h => absurd h (Nat.not_lt_zero _)⟩

theorem look_append {α : Type} : ∀ (l l' : List (Nat × α)) (n : Nat), look (l ++ l') n = match look l n with | some x => some x | none => look l' n
  | [], _, _ => rfl
  | (k, x) :: l, l', n => by
    simp only [List.cons_append, look]
    split
    · rfl
    · exact look_append l l' n

theorem nd_snoc {l : List Nat} {m : Nat} (h : ∀ (i j n : Nat), l[i]? = some n → l[j]? = some n → i = j) (hm : m ∉ l) : ∀ (i j n : Nat), (l ++ [m])[i]? = some n → (l ++ [m])[j]? = some n → i = j := by
  have key : ∀ i n, (l ++ [m])[i]? = some n → (i < l.length ∧ l[i]? = some n) ∨ (i = l.length ∧ n = m) := by
    intro i n hi
    by_cases hlt : i < l.length
    · rw [List.getElem?_append_left hlt] at hi; exact .inl ⟨hlt, hi⟩
    · rw [List.getElem?_append_right (by omega)] at hi
      have : i - l.length = 0 := by
        by_cases h0 : i - l.length = 0
        · exact h0
        · rw [List.getElem?_eq_none (by simp; omega)] at hi; cases hi
      rw [this] at hi; simp at hi
      exact .inr ⟨by omega, hi.symm⟩
  intro i j n hi hj
  rcases key i n hi with ⟨h1, h2⟩ | ⟨h1, h2⟩ <;> rcases key j n hj with ⟨h3, h4⟩ | ⟨h3, h4⟩
  · exact h i j n h2 h4
  · subst h4; exact absurd (List.mem_of_getElem? h2) hm
  · subst h2; exact absurd (List.mem_of_getElem? h4) hm
  · omega

theorem snoc_pr {l : List Nat} {m : Nat} (k n : Nat) (h : l[k]? = some n) : (l ++ [m])[k]? = some n := by
  rw [List.getElem?_append_left (List.getElem?_eq_some_iff.1 h).1]; exact h

theorem snoc_has {α : Type} {pr : List Nat} {rows : List (Nat × α)} {r : α} {n : Nat} (h : ∀ k, k < pr.length → look rows k ≠ none) : ∀ k, k < (pr ++ [n]).length → look (rows ++ [(pr.length, r)]) k ≠ none := by
  intro k hk
  rw [look_append]
  simp only [List.length_append, List.length_cons, List.length_nil] at hk
  by_cases hlt : k < pr.length
  · have := h k hlt
    cases hq : look rows k with
    | none => exact absurd hq this
    | some x => simp
  · have : k = pr.length := by omega
    subst this
    cases hq : look rows pr.length <;> simp [look]

theorem rowIn_ok (g : EGood E) {own : Bool} {n : Nat} {v' : V} (h : E.rowIn own n = some (v', E')) : EGood E' ∧ EGrow E E' ∧ TrC E' (.row n) v' ∧ (E'.pb = E.pb ∧ E'.rb = E.rb) ∧ (own = false → E'.pr = E.pr) := by
  unfold Ent.rowIn at h
  cases hr : look E.st.rows n with
  | none => rw [hr] at h; cases h
  | some r =>
    rw [hr] at h
    cases own with
    | true =>
      simp only [if_true] at h
      split at h
      · cases h
      · rename_i hc
        cases h
        simp only [Bool.or_eq_true, List.contains_iff_mem, not_or] at hc
        have gr : EGrow E { E with rows := E.rows ++ [(E.pr.length, r)], pr := E.pr ++ [n] } :=
          ⟨rfl, fun k m h => snoc_pr k m h, fun _ _ h => h, fun _ h => h, fun _ h => h⟩
        refine ⟨⟨nd_snoc g.nd hc.1, fun m hm => ?_, g.ndb, g.disb, fun k r' hk => ?_, fun k cs' hk => ?_, g.rdl, g.rbl, snoc_has g.has, g.hasb⟩, gr, .inl ⟨E.pr.length, by simp, rfl⟩, ⟨rfl, rfl⟩, fun h => by cases h⟩
        · simp only [List.mem_append, List.mem_singleton, not_or]
          exact ⟨g.dis m hm, fun e => by subst e; exact hc.2 hm⟩
        · simp only [look_append] at hk
          cases hl : look E.rows k with
          | some r2 =>
            rw [hl] at hk; cases hk
            obtain ⟨m, h1, h2⟩ := g.rows _ _ hl
            exact ⟨m, snoc_pr _ _ h1, h2⟩
          | none =>
            rw [hl] at hk
            simp only [look] at hk
            split at hk
            · rename_i e; subst e; cases hk; exact ⟨n, by simp, hr⟩
            · cases hk
        · obtain ⟨b, cs, h1, h2, h3⟩ := g.boxes _ _ hk
          exact ⟨b, cs, h1, h2, TL.mono (fun _ _ => TrC.grow gr) h3⟩
    | false =>
      simp only [Bool.false_eq_true, if_false] at h
      split at h
      · cases h
      · rename_i hc
        cases h
        simp only [List.contains_iff_mem] at hc
        have gr : EGrow E { E with rd := n :: E.rd } := ⟨rfl, fun _ _ h => h, fun _ _ h => h, fun _ h => List.mem_cons_of_mem _ h, fun _ h => h⟩
        refine ⟨⟨g.nd, fun m hm => ?_, g.ndb, g.disb, g.rows, fun k cs' hk => ?_, fun m hm => (List.mem_cons.1 hm).elim (fun e => by subst e; show look E.st.rows m ≠ none; rw [hr]; simp) (g.rdl m), g.rbl, g.has, g.hasb⟩, gr, .inr ⟨r, List.mem_cons_self .., hr, rfl⟩, ⟨rfl, rfl⟩, fun _ => rfl⟩
        · rcases List.mem_cons.1 hm with rfl | hm
          · exact hc
          · exact g.dis m hm
        · obtain ⟨b, cs, h1, h2, h3⟩ := g.boxes _ _ hk
          exact ⟨b, cs, h1, h2, TL.mono (fun _ _ => TrC.grow gr) h3⟩

theorem cellIn_ok (g : EGood E) {own : Bool} {v v' : V} (h : E.cellIn own v = some (v', E')) : EGood E' ∧ EGrow E E' ∧ TrC E' v v' ∧ (E'.pb = E.pb ∧ E'.rb = E.rb) ∧ (own = false → E'.pr = E.pr) := by
  unfold Ent.cellIn at h
  split at h
  · exact rowIn_ok g h
  · rename_i n lo hi
    split at h
    · rename_i r hr
      split at h
      · cases h
      · rename_i hc
        cases h
        simp only [List.contains_iff_mem] at hc
        have gr : EGrow E { E with rd := n :: E.rd } := ⟨rfl, fun _ _ h => h, fun _ _ h => h, fun _ h => List.mem_cons_of_mem _ h, fun _ h => h⟩
        refine ⟨⟨g.nd, fun m hm => ?_, g.ndb, g.disb, g.rows, fun k cs' hk => ?_, fun m hm => (List.mem_cons.1 hm).elim (fun e => by subst e; show look E.st.rows m ≠ none; rw [hr]; simp) (g.rdl m), g.rbl, g.has, g.hasb⟩, gr, ⟨r, List.mem_cons_self .., hr, rfl⟩, ⟨rfl, rfl⟩, fun _ => rfl⟩
        · rcases List.mem_cons.1 hm with rfl | hm
          · exact hc
          · exact g.dis m hm
        · obtain ⟨b, cs, h1, h2, h3⟩ := g.boxes _ _ hk
          exact ⟨b, cs, h1, h2, TL.mono (fun _ _ => TrC.grow gr) h3⟩
    · cases h
  all_goals first
    | (cases h; exact ⟨g, EGrow.refl _, rfl, ⟨rfl, rfl⟩, fun _ => rfl⟩)
    | cases h

theorem cellsIn_ok : ∀ {vs vs' : List V} {E E' : Ent} {own : Bool}, EGood E → E.cellsIn own vs = some (vs', E') → EGood E' ∧ EGrow E E' ∧ TL (TrC E') vs vs' ∧ (E'.pb = E.pb ∧ E'.rb = E.rb) ∧ (own = false → E'.pr = E.pr)
  | [], vs', E, E', own, g, h => by simp only [Ent.cellsIn] at h; cases h; exact ⟨g, EGrow.refl _, trivial, ⟨rfl, rfl⟩, fun _ => rfl⟩
  | v :: vs, vs', E, E', own, g, h => by
    simp only [Ent.cellsIn] at h
    cases h1 : E.cellIn own v with
    | none => rw [h1] at h; cases h
    | some q =>
      obtain ⟨v1, E1⟩ := q
      rw [h1] at h
      simp only at h
      cases h2 : E1.cellsIn own vs with
      | none => rw [h2] at h; cases h
      | some q =>
        obtain ⟨vs1, E2⟩ := q
        rw [h2] at h
        cases h
        obtain ⟨g1, gr1, t1, b1, p1⟩ := cellIn_ok g h1
        obtain ⟨g2, gr2, t2, b2, p2⟩ := cellsIn_ok g1 h2
        exact ⟨g2, gr1.trans gr2, ⟨TrC.grow gr2 t1, t2⟩, ⟨b2.1.trans b1.1, b2.2.trans b1.2⟩, fun h => (p2 h).trans (p1 h)⟩

theorem aggIn_ok (g : EGood E) {own : Bool} {v v' : V} (h : E.aggIn own v = some (v', E')) : EGood E' ∧ EGrow E E' ∧ TrA E' v v' ∧ (own = false → E'.pr = E.pr ∧ E'.pb = E.pb) := by
  unfold Ent.aggIn at h
  split at h
  · rename_i vs
    cases h1 : E.cellsIn own vs with
    | none => rw [h1] at h; cases h
    | some q =>
      obtain ⟨vs1, E1⟩ := q
      rw [h1] at h
      cases h
      obtain ⟨g1, gr1, t1, b1, p1⟩ := cellsIn_ok g h1
      exact ⟨g1, gr1, ⟨vs1, rfl, t1⟩, fun h => ⟨p1 h, b1.1⟩⟩
  · rename_i b o
    split at h
    · cases h
    · rename_i cs hcs
      cases own with
      | true =>
        simp only [if_true] at h
        split at h
        · cases h
        · rename_i hc
          simp only [Bool.or_eq_true, List.contains_iff_mem, not_or] at hc
          cases h1 : E.cellsIn true cs with
          | none => rw [h1] at h; cases h
          | some q =>
            obtain ⟨cs1, E1⟩ := q
            rw [h1] at h
            cases h
            obtain ⟨g1, gr1, t1, b1, p1⟩ := cellsIn_ok g h1
            have gr : EGrow E1 { E1 with boxes := E1.boxes ++ [(E1.pb.length, cs1)], pb := E1.pb ++ [b] } :=
              ⟨rfl, fun _ _ h => h, fun k m h => snoc_pr k m h, fun _ h => h, fun _ h => h⟩
            refine ⟨⟨g1.nd, g1.dis, nd_snoc g1.ndb (by rw [b1.1]; exact hc.1), fun m hm => ?_, g1.rows, fun k cs' hk => ?_, g1.rdl, g1.rbl, g1.has, snoc_has g1.hasb⟩, gr1.trans gr, .inl ⟨E1.pb.length, by simp, rfl⟩, fun h => by cases h⟩
            · simp only [List.mem_append, List.mem_singleton, not_or]
              exact ⟨g1.disb m hm, fun e => by subst e; exact hc.2 (by rw [← b1.2]; exact hm)⟩
            · simp only [look_append] at hk
              cases hl : look E1.boxes k with
              | some r2 =>
                rw [hl] at hk; cases hk
                obtain ⟨m, cs0, h1, h2, h3⟩ := g1.boxes _ _ hl
                exact ⟨m, cs0, snoc_pr _ _ h1, h2, TL.mono (fun _ _ => TrC.grow gr) h3⟩
              | none =>
                rw [hl] at hk
                simp only [look] at hk
                split at hk
                · rename_i e; subst e; cases hk
                  exact ⟨b, cs, by simp, by show look E1.st.boxes b = _; rw [gr1.st]; exact hcs, TL.mono (fun _ _ => TrC.grow gr) t1⟩
                · cases hk
      | false =>
        simp only [Bool.false_eq_true, if_false] at h
        split at h
        · cases h
        · rename_i hc
          split at h
          · rename_i hf
            cases h
            simp only [List.contains_iff_mem] at hc
            have gr : EGrow E { E with rb := b :: E.rb } := ⟨rfl, fun _ _ h => h, fun _ _ h => h, fun _ h => h, fun _ h => List.mem_cons_of_mem _ h⟩
            refine ⟨⟨g.nd, g.dis, g.ndb, fun m hm => ?_, g.rows, fun k cs' hk => ?_, g.rdl, fun m hm => (List.mem_cons.1 hm).elim (fun e => by subst e; show look E.st.boxes m ≠ none; rw [hcs]; simp) (g.rbl m), g.has, g.hasb⟩, gr, .inr ⟨cs, List.mem_cons_self .., hcs, hf, rfl⟩, fun _ => ⟨rfl, rfl⟩⟩
            · rcases List.mem_cons.1 hm with rfl | hm
              · exact hc
              · exact g.disb m hm
            · obtain ⟨b, cs, h1, h2, h3⟩ := g.boxes _ _ hk
              exact ⟨b, cs, h1, h2, TL.mono (fun _ _ => TrC.grow gr) h3⟩
          · cases h
  · obtain ⟨g1, gr1, t1, b1, p1⟩ := cellIn_ok g h
    exact ⟨g1, gr1, t1.toA, fun h => ⟨p1 h, b1.1⟩⟩

theorem listIn_ok : ∀ {vs vs' : List V} {E E' : Ent} {m : List Bool}, EGood E → E.listIn vs m = some (vs', E') → EGood E' ∧ EGrow E E' ∧ TL (TrA E') vs vs' ∧ (m.all (!·) = true → E'.pr = E.pr ∧ E'.pb = E.pb)
  | [], vs', E, E', m, g, h => by simp only [Ent.listIn] at h; cases h; exact ⟨g, EGrow.refl _, trivial, fun _ => ⟨rfl, rfl⟩⟩
  | v :: vs, vs', E, E', m, g, h => by
    simp only [Ent.listIn] at h
    cases h1 : E.aggIn (m.headD false) v with
    | none => rw [h1] at h; cases h
    | some q =>
      obtain ⟨v1, E1⟩ := q
      rw [h1] at h
      simp only at h
      cases h2 : E1.listIn vs m.tail with
      | none => rw [h2] at h; cases h
      | some q =>
        obtain ⟨vs1, E2⟩ := q
        rw [h2] at h
        cases h
        obtain ⟨g1, gr1, t1, p1⟩ := aggIn_ok g h1
        obtain ⟨g2, gr2, t2, p2⟩ := listIn_ok g1 h2
        refine ⟨g2, gr1.trans gr2, ⟨TrA.grow gr2 t1, t2⟩, fun h => ?_⟩
        have h3 : m.headD false = false ∧ m.tail.all (!·) = true := by
          cases m with
          | nil => exact ⟨rfl, rfl⟩
          | cons b m => simpa using h
        exact ⟨(p2 h3.2).1.trans (p1 h3.1).1, (p2 h3.2).2.trans (p1 h3.1).2⟩

theorem argIn_ok (g : EGood E) {m : List Bool} {v v' : V} (h : E.argIn m v = some (v', E')) : EGood E' ∧ EGrow E E' ∧ TrCl E' v v' ∧ (m.all (!·) = true → E'.pr = E.pr ∧ E'.pb = E.pb) := by
  unfold Ent.argIn at h
  split at h
  · rename_i f fi ca
    cases h1 : E.listIn fi [] with
    | none => rw [h1] at h; cases h
    | some q =>
      obtain ⟨fi1, E1⟩ := q
      rw [h1] at h
      simp only at h
      cases h2 : E1.listIn ca m with
      | none => rw [h2] at h; cases h
      | some q =>
        obtain ⟨ca1, E2⟩ := q
        rw [h2] at h
        cases h
        obtain ⟨g1, gr1, t1, p1⟩ := listIn_ok g h1
        obtain ⟨g2, gr2, t2, p2⟩ := listIn_ok g1 h2
        refine ⟨g2, gr1.trans gr2, ⟨fi1, ca1, rfl, TL.mono (fun _ _ => TrA.grow gr2) t1, t2⟩, fun h => ?_⟩
        exact ⟨(p2 h).1.trans (p1 rfl).1, (p2 h).2.trans (p1 rfl).2⟩
  · obtain ⟨g1, gr1, t1, p1⟩ := aggIn_ok g h
    refine ⟨g1, gr1, t1.toCl, fun h => p1 ?_⟩
    cases m with
    | nil => rfl
    | cons b m => simp at h; simp [h.1]

theorem argsIn_ok : ∀ {vs vs' : List V} {E E' : Ent} {ms : List (List Bool)}, EGood E → E.argsIn vs ms = some (vs', E') → EGood E' ∧ EGrow E E' ∧ TL (TrCl E') vs vs' ∧ (ms.all (fun m => m.all (!·)) = true → E'.pr = E.pr ∧ E'.pb = E.pb)
  | [], vs', E, E', m, g, h => by simp only [Ent.argsIn] at h; cases h; exact ⟨g, EGrow.refl _, trivial, fun _ => ⟨rfl, rfl⟩⟩
  | v :: vs, vs', E, E', m, g, h => by
    simp only [Ent.argsIn] at h
    cases h1 : E.argIn (m.headD []) v with
    | none => rw [h1] at h; cases h
    | some q =>
      obtain ⟨v1, E1⟩ := q
      rw [h1] at h
      simp only at h
      cases h2 : E1.argsIn vs m.tail with
      | none => rw [h2] at h; cases h
      | some q =>
        obtain ⟨vs1, E2⟩ := q
        rw [h2] at h
        cases h
        obtain ⟨g1, gr1, t1, p1⟩ := argIn_ok g h1
        obtain ⟨g2, gr2, t2, p2⟩ := argsIn_ok g1 h2
        refine ⟨g2, gr1.trans gr2, ⟨TrCl.grow gr2 t1, t2⟩, fun h => ?_⟩
        have h3 : (m.headD []).all (!·) = true ∧ m.tail.all (fun m => m.all (!·)) = true := by
          cases m with
          | nil => exact ⟨rfl, rfl⟩
          | cons b m => simpa using h
        exact ⟨(p2 h3.2).1.trans (p1 h3.1).1, (p2 h3.2).2.trans (p1 h3.1).2⟩

/-! ### The callee's names -/

structure ENames (E : Ent) : Prop where
  nd : ∀ (i j n : Nat), E.pr[i]? = some n → E.pr[j]? = some n → i = j
  dis : ∀ n ∈ E.rd, n ∉ E.pr
  ndb : ∀ (i j n : Nat), E.pb[i]? = some n → E.pb[j]? = some n → i = j
  disb : ∀ n ∈ E.rb, n ∉ E.pb

theorem EGood.names (g : EGood E) : ENames E := ⟨g.nd, g.dis, g.ndb, g.disb⟩

/-- Where the callee's names lie; what the caller has not handed over is nobody's. -/
def Ent.cfg (E : Ent) (c : Cfg) : Cfg where
  hdr k := match E.pr[k]? with
    | some n => c.hdr n
    | none => (none, 0, 0)
  box k := match E.pb[k]? with
    | some b => c.box b
    | none => 0
  ow b := match c.ow b with
    | none => none
    | some .ext => some .ext
    | some (.row n) => if n ∈ E.pr then some (.row (E.pr.idxOf n)) else if n ∈ E.rd then none else some .ext
    | some (.box n) => if n ∈ E.pb then some (.box (E.pb.idxOf n)) else if n ∈ E.rb then none else some .ext

theorem idx_of {l : List Nat} (nd : ∀ (i j n : Nat), l[i]? = some n → l[j]? = some n → i = j) {k n : Nat} (h : l[k]? = some n) : n ∈ l ∧ l.idxOf n = k := by
  have hm : n ∈ l := List.mem_of_getElem? h
  refine ⟨hm, nd _ _ n ?_ h⟩
  have hlt := List.idxOf_lt_length_iff.2 hm
  rw [List.getElem?_eq_getElem hlt, List.getElem_idxOf hlt]

theorem cfg_row (g : ENames E) {k n : Nat} (h : E.pr[k]? = some n) (c : Cfg) : (E.cfg c).hv k = c.hv n ∧ (E.cfg c).hdr k = c.hdr n ∧ ∀ b, c.ow b = some (.row n) → (E.cfg c).ow b = some (.row k) := by
  have h1 : (E.cfg c).hdr k = c.hdr n := by simp [Ent.cfg, h]
  refine ⟨by unfold Cfg.hv; rw [h1], h1, fun b hb => ?_⟩
  obtain ⟨hm, hi⟩ := idx_of g.nd h
  simp [Ent.cfg, hb, hm, hi]

theorem cfg_box (g : ENames E) {k n : Nat} (h : E.pb[k]? = some n) (c : Cfg) : (E.cfg c).box k = c.box n ∧ ∀ b, c.ow b = some (.box n) → (E.cfg c).ow b = some (.box k) := by
  refine ⟨by simp [Ent.cfg, h], fun b hb => ?_⟩
  obtain ⟨hm, hi⟩ := idx_of g.ndb h
  simp [Ent.cfg, hb, hm, hi]

theorem cfg_free {b : Nat} (h : c.free b) : (E.cfg c).free b := by
  unfold Cfg.free at *
  simp [Ent.cfg, h]

theorem cfg_rd (g : ENames E) {n b : Nat} (hn : n ∈ E.rd) (hb : c.ow b = some (.row n)) : (E.cfg c).free b := by
  unfold Cfg.free
  simp [Ent.cfg, hb, hn, g.dis n hn]

theorem cfg_rb (g : ENames E) {n b : Nat} (hn : n ∈ E.rb) (hb : c.ow b = some (.box n)) : (E.cfg c).free b := by
  unfold Cfg.free
  simp [Ent.cfg, hb, hn, g.disb n hn]

theorem own_frozen {n : Nat} {r : Row} (h : OwnR c w n r) {fr : Nat → Prop} (hf : ∀ b, c.free b → fr b) (hn : ∀ b, c.ow b = some (.row n) → fr b) : FR w fr (.sl r.e) r.xs (c.hv n) := by
  refine FR.weaken (fr := (c.unrow n).free) (fun b hb => ?_) _ _ _ (FR.of_own h)
  unfold Cfg.free Cfg.unrow at hb
  simp only at hb
  split at hb
  · rename_i he; exact hn b he
  · exact hf b hb

theorem tr_cr (g : EGood E) (hm : MRel E.st c w) : ∀ {v v' : V} {x : Value}, TrC E v v' → CR c w v x → CR (E.cfg c) w v' x
  | .row n, v', x, ht, h => by
    rcases ht with ⟨k, h1, rfl⟩ | ⟨r, h1, h2, rfl⟩
    · show x = _; rw [(cfg_row g.names h1 c).1]; exact h
    · have hx : x = c.hv n := h
      rw [hx]
      exact own_frozen (hm.rows _ _ h2) (fun b hb => cfg_free hb) (fun b hb => cfg_rd g.names h1 hb)
  | .view n lo hi, v', x, ht, h => by
    obtain ⟨r, h1, h2, rfl⟩ := ht
    have hown := hm.rows _ _ h2
    obtain ⟨A, len, cap, e1, e2, e3, e4⟩ := h
    obtain ⟨A', cap', e5, _⟩ := id hown
    have hf := own_frozen hown (fr := (E.cfg c).free) (fun b hb => cfg_free hb) (fun b hb => cfg_rd g.names h1 hb)
    rw [e1] at e5
    cases e5
    rw [e1] at hf
    rw [e4]
    exact FR.slice hf e2 e3
  | .lit b, v', x, ht, h => by have : v' = _ := ht; subst this; exact h
  | .int k n, v', x, ht, h => by have : v' = _ := ht; subst this; exact h
  | .bool b, v', x, ht, h => by have : v' = _ := ht; subst this; exact h
  | .str s, v', x, ht, h => by have : v' = _ := ht; subst this; exact h
  | .sl e xs, v', x, ht, h => by have : v' = _ := ht; subst this; exact FR.weaken (fun b hb => cfg_free hb) _ _ _ h
  | .snil, v', x, ht, h => by have : v' = _ := ht; subst this; exact h
  | .fnil, v', x, ht, h => by have : v' = _ := ht; subst this; exact h
  | .fp cs o, v', x, ht, h => by
    have : v' = _ := ht
    subst this
    obtain ⟨gg, arr, ty, fz, h1, h2, h3, h4⟩ := h
    exact ⟨gg, arr, ty, fz, h1, cfg_free h2, h3, LR.mono (fun _ _ hx => FC.move (fun b hb hf => ⟨cfg_free hf, rfl⟩) hx) h4⟩
  | .el .., _, _, ht, _ => ht.elim
  | .fel .., _, _, ht, _ => ht.elim
  | .dead, _, _, ht, _ => ht.elim
  | .ptr .., _, _, ht, _ => ht.elim
  | .agg .., _, _, ht, _ => ht.elim
  | .clo .., _, _, ht, _ => ht.elim
  | .tup .., _, _, ht, _ => ht.elim

theorem TL.lr {r1 r2 : V → Value → Prop} {t : V → V → Prop} (h : ∀ v v' x, t v v' → r1 v x → r2 v' x) : ∀ {vs vs' : List V} {xs : List Value}, TL t vs vs' → LR r1 vs xs → LR r2 vs' xs
  | [], [], [], _, _ => trivial
  | _ :: _, _ :: _, _ :: _, ht, hl => ⟨h _ _ _ ht.1 hl.1, TL.lr h ht.2 hl.2⟩
  | [], [], _ :: _, _, hl => hl.elim
  | _ :: _, _, [], _, hl => hl.elim
  | _ :: _, [], _, ht, _ => ht.elim
  | [], _ :: _, _, ht, _ => ht.elim

theorem fc_of {fr : Nat → Prop} (hf : ∀ b, c.free b → fr b) {v : V} {x : Value} (hv : v.isFrozenCell = true) (h : CR c w v x) : FC w fr v x := by
  cases v <;> first | exact h | (cases hv; done) | exact FR.weaken hf _ _ _ h

theorem lr_fc {fr : Nat → Prop} (hf : ∀ b, c.free b → fr b) : ∀ {vs : List V} {xs : List Value}, vs.all V.isFrozenCell = true → LR (CR c w) vs xs → LR (FC w fr) vs xs
  | [], [], _, _ => trivial
  | v :: vs, x :: xs, hv, hl => by
    simp only [List.all_cons, Bool.and_eq_true] at hv
    exact ⟨fc_of hf hv.1 hl.1, lr_fc hf hv.2 hl.2⟩
  | [], _ :: _, _, h => h.elim
  | _ :: _, [], _, h => h.elim

theorem tr_ar (g : EGood E) (hm : MRel E.st c w) : ∀ {v v' : V} {x : Value}, TrA E v v' → AR c w v x → AR (E.cfg c) w v' x
  | .ptr b o, v', x, ht, h => by
    have hx : x = .pointer (some ⟨c.box b, o, none⟩) := h
    rcases ht with ⟨k, h1, rfl⟩ | ⟨cs, h1, h2, h3, rfl⟩
    · show x = _; rw [hx, (cfg_box g.names h1 c).1]
    · obtain ⟨h4, arr, ty, h5, h6⟩ := hm.boxes _ _ h2
      exact ⟨c.box b, arr, ty, (0, 0), hx, cfg_rb g.names h1 h4, h5, lr_fc (fun b hb => cfg_free hb) h3 h6⟩
  | .agg vs, v', x, ht, h => by
    obtain ⟨vs', rfl, h1⟩ := ht
    obtain ⟨cs, rfl, h2⟩ := h
    exact ⟨cs, rfl, TL.lr (r1 := CR c w) (r2 := CR (E.cfg c) w) (fun _ _ _ => tr_cr g hm) h1 h2⟩
  | .int k n, v', x, ht, h => (tr_cr (v := .int k n) (v' := v') g hm ht (show CR c w (.int k n) x from h)).ar
  | .bool b, v', x, ht, h => (tr_cr (v := .bool b) (v' := v') g hm ht (show CR c w (.bool b) x from h)).ar
  | .lit b, v', x, ht, h => (tr_cr (v := .lit b) (v' := v') g hm ht (show CR c w (.lit b) x from h)).ar
  | .str s, v', x, ht, h => (tr_cr (v := .str s) (v' := v') g hm ht (show CR c w (.str s) x from h)).ar
  | .sl e xs, v', x, ht, h => (tr_cr (v := .sl e xs) (v' := v') g hm ht (show CR c w (.sl e xs) x from h)).ar
  | .snil , v', x, ht, h => (tr_cr (v := .snil ) (v' := v') g hm ht (show CR c w (.snil ) x from h)).ar
  | .row n, v', x, ht, h => (tr_cr (v := .row n) (v' := v') g hm ht (show CR c w (.row n) x from h)).ar
  | .view n lo hi, v', x, ht, h => (tr_cr (v := .view n lo hi) (v' := v') g hm ht (show CR c w (.view n lo hi) x from h)).ar
  | .el n i, v', x, ht, h => (tr_cr (v := .el n i) (v' := v') g hm ht (show CR c w (.el n i) x from h)).ar
  | .fel e xs i, v', x, ht, h => (tr_cr (v := .fel e xs i) (v' := v') g hm ht (show CR c w (.fel e xs i) x from h)).ar
  | .fnil , v', x, ht, h => (tr_cr (v := .fnil ) (v' := v') g hm ht (show CR c w (.fnil ) x from h)).ar
  | .dead , v', x, ht, h => (tr_cr (v := .dead ) (v' := v') g hm ht (show CR c w (.dead ) x from h)).ar
  | .fp cs o, v', x, ht, h => (tr_cr (v := .fp cs o) (v' := v') g hm ht (show CR c w (.fp cs o) x from h)).ar
  | .clo .., _, _, ht, _ => ht.elim
  | .tup .., _, _, ht, _ => ht.elim

theorem tr_clr (g : EGood E) (hm : MRel E.st c w) : ∀ {v v' : V} {x : Value}, TrCl E v v' → ClR c w v x → ClR (E.cfg c) w v' x
  | .clo f fi ca, v', x, ht, h => by
    obtain ⟨fi', ca', rfl, h1, h2⟩ := ht
    obtain ⟨a, b, rfl, h3, h4⟩ := h
    exact ⟨a, b, rfl, TL.lr (r1 := AR c w) (r2 := AR (E.cfg c) w) (fun _ _ _ => tr_ar g hm) h1 h3, TL.lr (r1 := AR c w) (r2 := AR (E.cfg c) w) (fun _ _ _ => tr_ar g hm) h2 h4⟩
  | .int k n, v', x, ht, h => (tr_ar (v := .int k n) (v' := v') g hm ht (show AR c w (.int k n) x from h)).clr
  | .bool b, v', x, ht, h => (tr_ar (v := .bool b) (v' := v') g hm ht (show AR c w (.bool b) x from h)).clr
  | .lit b, v', x, ht, h => (tr_ar (v := .lit b) (v' := v') g hm ht (show AR c w (.lit b) x from h)).clr
  | .str s, v', x, ht, h => (tr_ar (v := .str s) (v' := v') g hm ht (show AR c w (.str s) x from h)).clr
  | .sl e xs, v', x, ht, h => (tr_ar (v := .sl e xs) (v' := v') g hm ht (show AR c w (.sl e xs) x from h)).clr
  | .snil , v', x, ht, h => (tr_ar (v := .snil ) (v' := v') g hm ht (show AR c w (.snil ) x from h)).clr
  | .row n, v', x, ht, h => (tr_ar (v := .row n) (v' := v') g hm ht (show AR c w (.row n) x from h)).clr
  | .view n lo hi, v', x, ht, h => (tr_ar (v := .view n lo hi) (v' := v') g hm ht (show AR c w (.view n lo hi) x from h)).clr
  | .el n i, v', x, ht, h => (tr_ar (v := .el n i) (v' := v') g hm ht (show AR c w (.el n i) x from h)).clr
  | .fel e xs i, v', x, ht, h => (tr_ar (v := .fel e xs i) (v' := v') g hm ht (show AR c w (.fel e xs i) x from h)).clr
  | .fnil , v', x, ht, h => (tr_ar (v := .fnil ) (v' := v') g hm ht (show AR c w (.fnil ) x from h)).clr
  | .dead , v', x, ht, h => (tr_ar (v := .dead ) (v' := v') g hm ht (show AR c w (.dead ) x from h)).clr
  | .fp cs o, v', x, ht, h => (tr_ar (v := .fp cs o) (v' := v') g hm ht (show AR c w (.fp cs o) x from h)).clr
  | .ptr b o, v', x, ht, h => (tr_ar (v := .ptr b o) (v' := v') g hm ht (show AR c w (.ptr b o) x from h)).clr
  | .agg vs, v', x, ht, h => (tr_ar (v := .agg vs) (v' := v') g hm ht (show AR c w (.agg vs) x from h)).clr
  | .tup .., _, _, ht, _ => ht.elim

/-- What the callee finds. -/
theorem tr_mrel (g : EGood E) (hm : MRel E.st c w) (slots : List V) : MRel { slots := slots, rows := E.rows, boxes := E.boxes } (E.cfg c) w := by
  refine ⟨fun k r hk => ?_, fun k cs hk => ?_, fun b hb => hm.lt b fun e => hb ?_⟩
  · obtain ⟨n, h1, h2⟩ := g.rows _ _ hk
    obtain ⟨A, cap, e1, e2, e3⟩ := hm.rows _ _ h2
    obtain ⟨q1, _, q2⟩ := cfg_row g.names h1 c
    refine ⟨A, cap, by rw [q1]; exact e1, e2, ?_⟩
    rcases e3 with e3 | ⟨gg, arr, ty, e4, e5, e6, e7, e8, e9⟩
    · exact .inl e3
    · refine .inr ⟨gg, arr, ty, e4, q2 _ e5, e6, e7, e8, fun i x hi => ?_⟩
      obtain ⟨u, hu, hx⟩ := e9 i x hi
      exact ⟨u, hu, FR.weaken (fun b hb => cfg_free hb) _ _ _ hx⟩
  · obtain ⟨b, cs0, h1, h2, h3⟩ := g.boxes _ _ hk
    obtain ⟨q1, q2⟩ := cfg_box g.names h1 c
    obtain ⟨h4, arr, ty, h5, h6⟩ := hm.boxes _ _ h2
    refine ⟨by rw [q1]; exact q2 _ h4, arr, ty, by rw [q1]; exact h5, TL.lr (r1 := CR c w) (r2 := CR (E.cfg c) w) (fun _ _ _ => tr_cr g hm) h3 h6⟩
  · simp [Ent.cfg, e]

end
end Go.VS
