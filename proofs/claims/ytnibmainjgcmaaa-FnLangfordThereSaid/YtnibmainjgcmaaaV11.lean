/- The way through the code. -/
import Derived.Test.YtnibmainjgcmaaaV10
set_option linter.unusedVariables false
set_option linter.unusedSimpArgs false
namespace Go.VS
section
variable {P : Program} {cx : Cx} {st : St} {c c' c'' c0 c1 c2 : Cfg} {a : Act} {w w' w'' w0 w1 : World} {gs : List (Nat × Bool)}

/-! ### Names are changed -/

def inv (l : List (Nat × Nat)) (m : Nat) : Option Nat := match l with
  | [] => none
  | (n, k) :: r => if k = m then some n else inv r m

theorem nodupB_cons {n : Nat} {l : List Nat} (h : nodupB (n :: l) = true) : n ∉ l ∧ nodupB l = true := by
  simpa [nodupB] using h

theorem inv_mem : ∀ {l : List (Nat × Nat)} {n m : Nat}, inv l m = some n → (n, m) ∈ l
  | (n', k) :: r, n, m, h => by
    simp only [inv] at h
    split at h
    · rename_i e; subst e; cases h; exact List.mem_cons_self ..
    · exact List.mem_cons_of_mem _ (inv_mem h)

theorem inv_of : ∀ {l : List (Nat × Nat)} {n m : Nat}, nodupB (l.map (·.2)) = true → (n, m) ∈ l → inv l m = some n
  | (n', k) :: r, n, m, hd, h => by
    obtain ⟨h1, h2⟩ := nodupB_cons (by simpa using hd)
    simp only [inv]
    rcases List.mem_cons.1 h with e | h
    · cases e; simp
    · rw [if_neg]
      · exact inv_of h2 h
      · intro e; subst e; exact h1 (List.mem_map.2 ⟨_, h, rfl⟩)

theorem look_of : ∀ {l : List (Nat × Nat)} {n m : Nat}, nodupB (l.map (·.1)) = true → (n, m) ∈ l → look l n = some m
  | (n', k) :: r, n, m, hd, h => by
    obtain ⟨h1, h2⟩ := nodupB_cons (by simpa using hd)
    simp only [look]
    rcases List.mem_cons.1 h with e | h
    · cases e; simp
    · rw [if_neg]
      · exact look_of h2 h
      · intro e; subst e; exact h1 (List.mem_map.2 ⟨_, h, rfl⟩)

theorem renOk_spec {N : Nat} {l : List (Nat × Nat)} (h : renOk N l = true) : nodupB (l.map (·.1)) = true ∧ nodupB (l.map (·.2)) = true ∧ ∀ n m, (n, m) ∈ l → m < N → n = m := by
  simp only [renOk, Bool.and_eq_true, List.all_eq_true] at h
  refine ⟨h.1.1, h.1.2, fun n m hm hN => ?_⟩
  have := h.2 _ hm
  simp only [Bool.or_eq_true, beq_iff_eq, decide_eq_true_eq] at this
  rcases this with h | h
  · exact h
  · omega

def Cfg.ren (c : Cfg) (rho beta : List (Nat × Nat)) : Cfg where
  hdr m := match inv rho m with
    | some n => c.hdr n
    | none => c.hdr m
  box m := match inv beta m with
    | some n => c.box n
    | none => c.box m
  ow b := match c.ow b with
    | some (.row n) => (look rho n).map .row
    | some (.box n) => (look beta n).map .box
    | x => x

def mkRen (rho beta : List (Nat × Nat)) : Ren := { row := look rho, box := look beta }

theorem Rel.ren (h : Rel st c a w) {N M : Nat} {rho beta : List (Nat × Nat)} (hr : renOk N rho = true) (hb : renOk M beta = true) :
    Rel { slots := st.slots.map (mkRen rho beta).tup, rows := takeRows st.rows rho, boxes := takeBoxes (mkRen rho beta) st.boxes beta, gd := st.gd } (c.ren rho beta) a w ∧
    Over (mkRen rho beta) c (c.ren rho beta) w w ∧ Step0 c (c.ren rho beta) w w ∧ (∀ n, n < N → (c.ren rho beta).hdr n = c.hdr n) ∧ (∀ n, n < M → (c.ren rho beta).box n = c.box n) := by
  obtain ⟨r1, r2, r3⟩ := renOk_spec hr
  obtain ⟨b1, b2, b3⟩ := renOk_spec hb
  have ownone : ∀ b, (c.ren rho beta).ow b ≠ none → c.ow b ≠ none := fun b hb e => hb (by simp [Cfg.ren, e])
  have over : Over (mkRen rho beta) c (c.ren rho beta) w w := by
    refine ⟨fun n m hm => ?_, fun n m hm => ?_, fun b _ hf => ⟨?_, rfl⟩, fun b hb => h.mem.lt b (ownone b hb)⟩
    · simp [Cfg.ren, inv_of r2 (look_mem (show look rho n = some m from hm))]
    · simp [Cfg.ren, inv_of b2 (look_mem (show look beta n = some m from hm))]
    · unfold Cfg.free at *; simp [Cfg.ren, hf]
  refine ⟨h.over over (fun m r hm => ?_) (fun m cs hm => ?_), over, ⟨Nat.le_refl _, rfl, rfl, rfl, fun _ _ _ => rfl, fun b => ?_, fun b r hb hr => ?_⟩, fun n hn => ?_, fun n hn => ?_⟩
  · obtain ⟨k, hk, hkr⟩ := takeRows_look hm
    left
    refine ⟨k, look_of r1 hk, hkr, fun g hg => ⟨?_, rfl⟩⟩
    simp [Cfg.ren, hg, look_of r1 hk]
  · obtain ⟨k, cs0, hk, hkr, rfl⟩ := takeBoxes_look hm
    left
    refine ⟨k, cs0, look_of b1 hk, hkr, rfl, fun g hg => ⟨?_, rfl⟩⟩
    simp [Cfg.ren, hg, look_of b1 hk]
  · simp only [Cfg.ren]
    cases hq : c.ow b with
    | none => simp
    | some r => cases r <;> simp
  · left
    cases hq : c.ow b with
    | none => simp [Cfg.ren, hq] at hb
    | some r' =>
      refine ⟨r', rfl, fun e => ?_⟩
      subst e
      simp [Cfg.ren, hq] at hb
      exact hr hb.symm
  · simp only [Cfg.ren]
    cases hq : inv rho n with
    | none => rfl
    | some k => simp only; rw [r3 _ _ (inv_mem hq) hn]
  · simp only [Cfg.ren]
    cases hq : inv beta n with
    | none => rfl
    | some k => simp only; rw [b3 _ _ (inv_mem hq) hn]

/-! ### At a cut -/

theorem Rel.setSlot (h : Rel st c a w) (hg : st.gd = []) {s : Nat} {v : V} (hv : TR c w v (a.tmps.getD s undef)) : Rel { st with slots := setV st.slots s v } c a w := by
  refine ⟨⟨h.mem.rows, h.mem.boxes, h.mem.lt⟩, ?_, fun i => ?_, h.defers⟩
  · show (setV _ _ _).length = _
    rw [setV_length]; exact h.size
  · have hs := h.slot i
    unfold SlotR at hs ⊢
    simp only [hg, guardOf] at hs ⊢
    by_cases hsi : s = i
    · subst hsi
      by_cases hl : s < st.slots.length
      · rw [getV_setV_same _ _ _ hl]; exact hv
      · rw [getV_ge (by rw [setV_length]; omega)]; trivial
    · rw [getV_setV_ne _ _ _ _ hsi]; exact hs

theorem nilRows_sound : ∀ (sp : Spec) {st : St} {c : Cfg}, Rel st c a w → st.gd = [] → ∃ c', Rel (nilRows sp st) c' a w ∧ Step c c' w w ∧ (nilRows sp st).gd = []
  | [], st, c, h, hg => ⟨c, h, Step.refl _ _, hg⟩
  | (s, none) :: r, st, c, h, hg => by simp only [nilRows]; exact nilRows_sound r h hg
  | (s, some e) :: r, st, c, h, hg => by
    simp only [nilRows]
    split
    · rename_i hv
      obtain ⟨c1, h1, s1, _, v1, _, _, _⟩ := h.nilRow (1000000 + 64 * s) (by omega) e
      have hs := h.slot s
      unfold SlotR at hs
      simp only [hg, guardOf, hv] at hs
      have hs' : a.tmps.getD s undef = .slice none 0 0 := hs
      have h2 := h1.setSlot (s := s) (v := .row (1000000 + 64 * s)) hg (show _ = _ by rw [hs', v1])
      obtain ⟨c2, h3, s3, g3⟩ := nilRows_sound r h2 hg
      exact ⟨c2, h3, s1.trans s3, g3⟩
    · exact nilRows_sound r h hg

theorem mask_length (p : Ren) : ∀ (vs : List V) (i : Nat) (sp : Spec), (mask p i sp vs).length = vs.length
  | [], _, _ => by simp [mask]
  | v :: vs, i, [] => by simp [mask, mask_length p vs]
  | v :: vs, i, (s, k) :: sp => by
    simp only [mask]
    split <;> simp [mask_length p vs]

theorem mask_get (p : Ren) : ∀ (vs : List V) (i : Nat) (sp : Spec) (j : Nat), getV (mask p i sp vs) j = .dead ∨ getV (mask p i sp vs) j = p.tup (unlit (getV vs j))
  | [], _, _, j => by left; simp [mask, getV]
  | v :: vs, i, [], 0 => .inl (by simp [mask, getV])
  | v :: vs, i, [], j + 1 => by simp only [mask, getV]; exact mask_get p vs _ _ j
  | v :: vs, i, (s, k) :: sp, 0 => by
    simp only [mask]
    split
    · right; rfl
    · left; rfl
  | v :: vs, i, (s, k) :: sp, j + 1 => by
    simp only [mask]
    split <;> (simp only [getV]; exact mask_get p vs _ _ j)

theorem mask_tr {p : Ren} (o : Over p c c' w w) {vs : List V} {x : Nat → Value} (h : ∀ j, TR c w (getV vs j) (x j)) (n : Nat) (sp : Spec) (i : Nat) : TR c' w (getV (mask p n sp vs) i) (x i) := by
  rcases mask_get p vs n sp i with hd | hd
  · rw [hd]; trivial
  · rw [hd]; exact o.tr (TR.unlit (h i))

theorem canon_sound (h : Rel st c a w) {nr nb : Nat} {sp : Spec} {s : St} (hc : canon nr nb sp st = some s) : ∃ c', Rel s c' a w ∧ Step c c' w w := by
  unfold canon at hc
  simp only at hc
  split at hc
  case isFalse => cases hc
  rename_i hok
  simp only [Bool.and_eq_true] at hok
  obtain ⟨c1, h1, s1, g1⟩ := nilRows_sound sp h.noG rfl
  cases hc
  obtain ⟨q1, q2, q3, q4, q5⟩ := h1.ren hok.1 hok.2
  refine ⟨_, ⟨⟨q1.mem.rows, q1.mem.boxes, q1.mem.lt⟩, ?_, fun i => ?_, q1.defers⟩, s1.trans ⟨q3.size, q3.os, q3.tape, q3.output, q3.keep, q3.ext, q3.new, fun n hn => ⟨q4 n hn, q5 n hn⟩⟩⟩
  · show (mask _ _ _ _).length = _
    rw [mask_length]; exact h1.size
  · unfold SlotR
    simp only [guardOf]
    have hs : ∀ j, TR c1 w (getV (nilRows sp st.noG).slots j) (a.tmps.getD j undef) := fun j => by
      have hs := h1.slot j
      unfold SlotR at hs
      rw [g1] at hs
      exact hs
    have := mask_tr (vs := (nilRows sp st.noG).slots) (x := fun j => a.tmps.getD j undef) q2 hs 0 sp i
    exact this

/-! ### What a call leaves -/

theorem ClR.of_clo {c c' : Cfg} {p : Ren} (o : Over p c c' w w) {v : V} {x : Value} (h : TR c w v x) : ClR c' w (p.clo v) x := by
  cases v with
  | tup vs => trivial
  | _ => exact o.cl h

end
end Go.VS
/- What a call leaves. -/
set_option linter.unusedVariables false
set_option linter.unusedSimpArgs false
namespace Go.VS
section
variable {P : Program} {cx : Cx} {st : St} {c c' c'' c0 c1 c2 : Cfg} {a : Act} {w w' w'' w0 w1 : World} {gs : List (Nat × Bool)}

theorem sem_bind_pure {α : Type} (x : Sem α) : Sem.bind x Sem.pure = x := by
  induction x with
  | pure a => rfl
  | halt h => rfl
  | store m a v k ih => simp only [Sem.bind, ih]
  | freeze a n k ih => simp only [Sem.bind, ih]
  | setObj a n k ih => simp only [Sem.bind, ih]
  | mark a k ih => simp only [Sem.bind, ih]
  | _ => rename_i ih; simp only [Sem.bind]; congr 1; funext z; exact ih z

theorem sem_bind_assoc {α β γ : Type} (x : Sem α) (f : α → Sem β) (g : β → Sem γ) : Sem.bind (Sem.bind x f) g = Sem.bind x fun a => Sem.bind (f a) g := by
  induction x with
  | pure a => rfl
  | halt h => rfl
  | store m a v k ih => simp only [Sem.bind, ih]
  | freeze a n k ih => simp only [Sem.bind, ih]
  | setObj a n k ih => simp only [Sem.bind, ih]
  | mark a k ih => simp only [Sem.bind, ih]
  | _ => rename_i ih; simp only [Sem.bind]; congr 1; funext z; exact ih z

theorem sem_lawful : LawfulMonad Sem := LawfulMonad.mk' Sem (fun x => sem_bind_pure x) (fun _ _ => rfl) (fun x f g => sem_bind_assoc x f g)

theorem mapM_list {α : Type} (f : α → Sem Value) : ∀ (l : List α) (xs : List Value), xs.length = l.length → (∀ (i : Nat) r x, l[i]? = some r → xs[i]? = some x → (f r).run P w = .ok x w) → (l.mapM f).run P w = .ok xs w
  | [], [], _, _ => by simp
  | r :: l, x :: xs, hl, h => by
    haveI := sem_lawful
    rw [List.mapM_cons]
    have h1 := h 0 r x rfl rfl
    have h2 := mapM_list f l xs (by simpa using hl) fun i r x h3 h4 => h (i + 1) r x h3 h4
    simp [h1, h2]
  | [], _ :: _, hl, _ => by simp at hl
  | _ :: _, [], hl, _ => by simp at hl

theorem mapM_run {α : Type} (f : α → Sem Value) (as : Array α) (xs : List Value) (hl : xs.length = as.toList.length) (h : ∀ (i : Nat) r x, as.toList[i]? = some r → xs[i]? = some x → (f r).run P w = .ok x w) :
    (as.mapM f).run P w = .ok xs.toArray w := by
  haveI := sem_lawful
  rw [Array.mapM_eq_mapM_toList]
  have := mapM_list f as.toList xs hl h
  simp [this]

/-- The value that a result is read from. -/
def RdR (P : Program) (a : Act) (w : World) (r : ResultVar) (x : Value) : Prop :=
  ∀ f : ResultVar → Sem Value, (∀ t, f (.tmp t) = pure (a.tmps.getD t undef)) → (∀ b t, f (.cell b t) = do loadVar t (← asAddr (a.tmps.getD b undef))) → (f r).run P w = .ok x w

theorem resVals_sound (hty : TyOk P cx) (h : Rel st c a w) : ∀ (rs : List ResultVar) {vs : List V}, resVals cx st rs = some vs → ∃ xs : List Value, LR (TR c w) vs xs ∧ xs.length = rs.length ∧ ∀ (i : Nat) r x, rs[i]? = some r → xs[i]? = some x → RdR P a w r x
  | [], vs, hv => by simp only [resVals] at hv; cases hv; exact ⟨[], trivial, rfl, fun i r x h => by simp at h⟩
  | .tmp t :: rs, vs, hv => by
    simp only [resVals] at hv
    cases hr : resVals cx st rs with
    | none => rw [hr] at hv; cases hv
    | some vs' =>
      rw [hr] at hv
      cases hv
      obtain ⟨xs, h1, h2, h3⟩ := resVals_sound hty h rs hr
      refine ⟨a.tmps.getD t undef :: xs, ⟨opd_sound h holds_nil (.tmp t), h1⟩, by simp [h2], fun i r x hi hx => ?_⟩
      cases i with
      | zero => cases hi; cases hx; exact fun f hf _ => by rw [hf]; rfl
      | succ i => exact h3 i r x hi hx
  | .cell b t :: rs, vs, hv => by
    simp only [resVals] at hv
    split at hv
    · rename_i bb o size isA hb ht
      split at hv
      · rename_i cs hcs
        split at hv
        · rename_i hlt
          cases hr : resVals cx st rs with
          | none => rw [hr] at hv; cases hv
          | some vs' =>
            rw [hr] at hv
            cases hv
            obtain ⟨xs, h1, h2, h3⟩ := resVals_sound hty h rs hr
            have hx : a.eval (.tmp b) = .pointer (some ⟨c.box bb, o, none⟩) := by have := opd_sound h holds_nil (.tmp b); rw [hb] at this; exact this
            obtain ⟨how, arr, ty, hh, hl⟩ := h.mem.boxes _ _ hcs
            obtain ⟨x, bl, q1, _, _, q4⟩ := load_var_sound (P := P) (cl := 1) (el := false) (by omega) hty ht hx hh hl hlt (fun _ n => by rw [how]; simp)
            have q5 := q4 w none 0 "" #[] none (fun _ _ => rfl)
            have q6 : (loadVar t ⟨c.box bb, o, none⟩).run P w = .ok x w := by
              simp only [execOp, hx, Instr.loadAt, Instr.sureAddr] at q5
              revert q5
              cases hq : (loadVar t ⟨c.box bb, o, none⟩).run P w <;> simp [hq] <;> (try (intro e1 e2; subst e1; subst e2; rfl)) <;> simp_all
            refine ⟨x :: xs, ⟨q1, h1⟩, by simp [h2], fun i r y hi hy => ?_⟩
            cases i with
            | zero =>
              cases hi; cases hy
              refine fun f _ hf => ?_
              have hx' : a.tmps.getD b undef = .pointer (some ⟨c.box bb, o, none⟩) := hx
              rw [hf, hx']
              simp [asAddr, q6]
            | succ i => exact h3 i r y hi hy
        · cases hv
      · cases hv
    · cases hv

/-- What a call leaves, told of the world. -/
structure Left (P : Program) (fn : Func) (nr nb : Nat) (c : Cfg) (a : Act) (w : World) (fin : St) (res : List V) : Prop where
  defers : a.defers = []
  out : ∃ v c', (results fn a.tmps).run P w = .ok v w ∧ MRel fin c' w ∧ Step0 c c' w w ∧ (∀ n, n < nr → c'.hdr n = c.hdr n) ∧ (∀ n, n < nb → c'.box n = c.box n) ∧ ResR c' w res v

theorem lr_one {r : V → Value → Prop} {vs : List V} {xs : List Value} (h : LR r vs xs) : vs.length = xs.length := LR.length h

theorem finish_sound (hty : TyOk P cx) (h : Rel st c a w) {nr nb : Nat} {mv : List Nat} {fn : Func} {fin : St} {res : List V} (hf : finish cx nr nb mv fn.results.toList st = some (fin, res)) : Left P fn nr nb c a w fin res := by
  refine ⟨h.defers, ?_⟩
  unfold finish at hf
  split at hf
  · cases hf
  · rename_i vs hvs
    simp only at hf
    split at hf
    case isFalse => cases hf
    rename_i hok
    simp only [Bool.and_eq_true] at hok
    obtain ⟨xs, h1, h2, h3⟩ := resVals_sound hty h.noG _ hvs
    obtain ⟨q1, q2, q3, q4, q5⟩ := h.ren hok.1 hok.2
    have hrun : ∀ f : ResultVar → Sem Value, (∀ t, f (.tmp t) = pure (a.tmps.getD t undef)) → (∀ b t, f (.cell b t) = do loadVar t (← asAddr (a.tmps.getD b undef))) → (fn.results.mapM f).run P w = .ok xs.toArray w :=
      fun f hf1 hf2 => mapM_run f fn.results xs h2 fun i r x hr hx => h3 i r x hr hx f hf1 hf2
    cases hf
    have hlr := LR.map (r' := ClR (c.ren _ _) w) (mkRen _ _).clo (fun v x hx => ClR.of_clo q2 hx) h1
    have hres : (results fn a.tmps).run P w = .ok (if h : xs.toArray.size = 1 then xs.toArray[0] else .tuple xs.toArray) w := by
      unfold results
      rw [Sem.run_bind, hrun]
      · rfl
      · exact fun _ => rfl
      · exact fun _ _ => rfl
    refine ⟨_, _, hres, ⟨q1.mem.rows, q1.mem.boxes, q1.mem.lt⟩, q3, q4, q5, ?_⟩
    have hll := LR.length h1
    unfold ResR
    split
    · rename_i y hy
      have hv1 : vs.length = 1 := by have := congrArg List.length hy; simpa using this
      match vs, xs, hlr, hll, hv1, hy with
      | [v], [x], hlr, _, _, hy =>
        cases hy
        exact hlr.1
    · rename_i hne
      have hx1 : xs.length ≠ 1 := by
        intro e
        rw [← hll] at e
        match vs, e, hne with
        | [v], _, hne => exact hne _ rfl
      refine ⟨xs.toArray, ?_, hlr⟩
      rw [dif_neg (by simpa using hx1)]

end
end Go.VS
