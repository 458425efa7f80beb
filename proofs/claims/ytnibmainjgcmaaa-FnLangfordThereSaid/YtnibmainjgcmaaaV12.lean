/- The evaluator is right. -/
import Derived.Test.YtnibmainjgcmaaaV11
import Derived.KernelRfl
set_option linter.unusedVariables false
set_option linter.unusedSimpArgs false
namespace Go.VS

def toItem : It → Item
  | .code c => .code c
  | .blk id => .inBlock id
  | .lp b => .inLoop b
  | .now id ops draw => .code (.region id ops draw)

theorem exitItems_ok {id : Nat} : ∀ {k k' : List It}, exitItems id k = some k' → exitTo id (k.map toItem) = some (k'.map toItem)
  | .blk id' :: k, k', h => by
    simp only [exitItems] at h
    simp only [List.map_cons, toItem, exitTo]
    split at h
    · rename_i e; cases h; subst e; simp
    · rename_i e; rw [if_neg (by simpa using e)]; exact exitItems_ok h
  | .code _ :: k, k', h => by simp only [exitItems] at h; simp only [List.map_cons, toItem, exitTo]; exact exitItems_ok h
  | .lp _ :: k, k', h => by simp only [exitItems] at h; simp only [List.map_cons, toItem, exitTo]; exact exitItems_ok h
  | .now .. :: k, k', h => by simp only [exitItems] at h; simp only [List.map_cons, toItem, exitTo]; exact exitItems_ok h

section
variable {P : Program} {cx : Cx} {st : St} {c c' c'' c0 c1 c2 : Cfg} {a : Act} {w w' w'' w0 w1 : World} {gs : List (Nat × Bool)}

/-- The frame comes to its end. -/
def Ends (P : Program) (fn : Func) (fl : Fn) (c : Cfg) (a : Act) (w : World) (todo : List Item) (fin : St) (res : List V) : Prop :=
  ∀ (b : Frame) (cs : List Frame), ∃ a' w' todo' c', Steps P (lone (b.at a todo) cs w) (lone { b.at a' todo' with mode := .returning } cs w') ∧ Step c c' w w' ∧ Left P fn fl.nr fl.nb c' a' w' fin res

theorem Ends.step {fn : Func} {fl : Fn} {todo todo1 : List Item} {fin : St} {res : List V} (h : Ends P fn fl c a w todo1 fin res) (hs : ∀ (b : Frame) cs, step P (lone (b.at a todo) cs w) = .next (lone (b.at a todo1) cs w)) : Ends P fn fl c a w todo fin res := by
  intro b cs
  obtain ⟨a', w', todo', c', h1, h2⟩ := h b cs
  exact ⟨a', w', todo', c', .head (hs b cs) h1, h2⟩

theorem Ends.from {fn : Func} {fl : Fn} {todo : List Item} {fin : St} {res : List V} (h : Ends P fn fl c' a w todo fin res) (hs : Step c c' w w) : Ends P fn fl c a w todo fin res := by
  intro b cs
  obtain ⟨a', w', todo', c2, h1, h2, h3⟩ := h b cs
  exact ⟨a', w', todo', c2, h1, hs.trans h2, h3⟩

theorem fzAt_sound (fn : Fn) (id : Nat) (h : Rel st c a w) : ∃ c1, Rel (fzAt fn id st) c1 a w ∧ Step c c1 w w := by
  unfold fzAt
  split
  · obtain ⟨c1, h1, s1, _⟩ := h.freezeAll _
    exact ⟨c1, h1, s1⟩
  · exact ⟨c, h, Step.refl _ _⟩

theorem eval_sound (hm : P.follows .mixedOrders = true) (hty : TyOk P cx) (hfn : FnsOk P cx) {fl : Fn} {fn : Func} (hrs : fl.rs = fn.results.toList) : ∀ (n : Nat) (todo : List It) {st : St} {c : Cfg} {a : Act} {w : World} {fin : St} {res : List V},
    Rel st c a w → evalN cx fl n todo st = some (fin, res) → Ends P fn fl c a w (todo.map toItem) fin res := by
  intro n
  induction n with
  | zero => intro todo st c a w fin res h hk; cases hk
  | succ n ih =>
    intro todo st c a w fin res h hk
    simp only [evalN] at hk
    have reg : ∀ (id : Nat) (ops : Array Oper) (draw : Bool) (k : List It) {st : St} {c : Cfg}, Rel st c a w → regionK cx ops draw st (fun s => evalN cx fl n k s) = some (fin, res) → Ends P fn fl c a w (.code (.region id ops draw) :: k.map toItem) fin res := by
      intro id ops draw k st c h hk b cs
      obtain ⟨e, a1, w1, hq, harr⟩ := region_sound (id := id) (Q := fun e a' w' => e = .normal ∧ ∃ st' c', evalN cx fl n k st' = some (fin, res) ∧ Rel st' c' a' w' ∧ Step c c' w w') hm hty hfn h hk
        (fun ch a d v w hh => by cases hh.1) (fun st' c' a' w' h1 h2 h3 => ⟨rfl, st', c', h1, h2, h3⟩) b (k.map toItem) cs
      obtain ⟨rfl, st', c', h1, h2, h3⟩ := hq
      obtain ⟨a2, w2, todo', c2, s1, s2, s3⟩ := ih k h2 h1 b cs
      exact ⟨a2, w2, todo', c2, Steps.trans harr s1, h3.trans s2, s3⟩
    have lp : ∀ (bd : Code) (k : List It), loopK fl bd k st (evalN cx fl n) = some (fin, res) → Ends P fn fl c a w (.code bd :: .inLoop bd :: k.map toItem) fin res := by
      intro bd k hk
      unfold loopK at hk
      split at hk
      · split at hk
        · rename_i s hs
          obtain ⟨c1, h1, s1⟩ := canon_sound h hs
          exact (ih _ h1 hk).from s1
        · cases hk
      · cases hk
    have ret : finish cx fl.nr fl.nb fl.mv fl.rs (prep fl.pre st.noG) = some (fin, res) → ∃ c1, Step c c1 w w ∧ Left P fn fl.nr fl.nb c1 a w fin res := fun hf => by
      rw [hrs] at hf
      obtain ⟨c1, h1, s1, _, _⟩ := prep_sound fl.pre h.noG rfl
      exact ⟨c1, s1, finish_sound hty h1 hf⟩
    unfold stepK at hk
    split at hk
    · -- the end
      intro b cs
      obtain ⟨c1, s1, h1⟩ := ret hk
      exact ⟨a, w, [], c1, .one step_end, s1, h1⟩
    · exact (ih _ h hk).step fun b cs => step_inBlock
    · exact (lp _ _ hk).step fun b cs => step_inLoop
    · obtain ⟨c1, h1, s1⟩ := fzAt_sound fl _ h
      exact (reg _ _ _ _ h1 hk).from s1
    · -- code
      split at hk
      · exact (ih _ h hk).step fun b cs => step_skip
      · exact (ih _ h hk).step fun b cs => step_label
      · exact (ih _ h hk).step fun b cs => step_seq
      · split at hk
        · rename_i cond x y _ bb hb
          have hc : a.eval cond = .bool bb := by have := opd_sound h holds_nil cond; rw [hb] at this; exact this
          cases bb with
          | true => exact (ih _ h hk).step fun b cs => step_cond (t := true) hc
          | false => exact (ih _ h hk).step fun b cs => step_cond (t := false) hc
        · cases hk
      · exact (ih _ h hk).step fun b cs => step_block
      · exact (lp _ _ hk).step fun b cs => step_loop
      · split at hk
        · rename_i k' hk'
          exact (ih _ h hk).step fun b cs => step_exit (exitItems_ok hk')
        · cases hk
      · -- a return
        intro b cs
        obtain ⟨c1, s1, h1⟩ := ret hk
        exact ⟨a, w, _, c1, .one step_ret, s1, h1⟩
      · split at hk
        · split at hk
          · rename_i s hs
            obtain ⟨c1, h1, s1⟩ := canon_sound h hs
            exact (ih _ h1 hk).from s1
          · cases hk
        · obtain ⟨c1, h1, s1⟩ := fzAt_sound fl _ h
          exact (reg _ _ _ _ h1 hk).from s1
      · cases hk

/-- Ahead of the call's first step. -/
def start (n : Nat) (st : St) : St := { slots := st.slots ++ List.replicate (n - st.slots.length) .dead, rows := st.rows, boxes := st.boxes }

theorem vc_of_eval (hm : P.follows .mixedOrders = true) (hty : TyOk P cx) (hfn : FnsOk P cx) {f : FuncId} {fl : Fn} {fn : Func} {code : Code} (hf : P.funcs[f]? = some fn) (hb : fn.body = some code) (hrs : fl.rs = fn.results.toList)
    {st fin : St} {res : List V} {n : Nat} (hnr : fl.nr ≤ 1000) (hnb : fl.nb ≤ 1000) (hr : ∀ k, look st.rows k ≠ none → k < fl.nr) (hbx : ∀ k, look st.boxes k ≠ none → k < fl.nb)
    (he : evalN cx fl n [.code code] (start fn.ntmps st) = some (fin, res)) : VC P f st fin res := by
  intro w c vals hmr hl cs
  let b : Frame := { (default : Frame) with fn := f, kind := .normal }
  have henter : Frame.enter P f vals .normal =
      b.at { tmps := vals ++ Array.replicate (fn.ntmps - vals.size) undef, defers := [] } [.code code] := by
    simp [Frame.enter, Frame.at, hf, hb, b]
  have hlen := LR.length hl
  simp only [Array.length_toList] at hlen
  have hrel : Rel (start fn.ntmps st) c { tmps := vals ++ Array.replicate (fn.ntmps - vals.size) undef, defers := [] } w := by
    refine ⟨⟨hmr.rows, hmr.boxes, hmr.lt⟩, by simp [start, hlen], fun i => ?_, rfl⟩
    unfold SlotR
    show TR c w (getV (st.slots ++ List.replicate (fn.ntmps - st.slots.length) .dead) i) _
    have hll : LR (TR c w) (st.slots ++ List.replicate (fn.ntmps - st.slots.length) .dead) (vals.toList ++ List.replicate (fn.ntmps - vals.size) undef) := by
      refine LR.append (LR.mono (fun _ _ h => h.tr) hl) ?_
      rw [hlen]
      generalize fn.ntmps - vals.size = m
      induction m with
      | zero => trivial
      | succ m ihm => exact ⟨trivial, ihm⟩
    by_cases hi : i < (st.slots ++ List.replicate (fn.ntmps - st.slots.length) V.dead).length
    · have := hll.get i hi
      have e : (vals ++ Array.replicate (fn.ntmps - vals.size) undef).getD i undef = (vals.toList ++ List.replicate (fn.ntmps - vals.size) undef).getD i undef := by
        rw [Array.getD_eq_getD_getElem?, List.getD_eq_getElem?_getD]
        congr 1
        rw [← Array.getElem?_toList]
        simp
      show TR c w _ ((vals ++ Array.replicate (fn.ntmps - vals.size) undef).getD i undef)
      rw [e]; exact this
    · rw [getV_ge (by omega)]; trivial
  obtain ⟨a', w', todo', c', h1, h2, h3⟩ := eval_sound hm hty hfn hrs n [.code code] hrel he b cs
  obtain ⟨hd, v, c2, q1, q2, q3, q4, q5, q6⟩ := h3
  refine ⟨.returned v, w', _, ⟨v, c2, rfl, q2, h2.zero.trans q3, fun k hk => ?_, fun k hk => ?_, q6⟩, by rw [henter]; exact h1, rfl, rfl, hd, rfl, fn, hf, q1⟩
  · have := hr k hk
    rw [q4 k this]; exact (h2.low k (by omega)).1
  · have := hbx k hk
    rw [q5 k this]; exact (h2.low k (by omega)).2

end
end Go.VS
/- Up to the next cut. -/
set_option linter.unusedVariables false
set_option linter.unusedSimpArgs false
namespace Go.VS

/-- One step, where the ways go apart: `D` on the way, `C` at a cut (behind it the code of a loop, or a region at a join). -/
def isCut (fn : Fn) : List It → Bool
  | .lp _ :: _ => true
  | .code (.loop _) :: _ => true
  | .code (.region id _ _) :: _ => (look fn.joins id).isSome
  | _ => false

/-- So many steps, up to the next cut. -/
def seg (cx : Cx) (fn : Fn) (C : List It → St → Option R) : Nat → List It → St → Option R
  | 0, todo, st => C todo st
  | n + 1, todo, st => stepK cx fn todo st (bif isCut fn todo then C else seg cx fn C n)

/-- The code of a loop, and what is to be done behind it. -/
def findL (id : Nat) : Code → List It → Option (List It)
 | .seq a b, k => match findL id a (.code b :: k) with
   | some x => some x
   | none => findL id b k
 | .cond _ x y, k => match findL id x k with
   | some x => some x
   | none => findL id y k
 | .block i b, k => findL id b (.blk i :: k)
 | .loop b, k => if firstReg b = id then some (.code b :: .lp b :: k) else findL id b (.lp b :: k)
 | _, _ => none

end Go.VS
/- More steps give no other answer. -/
set_option linter.unusedVariables false
set_option linter.unusedSimpArgs false
namespace Go.VS

/-- An entry goes on with what it yields, whatever comes behind it. -/
def Entry.Lin (en : Entry) : Prop := ∀ st, (∀ K, en.E st K = none) ∨ ∃ fin res, ∀ K, en.E st K = K fin res

def Cx.Lin (cx : Cx) : Prop := ∀ f en, look cx.fns f = some en → en.Lin

def KQ (r : R) (Q : Option R → Prop) (K K' : St → Option R) : Prop := ∀ s, K s = some r → Q (K' s)
def DQ (r : R) (Q : Option R → Prop) (D D' : List It → St → Option R) : Prop := ∀ t s, D t s = some r → Q (D' t s)

section
variable {cx : Cx} {st : St} {r : R} {Q : Option R → Prop}

theorem settle_mono : ∀ (n : Nat) {st : St} {t : Nat} {b : Bool} {yes yes' no no' : St → Option R}, KQ r Q yes yes' → KQ r Q no no' → KQ r Q (fun st => settle n st t b yes no) (fun st => settle n st t b yes' no')
  | 0, _, _, _, _, _, _, _, _, _, s, h => by cases h
  | n + 1, _, t, b, yes, yes', no, no', hy, hn, s, h => by
    simp only [settle] at h ⊢
    split at h
    · rename_i t' w' hg
      split at h
      · exact settle_mono n (st := s) (fun s h => settle_mono n (st := s) hy hn s h) hn s h
      · cases h
    · split at h
      · split at h
        · rename_i hb; rw [if_pos hb]; exact hy _ h
        · rename_i hb; rw [if_neg hb]; exact hn _ h
      · split at h
        · rename_i hb; rw [if_pos hb]; exact hy _ h
        · rename_i hb; rw [if_neg hb]; exact hn _ h
      · exact hn _ h
      · cases h

theorem eff_mono {gs : List (Nat × Bool)} {dst : Option Nat} {op : Op} {k k' : St → Option R} (hk : KQ r Q k k') (h : effOp cx st gs dst op k = some r) : Q (effOp cx st gs dst op k') := by
  unfold effOp appendOp appendRow at *
  dsimp only at *
  repeat' (split at h)
  all_goals first
    | (cases h; done)
    | exact hk _ h
    | (rename_i hc; rw [if_pos hc]; exact hk _ h)
    | skip
  all_goals first
    | (simp only [*, if_true]; exact hk _ h)
    | skip

theorem callFn_mono (hfn : cx.Lin) {d : Nat} {fv : V} {args : List V} {ts : List TypeId} {K K' : St → V → Option R} (hk : ∀ s v, K s v = some r → Q (K' s v)) (h : callFn cx st d fv args ts K = some r) : Q (callFn cx st d fv args ts K') := by
  unfold callFn at *
  dsimp only at *
  split at h
  · rename_i f fi ca hc
    split at h
    · cases h
    · rename_i en hen
      split at h
      · cases h
      · rename_i slots E hin
        split at h
        · rename_i hl
          simp only [hl, if_true]
          rcases (hfn f en hen) { slots := slots, rows := E.rows, boxes := E.boxes } with hn | ⟨fin, res, hE⟩
          · rw [hn] at h; cases h
          · rw [hE] at h ⊢
            split at h
            · cases h
            · rename_i s1 hs1
              split at h
              · cases h
              · rename_i s v hlv
                exact hk _ _ h
        · cases h
  · cases h

theorem runOp_mono (hfn : cx.Lin) {ne : Bool} {dst : Option Nat} {op : Op} {K K' : St → Option R} (hk : KQ r Q K K') (h : runOp cx ne st dst op K = some r) : Q (runOp cx ne st dst op K') := by
  unfold runOp at *
  split at h
  · split at h
    · exact callFn_mono hfn (fun s v h => hk _ h) h
    · cases h
  · split at h
    · exact hk _ h
    · split at h
      · rename_i hb; rw [if_pos hb]; exact hk _ h
      · cases h
    · exact eff_mono hk h

theorem opK_mono (hfn : cx.Lin) {ne : Bool} {ops : Array Oper} {o : Oper} {K K' : St → Option R} (hk : KQ r Q K K') (h : opK cx ne ops o st K = some r) : Q (opK cx ne ops o st K') := by
  unfold opK at *
  split at h
  · exact runOp_mono hfn hk h
  · split at h
    · cases h
    · split at h
      · split at h
        · cases h
        · rename_i htd
          rw [if_neg htd]
          split at h
          · rename_i hb; rw [if_pos hb]; exact settle_mono 8 (st := st) (fun s h => runOp_mono hfn hk h) (fun s h => hk _ h) _ h
          · rename_i hb
            rw [if_neg hb]
            split at h
            · exact hk _ h
            · split at h
              · split at h
                · rename_i hb; rw [if_pos hb]; exact hk _ h
                · cases h
              · cases h
            · exact settle_mono 8 (st := st) (fun s h => runOp_mono hfn hk h) (fun s h => hk _ h) _ h
      · exact settle_mono 8 (st := st) (fun s h => runOp_mono hfn hk h) hk _ h

theorem runOps_mono (hfn : cx.Lin) {ne : Bool} {ops : Array Oper} {K K' : St → Option R} (hk : KQ r Q K K') : ∀ (l : List Nat), KQ r Q (fun st => runOps cx ne ops l st K) (fun st => runOps cx ne ops l st K')
  | [], s, h => hk _ h
  | i :: l, s, h => by
    simp only [runOps] at h ⊢
    split at h
    · cases h
    · exact opK_mono hfn (runOps_mono hfn hk l) h

theorem makerRow_mono {op : Op} {k k' : Row → Option R} (hk : ∀ row, k row = some r → Q (k' row)) (h : makerRow cx st op k = some r) : Q (makerRow cx st op k') := by
  unfold makerRow at *
  split at h
  · split at h
    · split at h
      · rename_i hc
        rw [if_pos hc]
        split at h
        · exact hk _ h
        · cases h
      · cases h
    · cases h
  · split at h
    · split at h
      · rename_i hc; rw [if_pos hc]; exact hk _ h
      · cases h
    · cases h
  · cases h

theorem makersK_mono {ops : Array Oper} : ∀ (js : List Nat) {k k' : List (Nat × Row) → Option R}, (∀ L, k L = some r → Q (k' L)) → makersK cx ops st js k = some r → Q (makersK cx ops st js k')
  | [], _, _, hk, h => hk _ h
  | j :: js, k, k', hk, h => by
    simp only [makersK] at h ⊢
    split at h
    · cases h
    · split at h
      · cases h
      · split at h
        · rename_i hc
          rw [if_pos hc]
          exact makerRow_mono (fun row h => makersK_mono js (fun L h => hk _ h) h) h
        · cases h

theorem runMain_mono (hfn : cx.Lin) {ne : Bool} {ops : Array Oper} {L : List (Nat × Row)} {K K' : St → Option R} (hk : KQ r Q K K') : ∀ (l : List Nat), KQ r Q (fun st => runMain cx ne ops L l st K) (fun st => runMain cx ne ops L l st K')
  | [], s, h => hk _ h
  | i :: l, s, h => by
    simp only [runMain] at h ⊢
    split at h
    · cases h
    · refine opK_mono hfn (fun s h => ?_) h
      split at h
      · rename_i hc; rw [if_pos hc]; exact runMain_mono hfn hk l _ h
      · cases h

theorem runPlan_mono (hfn : cx.Lin) {ne : Bool} {ops : Array Oper} {K K' : St → Option R} (hk : KQ r Q K K') : ∀ (l : List PE), KQ r Q (fun st => runPlan cx ne ops l st K) (fun st => runPlan cx ne ops l st K')
  | [], s, h => hk _ h
  | .one i tag :: l, s, h => by
    simp only [runPlan] at h ⊢
    split at h
    · cases h
    · split at h
      · rename_i hc; rw [if_pos hc]; exact opK_mono hfn (runPlan_mono hfn hk l) h
      · cases h
  | .grp is js :: l, s, h => by
    simp only [runPlan] at h ⊢
    split at h
    · rename_i hc
      rw [if_pos hc]
      exact makersK_mono js (fun L h => runMain_mono hfn (fun s h => runPlan_mono hfn hk l _ h) is _ h) h
    · cases h

theorem regionK_mono (hfn : cx.Lin) {ops : Array Oper} {draw : Bool} {K K' : St → Option R} (hk : KQ r Q K K') (h : regionK cx ops draw st K = some r) : Q (regionK cx ops draw st K') := by
  unfold regionK at *
  dsimp only at *
  split at h
  · rename_i hd
    rw [if_pos hd]
    split at h
    · rename_i hc; rw [if_pos hc]; exact runPlan_mono hfn hk _ _ h
    · cases h
  · rename_i hd
    rw [if_neg hd]
    exact runOps_mono hfn hk _ _ h

theorem loopK_mono {fn : Fn} {b : Code} {k : List It} {D D' : List It → St → Option R} (hd : DQ r Q D D') (h : loopK fn b k st D = some r) : Q (loopK fn b k st D') := by
  unfold loopK at *
  split at h
  · split at h
    · exact hd _ _ h
    · cases h
  · cases h

theorem stepK_mono (hfn : cx.Lin) {fn : Fn} {todo : List It} {D D' : List It → St → Option R} (hq : Q (some r)) (hd : DQ r Q D D') (h : stepK cx fn todo st D = some r) : Q (stepK cx fn todo st D') := by
  unfold stepK at *
  split at h
  · rw [h]; exact hq
  · exact hd _ _ h
  · exact loopK_mono hd h
  · exact regionK_mono hfn (fun s h => hd _ _ h) h
  · split at h
    · exact hd _ _ h
    · exact hd _ _ h
    · exact hd _ _ h
    · split at h
      · rename_i b hb
        cases b <;> exact hd _ _ h
      · cases h
    · exact hd _ _ h
    · exact loopK_mono hd h
    · split at h
      · exact hd _ _ h
      · cases h
    · rw [h]; exact hq
    · split at h
      · split at h
        · exact hd _ _ h
        · cases h
      · exact regionK_mono hfn (fun s h => hd _ _ h) h
    · cases h

theorem evalN_succ (hfn : cx.Lin) {fn : Fn} : ∀ n, DQ r (· = some r) (evalN cx fn n) (evalN cx fn (n + 1))
  | 0, t, s, h => by cases h
  | n + 1, t, s, h => by
    simp only [evalN] at h ⊢
    exact stepK_mono (Q := (· = some r)) hfn rfl (evalN_succ hfn n) h

theorem evalN_mono (hfn : cx.Lin) {fn : Fn} {n m : Nat} (hnm : n ≤ m) : DQ r (· = some r) (evalN cx fn n) (evalN cx fn m) := by
  induction m with
  | zero => have : n = 0 := by omega
            subst this; exact fun _ _ h => h
  | succ m ih =>
    by_cases he : n = m + 1
    · subst he; exact fun _ _ h => h
    · exact fun t s h => evalN_succ hfn m t s (ih (by omega) t s h)

theorem eval_ex {fn : Fn} {todo : List It} (h : eval cx fn todo st = some r) : ∃ n, evalN cx fn n todo st = some r := by
  unfold eval at h
  split at h
  · rename_i hh
    exact ⟨_, by rw [← h]; exact hh.choose_spec.choose_spec⟩
  · cases h

theorem eval_of (hfn : cx.Lin) {fn : Fn} {todo : List It} {n : Nat} (h : evalN cx fn n todo st = some r) : eval cx fn todo st = some r := by
  have hh : ∃ m r', evalN cx fn m todo st = some r' ∧ eval cx fn todo st = some r' := by
    have hh : ∃ n r, evalN cx fn n todo st = some r := ⟨n, r, h⟩
    exact ⟨_, _, hh.choose_spec.choose_spec, by unfold eval; rw [dif_pos hh]⟩
  obtain ⟨m, r', h3, h2⟩ := hh
  rw [h2]
  rcases Nat.le_total n m with hl | hl
  · have := evalN_mono hfn hl _ _ h
    exact h3.symm.trans this
  · have := evalN_mono hfn hl _ _ h3
    exact this.symm.trans h

def enc (r : R) (m : Nat) : R := ({ slots := r.1.slots ++ [.dead], rows := [], boxes := [], gd := [(m, 0, false)] }, [])

theorem enc_ne (r : R) (m : Nat) : enc r m ≠ r := by
  intro h
  have := congrArg (fun r : R => r.1.slots.length) h
  simp [enc] at this

theorem enc_inj {r : R} {m n : Nat} (h : enc r m = enc r n) : m = n := by
  have := congrArg (fun r : R => r.1.gd) h
  simpa [enc] using this

open Classical in
/-- The number of steps, told as an answer. -/
noncomputable def encD (cx : Cx) (fn : Fn) (r : R) (t : List It) (s : St) : Option R :=
  if h : ∃ m, evalN cx fn m t s = some r then some (enc r h.choose) else none

theorem encD_some {fn : Fn} {t : List It} {s : St} {x : R} (h : encD cx fn r t s = some x) : ∃ m, x = enc r m ∧ evalN cx fn m t s = some r := by
  unfold encD at h
  split at h
  · rename_i hh; cases h; exact ⟨_, rfl, hh.choose_spec⟩
  · cases h

/-- The meaning goes on step by step. -/
theorem eval_step (hfn : cx.Lin) {fn : Fn} {todo : List It} : eval cx fn todo st = stepK cx fn todo st (eval cx fn) := by
  have up : ∀ r m, DQ r (· = some r) (evalN cx fn m) (eval cx fn) := fun r m t s h => eval_of hfn h
  cases h : eval cx fn todo st with
  | some r =>
    obtain ⟨n, hn⟩ := eval_ex h
    cases n with
    | zero => cases hn
    | succ n =>
      simp only [evalN] at hn
      exact (stepK_mono (Q := (· = some r)) hfn rfl (up r n) hn).symm
  | none =>
    cases h2 : stepK cx fn todo st (eval cx fn) with
    | none => rfl
    | some r =>
      exfalso
      have h3 := stepK_mono (Q := fun o => o = some r ∨ ∃ m, o = some (enc r m)) hfn (.inl rfl) (D' := encD cx fn r) (fun t s hs => by
        obtain ⟨m, hm⟩ := eval_ex hs
        have hh : ∃ m, evalN cx fn m t s = some r := ⟨m, hm⟩
        exact .inr ⟨hh.choose, by unfold encD; rw [dif_pos hh]⟩) h2
      have fin : ∀ m, stepK cx fn todo st (evalN cx fn m) = some r → False := fun m hm => by
        have : evalN cx fn (m + 1) todo st = some r := hm
        rw [eval_of hfn this] at h; cases h
      rcases h3 with h3 | ⟨m, h3⟩
      · exact fin 0 (stepK_mono (Q := (· = some r)) hfn rfl (fun t s hs => by obtain ⟨m, hm, _⟩ := encD_some hs; exact absurd hm.symm (enc_ne r m)) h3)
      · have h4 := stepK_mono (Q := fun o => o = some r ∨ o = some (enc r m)) hfn (.inr rfl) (D' := evalN cx fn m) (fun t s hs => by
          obtain ⟨m', hm, he⟩ := encD_some hs
          have := enc_inj hm
          subst this
          exact .inl he) h3
        rcases h4 with h4 | h4
        · exact fin m h4
        · have := stepK_mono (Q := (· = some (enc r m))) hfn rfl (up (enc r m) m) h4
          rw [h2] at this
          exact enc_ne r m (Option.some.inj this).symm

/-- The meaning goes on up to the next cut. -/
theorem eval_seg (hfn : cx.Lin) {fn : Fn} : ∀ (m : Nat) (todo : List It) (st : St), eval cx fn todo st = seg cx fn (eval cx fn) m todo st
  | 0, _, _ => rfl
  | m + 1, todo, st => by
    have e : (bif isCut fn todo then eval cx fn else seg cx fn (eval cx fn) m) = eval cx fn := by
      cases isCut fn todo with
      | true => rfl
      | false => funext t s; exact (eval_seg hfn m t s).symm
    simp only [seg]
    rw [e]
    exact eval_step hfn

theorem Lin.of_fns {P : Program} (h : FnsOk P cx) : cx.Lin := fun f en hf s => ((h f en hf).calls s).imp id fun ⟨fin, res, h1, _⟩ => ⟨fin, res, h1⟩

end
end Go.VS
/- Functions as told by the evaluator: what is printed for each of them leans on this. -/
set_option linter.unusedVariables false
set_option linter.unusedSimpArgs false
namespace Go.VS

abbrev D : V := .dead

/-- The answer that a told result is told of. -/
noncomputable def dec {A : Type} (ret : A → R) (o : Option R) : Option A :=
  open Classical in
  if h : ∃ x, o = some (ret x) then some h.choose else none

theorem dec_some {A : Type} {ret : A → R} {o : Option R} {x : A} (h : dec ret o = some x) : o = some (ret x) := by
  unfold dec at h
  split at h
  · rename_i hh; cases h; exact hh.choose_spec
  · cases h

theorem dec_ret {A : Type} {ret : A → R} (hi : ∀ x y, ret x = ret y → x = y) (x : A) : dec ret (some (ret x)) = some x := by
  have hh : ∃ y, some (ret x) = some (ret y) := ⟨x, rfl⟩
  unfold dec
  rw [dif_pos hh]
  congr 1
  exact (hi _ _ (Option.some.inj hh.choose_spec)).symm

theorem dec_none {A : Type} {ret : A → R} : dec ret none = none := by
  unfold dec
  rw [dif_neg]
  rintro ⟨x, h⟩
  cases h

theorem dec_ite {A : Type} {ret : A → R} {c : Prop} [Decidable c] {a b : Option R} : dec ret (if c then a else b) = if c then dec ret a else dec ret b := by split <;> rfl
theorem dec_cond {A : Type} {ret : A → R} {c : Bool} {a b : Option R} : dec ret (bif c then a else b) = bif c then dec ret a else dec ret b := by cases c <;> rfl
theorem dec_bind {A B : Type} {ret : A → R} {o : Option B} {f : B → Option R} : dec ret (o.bind f) = o.bind fun r => dec ret (f r) := by
  cases o with
  | none => exact dec_none
  | some x => rfl
theorem dec_elim {A B C : Type} {ret : A → R} {s : B ⊕ C} {f : B → Option R} {g : C → Option R} : dec ret (Sum.elim f g s) = Sum.elim (fun r => dec ret (f r)) (fun r => dec ret (g r)) s := by cases s <;> rfl

/-- An entry: the shapes that it takes, what it yields. -/
def mkE {A B : Type} (modes : List (List Bool)) (pat : St → Option A) (X : A → Option B) (ap : B → (St → List V → Option R) → Option R) : Entry :=
  { modes := modes, E := fun st K => match pat st with
    | some a => (X a).bind fun b => ap b K
    | none => none }

section
variable {P : Program} {cx : Cx} {f : FuncId}

theorem mkE_ok {A B : Type} {modes : List (List Bool)} {pat : St → Option A} {X : A → Option B} {ap : B → (St → List V → Option R) → Option R} {ret : B → R} {mk : A → St} (hent : Enters P f) (hp : ∀ st a, pat st = some a → st = mk a)
    (hap : ∀ b K, ap b K = K (ret b).1 (ret b).2) (hvc : ∀ a b, X a = some b → VC P f (mk a) (ret b).1 (ret b).2) : EntOk P f (mkE modes pat X ap) := by
  refine ⟨hent, fun st => ?_⟩
  cases h : pat st with
  | none => exact .inl fun K => by simp [mkE, h]
  | some a =>
    cases hx : X a with
    | none => exact .inl fun K => by simp [mkE, h, hx]
    | some b =>
      refine .inr ⟨(ret b).1, (ret b).2, fun K => by simp [mkE, h, hx, hap], ?_⟩
      rw [hp _ _ h]
      exact hvc a b hx

/-- One entry or the other. -/
def orE (acc : St → Bool) (a b : Entry) : Entry := { modes := a.modes, E := fun st K => bif acc st then a.E st K else b.E st K }

theorem orE_ok {acc : St → Bool} {a b : Entry} (ha : EntOk P f a) (hb : EntOk P f b) : EntOk P f (orE acc a b) := by
  refine ⟨ha.enters, fun st => ?_⟩
  cases h : acc st with
  | true => simpa [orE, h] using ha.calls st
  | false => simpa [orE, h] using hb.calls st

def FnsL (P : Program) (l : List (Nat × Entry)) : Prop := ∀ f en, look l f = some en → EntOk P f en

theorem fns_nil : FnsL P [] := fun _ _ h => by cases h
theorem fns_cons {l : List (Nat × Entry)} {en : Entry} (h : EntOk P f en) (hl : FnsL P l) : FnsL P ((f, en) :: l) := by
  intro g e he
  simp only [look] at he
  split at he
  · rename_i hg; subst hg; cases he; exact h
  · exact hl g e he

theorem vc_of_X (hm : P.follows .mixedOrders = true) (hty : TyOk P cx) (hfn : FnsOk P cx) {fl : Fn} {fn : Func} {code : Code} {n : Nat} (hf : P.funcs[f]? = some fn) (hb : fn.body = some code) (hn : fn.ntmps = n) (hrs : fl.rs = fn.results.toList)
    {B : Type} {ret : B → R} {st : St} {b : B} (hnr : fl.nr ≤ 1000) (hnb : fl.nb ≤ 1000) (hr : st.rows.map (·.1) = List.range fl.nr) (hbx : st.boxes.map (·.1) = List.range fl.nb)
    (he : dec ret (eval cx fl [.code code] (start n st)) = some b) : VC P f st (ret b).1 (ret b).2 := by
  obtain ⟨m, hm'⟩ := eval_ex (dec_some he)
  have key : ∀ {α : Type} (l : List (Nat × α)) (n k : Nat), l.map (·.1) = List.range n → look l k ≠ none → k < n := by
    intro α l n k h1 h2
    have : ∀ (l : List (Nat × α)), look l k ≠ none → k ∈ l.map (·.1) := by
      intro l
      induction l with
      | nil => intro h; exact absurd rfl h
      | cons p l ih =>
        intro h
        simp only [look] at h
        split at h
        · rename_i hk; simp [hk]
        · exact List.mem_cons_of_mem _ (ih h)
    have := this l h2
    rw [h1] at this
    exact List.mem_range.1 this
  subst hn
  exact vc_of_eval hm hty hfn hf hb hrs hnr hnb (fun k h => key _ _ _ hr h) (fun k h => key _ _ _ hbx h) hm'

/-- The region at a join, and what is to be done behind it. -/
def findJ (id : Nat) : Code → List It → Option (List It)
 | .region i ops draw, k => if i = id then some (.now i ops draw :: k) else none
 | .seq a b, k => match findJ id a (.code b :: k) with
   | some x => some x
   | none => findJ id b k
 | .cond _ x y, k => match findJ id x k with
   | some x => some x
   | none => findJ id y k
 | .block i b, k => findJ id b (.blk i :: k)
 | .loop b, k => findJ id b (.lp b :: k)
 | _, _ => none

end

/-! ### The table of types, checked -/

def zeroDescB : V → TypeDesc → Bool
  | .int k _, .int k' => decide (k = k')
  | .int .., _ => false
  | .bool _, .bool => true
  | .bool _, _ => false
  | .str _, .string => true
  | .str _, _ => false
  | _, d => !isAggB d

theorem zeroDescB_ok {v : V} {d : TypeDesc} (h : zeroDescB v d = true) : zeroDesc v d := by
  unfold zeroDescB at h
  split at h
  · simp only [decide_eq_true_eq] at h; subst h; rfl
  · cases h
  · rfl
  · cases h
  · rfl
  · cases h
  · rename_i h1 h2 h3
    cases v <;> cases d <;> first | trivial | (simp [isAggB] at h; done) | exact absurd rfl (h1 _ _) | exact absurd rfl (h2 _) | exact absurd rfl (h3 _) | simp_all [isAggB, zeroDesc]

def isZeroB : V → Value → Bool
  | .int k n, .int k' n' => decide (k = k') && decide (n = n')
  | .bool b, .bool b' => b == b'
  | .str s, .string s' => decide (s = s')
  | .snil, .slice none 0 0 => true
  | .fnil, .nilFunc => true
  | .dead, _ => true
  | _, _ => false

theorem isZeroB_ok {v : V} {x : Value} (h : isZeroB v x = true) : IsZero v x := by
  unfold isZeroB at h
  split at h <;> first
    | (simp only [Bool.and_eq_true, decide_eq_true_eq] at h; obtain ⟨rfl, rfl⟩ := h; rfl)
    | (simp only [decide_eq_true_eq] at h; subst h; rfl)
    | (simp only [beq_iff_eq] at h; subst h; rfl)
    | rfl
    | trivial
    | cases h

def zerosB : List V → List Value → Bool
  | [], [] => true
  | v :: vs, x :: xs => isZeroB v x && zerosB vs xs
  | _, _ => false

theorem zerosB_ok : ∀ {vs : List V} {xs : List Value}, zerosB vs xs = true → LR IsZero vs xs
  | [], [], _ => trivial
  | v :: vs, x :: xs, h => by
    simp only [zerosB, Bool.and_eq_true] at h
    exact ⟨isZeroB_ok h.1, zerosB_ok h.2⟩
  | [], _ :: _, h => by cases h
  | _ :: _, [], h => by cases h

def oneB : Value → Bool
  | .agg _ => false
  | _ => true

theorem oneB_ok {v : Value} (h : oneB v = true) : v.cells = #[v] := by
  cases v <;> first | rfl | cases h

def frzB : K → Value → Bool
  | .int k, .int k' 0 => decide (k = k')
  | .bool, .bool false => true
  | .str, .string s => decide (s = ByteArray.empty)
  | .sl _, .slice none 0 0 => true
  | _, _ => false

theorem frzB_ok {e : K} {v : Value} (h : frzB e v = true) : ∀ w fr, FR w fr e e.dflt v := by
  intro w fr
  unfold frzB at h
  split at h
  · simp only [decide_eq_true_eq] at h; subst h; rfl
  · rfl
  · simp only [decide_eq_true_eq] at h; subst h; rfl
  · exact ⟨none, 0, rfl, by simp [K.dflt], by simp [LIM, K.dflt], fun h => by simp [K.dflt] at h⟩
  · cases h

def fieldB (P : Program) (f : Field) (x : Nat × Nat × Bool) : Bool :=
  f.offset == x.1 && (match P.info? f.type with | some i => i.size == x.2.1 | none => false) && decide (0 < x.2.1) && (match P.underlying f.type with | some d => isAggB d == x.2.2 | none => false) && (x.2.2 || x.2.1 == 1)

theorem fieldB_ok {P : Program} {f : Field} {x : Nat × Nat × Bool} (h : fieldB P f x = true) : FieldOk P f x := by
  simp only [fieldB, Bool.and_eq_true, beq_iff_eq, decide_eq_true_eq, Bool.or_eq_true] at h
  obtain ⟨⟨⟨⟨h1, h2⟩, h3⟩, h4⟩, h5⟩ := h
  refine ⟨h1, ?_, h3, ?_, fun e => ?_⟩
  · split at h2
    · rename_i i hi; exact ⟨i, hi, by simpa using h2⟩
    · cases h2
  · split at h4
    · rename_i d hd; exact ⟨d, hd, by simpa using h4⟩
    · cases h4
  · rcases h5 with h5 | h5
    · rw [e] at h5; cases h5
    · exact h5

def fieldsB (P : Program) : List Field → List (Nat × Nat × Bool) → Bool
  | [], [] => true
  | f :: fs, x :: xs => fieldB P f x && fieldsB P fs xs
  | _, _ => false

theorem fieldsB_ok {P : Program} : ∀ {fs : List Field} {xs : List (Nat × Nat × Bool)}, fieldsB P fs xs = true → fs.length = xs.length ∧ ∀ (i : Nat) f x, fs[i]? = some f → xs[i]? = some x → FieldOk P f x
  | [], [], _ => ⟨rfl, fun i f x h => by simp at h⟩
  | f :: fs, x :: xs, h => by
    simp only [fieldsB, Bool.and_eq_true] at h
    obtain ⟨h1, h2⟩ := fieldsB_ok h.2
    refine ⟨by simp [h1], fun i g y hg hy => ?_⟩
    cases i with
    | zero => cases hg; cases hy; exact fieldB_ok h.1
    | succ i => exact h2 i g y hg hy
  | [], _ :: _, h => by cases h
  | _ :: _, [], h => by cases h

def tiB (P : Program) (t : TypeId) : TI → Bool
  | .cell z => (match P.underlying t with | some d => zeroDescB z d | none => false) && (match P.info? t with
    | some i => i.size == 1 && (match i.zero with | some v => isZeroB z v && oneB v | none => false)
    | none => false)
  | .slice eT e => (match P.underlying t with | some (.slice eT') => eT' == eT | _ => false) && (match P.info? t with
    | some i => i.size == 1 && (match i.zero with | some (.slice none 0 0) => true | _ => false)
    | none => false) && (match P.info? eT with
    | some i => i.size == 1 && decide (i.bytes ≤ 24) && (match i.zero with | some v => oneB v && frzB e v | none => false)
    | none => false)
  | .agg n fs zs => match P.underlying t, P.info? t with
    | some (.struct fields), some i => i.size == n && zs.length == n && fieldsB P fields.toList fs && (match i.zero with | some (.agg cells) => zerosB zs cells.toList | _ => false)
    | _, _ => false
  | .arr n eT zs => match P.underlying t, P.info? t, P.underlying eT, P.info? eT with
    | some (.array n' eT'), some i, some d, some j => n' == n && eT' == eT && i.size == n && zs.length == n && j.size == 1 && !isAggB d && (match i.zero with | some (.agg cells) => zerosB zs cells.toList | _ => false)
    | _, _, _, _ => false

theorem tiB_ok {P : Program} {t : TypeId} {ti : TI} (h : tiB P t ti = true) : TIOk P t ti := by
  cases ti with
  | cell z =>
    simp only [tiB, Bool.and_eq_true] at h
    obtain ⟨h1, h2⟩ := h
    refine ⟨?_, ?_⟩
    · split at h1
      · rename_i d hd; exact ⟨d, hd, zeroDescB_ok h1⟩
      · cases h1
    · split at h2
      · rename_i i hi
        simp only [Bool.and_eq_true, beq_iff_eq] at h2
        obtain ⟨h3, h4⟩ := h2
        split at h4
        · rename_i v hv
          simp only [Bool.and_eq_true] at h4
          exact ⟨i, v, hi, h3, hv, isZeroB_ok h4.1, oneB_ok h4.2⟩
        · cases h4
      · cases h2
  | slice eT e =>
    simp only [tiB, Bool.and_eq_true] at h
    obtain ⟨⟨h1, h2⟩, h3⟩ := h
    refine ⟨?_, ?_, ?_⟩
    · split at h1
      · rename_i hu; simp only [beq_iff_eq] at h1; subst h1; exact hu
      · cases h1
    · split at h2
      · rename_i i hi
        simp only [Bool.and_eq_true, beq_iff_eq] at h2
        obtain ⟨h4, h5⟩ := h2
        split at h5
        · rename_i hz; exact ⟨i, hi, h4, hz⟩
        · cases h5
      · cases h2
    · split at h3
      · rename_i i hi
        simp only [Bool.and_eq_true, beq_iff_eq, decide_eq_true_eq] at h3
        obtain ⟨⟨h4, h5⟩, h6⟩ := h3
        split at h6
        · rename_i v hv
          simp only [Bool.and_eq_true] at h6
          exact ⟨i, v, hi, h4, h5, hv, oneB_ok h6.1, frzB_ok h6.2⟩
        · cases h6
      · cases h3
  | agg n fs zs =>
    simp only [tiB] at h
    split at h
    · rename_i fields i hu hi
      simp only [Bool.and_eq_true, beq_iff_eq] at h
      obtain ⟨⟨⟨h1, h2⟩, h3⟩, h4⟩ := h
      split at h4
      · rename_i cells hz
        obtain ⟨q1, q2⟩ := fieldsB_ok h3
        exact ⟨fields, cells, hu, ⟨i, hi, h1, hz⟩, h2, zerosB_ok h4, by simpa using q1, fun i f x hf hx => q2 i f x (by simpa using hf) hx⟩
      · cases h4
    · cases h
  | arr n eT zs =>
    simp only [tiB] at h
    split at h
    · rename_i n' eT' i d j hu hi hd hj
      simp only [Bool.and_eq_true, beq_iff_eq, Bool.not_eq_true'] at h
      obtain ⟨⟨⟨⟨⟨⟨h1, h2⟩, h3⟩, h4⟩, h5⟩, h6⟩, h7⟩ := h
      subst h1; subst h2
      split at h7
      · rename_i cells hz
        exact ⟨cells, hu, ⟨i, hi, h3, hz⟩, h4, zerosB_ok h7, ⟨j, hj, h5⟩, d, hd, h6⟩
      · cases h7
    · cases h

def tyB (P : Program) (l : List (Nat × TI)) : Bool := l.all fun p => tiB P p.1 p.2

theorem tyB_ok {P : Program} {cx : Cx} (h : tyB P cx.ty = true) : TyOk P cx := by
  intro t ti hl
  have : ∀ (l : List (Nat × TI)), look l t = some ti → (t, ti) ∈ l := by
    intro l
    induction l with
    | nil => intro h; cases h
    | cons p l ih =>
      intro h
      simp only [look] at h
      split at h
      · rename_i hk; subst hk; cases h; exact List.mem_cons_self ..
      · exact List.mem_cons_of_mem _ (ih h)
  exact tiB_ok (List.all_eq_true.1 h _ (this _ hl))

end Go.VS
