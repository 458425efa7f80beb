/- A call, whole. -/
import Derived.Test.YtnibmainjgcmaaaV7
set_option linter.unusedVariables false
set_option linter.unusedSimpArgs false
namespace Go.VS

/-- What is known of a call. -/
def VC (P : Program) (f : FuncId) (st fin : St) (res : List V) : Prop :=
  ∀ (w : World) (c : Cfg) (vals : Array Value), MRel st c w → LR (ClR c w) st.slots vals.toList →
    Calls P f vals w fun e w' => ∃ v c', e = .returned v ∧ MRel fin c' w' ∧ Step0 c c' w w' ∧ (∀ n, look st.rows n ≠ none → c'.hdr n = c.hdr n) ∧ (∀ n, look st.boxes n ≠ none → c'.box n = c.box n) ∧ ResR c' w' res v

def Enters (P : Program) (f : FuncId) : Prop := ∀ (w : World) (args : Array Value), (callFunc f args).run P w = .ok (.enter f args) w

/-- An entry of the table that may be relied on. -/
structure EntOk (P : Program) (f : FuncId) (en : Entry) : Prop where
  enters : Enters P f
  calls : ∀ st, (∀ K, en.E st K = none) ∨ ∃ fin res, (∀ K, en.E st K = K fin res) ∧ VC P f st fin res

def FnsOk (P : Program) (cx : Cx) : Prop := ∀ f en, look cx.fns f = some en → EntOk P f en

section
variable {P : Program} {cx : Cx} {st : St} {c c' c'' c1 c2 : Cfg} {a : Act} {w w' w'' w1 : World} {gs : List (Nat × Bool)} {E E' E'' : Ent}

/-! ### nil handed over -/

theorem kill_over {n0 : Nat} (hlt : ∀ b, c'.ow b ≠ none → b < w.heap.size) (hd : ∀ m, ¬(n0 ≤ m ∧ m < n0 + 1000) → c'.hdr m = c.hdr m) (hb : c'.box = c.box) (ho : c'.ow = c.ow) : Over (killR n0 (n0 + 1000)) c c' w w := by
  refine ⟨fun n m hm => ?_, fun b m hm => ?_, fun b _ hf => ⟨by unfold Cfg.free at *; rw [ho]; exact hf, rfl⟩, hlt⟩
  · simp only [killR] at hm
    split at hm
    · cases hm
    · rename_i hc; cases hm; exact hd n (by simpa using hc)
  · simp only [killR] at hm; cases hm; rw [hb]

theorem nil_sound (hty : TyOk P cx) {n0 : Nat} {c0 : Cfg} : ∀ (args : List V) (ts : List TypeId) (own : List (List Bool)) (n : Nat) (st : St) (c : Cfg) (xs : List Value), Rel st c a w → 1000 ≤ n → n0 ≤ n → n + args.length ≤ n0 + 1000 →
    (∀ m, ¬(n0 ≤ m ∧ m < n0 + 1000) → c.hdr m = c0.hdr m) → c.box = c0.box → c.ow = c0.ow → LR (TR c0 w) args xs →
    ∃ c', Rel (nilSt cx own n st args ts) c' a w ∧ Step c c' w w ∧ Still c c' w w ∧ (∀ m, m < n → c'.hdr m = c.hdr m) ∧ (∀ m, ¬(n0 ≤ m ∧ m < n0 + 1000) → c'.hdr m = c0.hdr m) ∧ c'.box = c0.box ∧ c'.ow = c0.ow ∧ LR (TR c' w) (nilVs cx (killR n0 (n0 + 1000)) own n args ts) xs
  | [], ts, own, n, st, c, xs, h, _, _, _, hd, hb, ho, hl => by
    have e1 : nilSt cx own n st [] ts = st := by simp [nilSt]
    have e2 : nilVs cx (killR n0 (n0 + 1000)) own n [] ts = [] := by simp [nilVs]
    rw [e1, e2]
    cases xs with
    | nil => exact ⟨c, h, Step.refl c w, Still.refl c w, fun _ _ => rfl, hd, hb, ho, trivial⟩
    | cons _ _ => exact hl.elim
  | v :: args, [], own, n, st, c, xs, h, _, _, _, hd, hb, ho, hl => by
    have e1 : nilSt cx own n st (v :: args) [] = st := by simp [nilSt]
    have e2 : nilVs cx (killR n0 (n0 + 1000)) own n (v :: args) [] = (v :: args).map (killR n0 (n0 + 1000)).tup := by simp [nilVs]
    rw [e1, e2]
    have over := kill_over (w := w) (n0 := n0) (c := c0) (c' := c) h.mem.lt hd hb ho
    exact ⟨c, h, Step.refl c w, Still.refl c w, fun _ _ => rfl, hd, hb, ho, LR.map _ (fun v x hx => over.tr hx) hl⟩
  | v :: args, t :: ts, own, n, st, c, x :: xs, h, hn, hn0, hlen, hd, hb, ho, hl => by
    simp only [List.length_cons] at hlen
    simp only [nilSt, nilVs]
    have plain : ∃ c', Rel (nilSt cx own.tail (n + 1) st args ts) c' a w ∧ Step c c' w w ∧ Still c c' w w ∧ (∀ m, m < n + 1 → c'.hdr m = c.hdr m) ∧ (∀ m, ¬(n0 ≤ m ∧ m < n0 + 1000) → c'.hdr m = c0.hdr m) ∧ c'.box = c0.box ∧ c'.ow = c0.ow ∧
        LR (TR c' w) (nilVs cx (killR n0 (n0 + 1000)) own.tail (n + 1) args ts) xs :=
      nil_sound hty args ts own.tail (n + 1) st c xs h (by omega) (by omega) (by omega) hd hb ho hl.2
    by_cases hv : v = .snil
    · subst hv
      simp only [nilV, nilS]
      have hx : x = .slice none 0 0 := hl.1
      cases hlk : look cx.ty t with
      | none =>
        obtain ⟨c', h1, h2, h3, h4, h5, h6, h7, h8⟩ := plain
        exact ⟨c', h1, h2, h3, fun m hm => h4 m (by omega), h5, h6, h7, hx, h8⟩
      | some ti =>
        cases ti with
        | slice eT e =>
          by_cases hown : (own.headD []).headD false = true
          · simp only [hown, if_true]
            obtain ⟨c1, r1, s1, t1, v1, o1, d1, b1⟩ := h.nilRow n hn e
            obtain ⟨c', h1, h2, h3, h4, h5, h6, h7, h8⟩ := nil_sound (n0 := n0) (c0 := c0) hty args ts own.tail (n + 1) _ c1 xs r1 (by omega) (by omega) (by omega) (fun m hm => by rw [d1 m (by omega)]; exact hd m hm) (b1.trans hb) (o1.trans ho) hl.2
            refine ⟨c', h1, s1.trans h2, t1.trans h3 (Nat.le_refl _), fun m hm => by rw [h4 m (by omega), d1 m (by omega)], h5, h6, h7, ?_, h8⟩
            show x = c'.hv n
            rw [hx, ← v1]; unfold Cfg.hv; rw [h4 n (by omega)]
          · simp only [hown]
            obtain ⟨c', h1, h2, h3, h4, h5, h6, h7, h8⟩ := plain
            exact ⟨c', h1, h2, h3, fun m hm => h4 m (by omega), h5, h6, h7, ⟨none, 0, hx, by simp, by simp [LIM], fun h0 => by simp at h0⟩, h8⟩
        | _ =>
          obtain ⟨c', h1, h2, h3, h4, h5, h6, h7, h8⟩ := plain
          exact ⟨c', h1, h2, h3, fun m hm => h4 m (by omega), h5, h6, h7, hx, h8⟩
    · obtain ⟨c', h1, h2, h3, h4, h5, h6, h7, h8⟩ := plain
      have over := kill_over (w := w) (n0 := n0) (c := c0) (c' := c') h1.mem.lt h5 h6 h7
      have e1 : nilV cx ((own.headD []).headD false) n (killR n0 (n0 + 1000)) t v = (killR n0 (n0 + 1000)).tup v := by
        cases v <;> first | rfl | exact absurd rfl hv
      have e2 : nilS cx ((own.headD []).headD false) n st t v = st := by
        cases v <;> first | rfl | exact absurd rfl hv
      rw [e1, e2]
      exact ⟨c', h1, h2, h3, fun m hm => h4 m (by omega), h5, h6, h7, over.tr hl.1, h8⟩
  | _ :: _, _ :: _, _, _, _, _, [], _, _, _, _, _, _, _, hl => hl.elim

theorem tr_tr (g : EGood E) (hm : MRel E.st c w) {v v' : V} {x : Value} (ht : TrCl E v v') (h : TR c w v x) : ClR (E.cfg c) w v' x := by
  cases v with
  | tup vs => exact ht.elim
  | _ => exact tr_clr g hm ht h

theorem LR.split {r : V → Value → Prop} : ∀ {as bs : List V} {xs : List Value}, LR r (as ++ bs) xs → ∃ ys zs, xs = ys ++ zs ∧ LR r as ys ∧ LR r bs zs
  | [], bs, xs, h => ⟨[], xs, rfl, trivial, h⟩
  | _ :: as, bs, x :: xs, h => by
    obtain ⟨ys, zs, h1, h2, h3⟩ := LR.split (as := as) h.2
    exact ⟨x :: ys, zs, by rw [h1]; rfl, ⟨h.1, h2⟩, h3⟩

theorem clo_inv {p : Ren} {v : V} {f : FuncId} {fi ca : List V} (h : p.clo v = .clo f fi ca) : ∃ fi ca, v = .clo f fi ca := by
  cases v with
  | clo f' a b => simp only [Ren.clo] at h; cases h; exact ⟨a, b, rfl⟩
  | _ => (simp only [Ren.clo, Ren.agg, Ren.cell] at h; repeat' split at h) <;> first | cases h | contradiction

def readOnly (en : Entry) : Bool := en.modes.all fun m => m.all (!·)

theorem call_sound (hty : TyOk P cx) (hfn : FnsOk P cx) (h : Rel st c a w) {d : Nat} {fv : V} {fx : Value} {args : List V} {xs : Array Value} {ts : List TypeId} {K : St → V → Option R} {r : R}
    (hk : callFn cx st d fv args ts K = some r) (hf : TR c w fv fx) (ha : LR (TR c w) args xs.toList) :
    ∃ f first caps en, fv = .clo f first caps ∧ look cx.fns f = some en ∧ ∃ a1 a2 : Array Value, fx = .func (.func f) a1 a2 ∧ Calls P f (a1 ++ xs ++ a2) w fun e w' => ∃ v s c' x, e = .returned v ∧ K s x = some r ∧ Rel s c' a w' ∧ Step c c' w w' ∧ (readOnly en = true → Still c c' w w' ∧ Same w w') ∧ TR c' w' x v := by
  unfold callFn at hk
  simp only at hk
  let p := killR (3000000 + 1000 * d) (3000000 + 1000 * d + 1000)
  cases hpv : p.clo fv with
  | clo f fi0 ca0 =>
    obtain ⟨first, caps, rfl⟩ := clo_inv hpv
    have hpc : p.clo (.clo f first caps) = .clo f (first.map p.agg) (caps.map p.agg) := rfl
    rw [show (killR (3000000 + 1000 * d) (3000000 + 1000 * d + 1000)).clo (.clo f first caps) = .clo f (first.map p.agg) (caps.map p.agg) from rfl] at hk
    simp only at hk
    cases hen : look cx.fns f with
    | none => rw [hen] at hk; cases hk
    | some en =>
      rw [hen] at hk
      simp only at hk
      obtain ⟨a1, a2, hfx, hf1, hf2⟩ := hf
      refine ⟨f, first, caps, en, rfl, hen, a1, a2, hfx, ?_⟩
      split at hk
      · cases hk
      · rename_i slots E hin
        split at hk
        case isFalse => cases hk
        rename_i hlen
        obtain ⟨c1, r1, s1, t1, _, d1, b1, o1, l1⟩ := nil_sound (n0 := 3000000 + 1000 * d) (c0 := c) hty args ts (en.modes.drop (first.map p.agg).length) (3000000 + 1000 * d) st c xs.toList h (by omega) (Nat.le_refl _) (by omega) (fun _ _ => rfl) rfl rfl ha
        have over := kill_over (w := w) (n0 := 3000000 + 1000 * d) (c := c) (c' := c1) r1.mem.lt d1 b1 o1
        obtain ⟨g, gr, tl, ro⟩ := argsIn_ok (EGood.empty _) hin
        have est : E.st = nilSt cx (en.modes.drop (first.map p.agg).length) (3000000 + 1000 * d) st args ts := gr.st
        have rE : Rel E.st c1 a w := by rw [est]; exact r1
        have hargs : LR (TR c1 w) ((first.map p.agg ++ nilVs cx p (en.modes.drop (first.map p.agg).length) (3000000 + 1000 * d) args ts) ++ caps.map p.agg) (a1 ++ xs ++ a2).toList := by
          have q1 : LR (TR c1 w) (first.map p.agg) a1.toList := LR.mono (fun _ _ hx => hx.clr.tr) (LR.map (r' := AR c1 w) p.agg (fun v x hx => over.ar hx) hf1)
          have q2 : LR (TR c1 w) (caps.map p.agg) a2.toList := LR.mono (fun _ _ hx => hx.clr.tr) (LR.map (r' := AR c1 w) p.agg (fun v x hx => over.ar hx) hf2)
          have := (q1.append l1).append q2
          simpa using this
        have hslots : LR (ClR (E.cfg c1) w) slots (a1 ++ xs ++ a2).toList := TL.lr (r1 := TR c1 w) (r2 := ClR (E.cfg c1) w) (fun _ _ _ ht hx => tr_tr g rE.mem ht hx) tl hargs
        have hmrel := tr_mrel g rE.mem slots
        rcases (hfn f en hen).calls { slots := slots, rows := E.rows, boxes := E.boxes } with hnone | ⟨fin, res, hE, hvc⟩
        · rw [hnone] at hk; cases hk
        · rw [hE] at hk
          refine Calls.mono (hvc w (E.cfg c1) _ hmrel hslots) fun e w1 he => ?_
          obtain ⟨v, cF, hev, hmF, hsF, hlr0, hlb0, hres⟩ := he
          have hlr : ∀ k, k < E.pr.length → cF.hdr k = (E.cfg c1).hdr k := fun k hk => hlr0 k (g.has k hk)
          have hlb : ∀ k, k < E.pb.length → cF.box k = (E.cfg c1).box k := fun k hk => hlb0 k (g.hasb k hk)
          have roE : readOnly en = true → E.pr = [] ∧ E.pb = [] := fun hro => ro hro
          have roS : readOnly en = true → Same w w1 := fun hro b hb => by
            obtain ⟨p1, p2⟩ := roE hro
            refine hsF.keep b hb ?_
            unfold Ent.cfg
            simp only [p1, p2]
            cases c1.ow b with
            | none => exact .inl rfl
            | some rr =>
              cases rr with
              | ext => exact .inr rfl
              | row n => simp only [List.not_mem_nil, if_false]; by_cases hh : n ∈ E.rd <;> simp [hh]
              | box n => simp only [List.not_mem_nil, if_false]; by_cases hh : n ∈ E.rb <;> simp [hh]
          by_cases hot : (fin.anyFrz || res.any V.frzC) = true
          · rw [if_pos hot] at hk
            cases hfb : (E.st.freezeAll E.rd).freezeBoxes E.rb with
            | none => rw [hfb] at hk; cases hk
            | some sF =>
              rw [hfb] at hk
              simp only at hk
              obtain ⟨r2, s2, t2, rr2, bb2⟩ := rE.freezeAll' E.rd (fun n hn => .inl (g.rdl n hn))
              obtain ⟨done', hd', r3, s3, t3, rr3, _⟩ := r2.freezeBoxes' E.rb E.rd c1 rfl hfb (fun n hn => .inl (fun e => g.rbl n hn ((bb2 n).1 e)))
              let E1 : Ent := { E with st := sF, rd := [], rb := [] }
              have g1 : ENames E1 := ⟨g.nd, (fun n hn => by cases hn), g.ndb, (fun n hn => by cases hn)⟩
              have ec : E1.cfg (c1.unl E.rd done') = E.cfg c1 := by
                unfold Ent.cfg
                congr 1
                funext b
                simp only [Cfg.unl, E1]
                cases hq : c1.ow b with
                | none => rfl
                | some rr =>
                  cases rr with
                  | ext => rfl
                  | row n =>
                    by_cases hn : n ∈ E.rd
                    · simp [hn, g.dis n hn]
                    · simp [hn]
                  | box n =>
                    have hdn : n ∈ done' ↔ n ∈ E.rb := by rw [hd' n]; simp
                    by_cases hn : n ∈ E.rb
                    · simp [hdn.2 hn, hn, g.disb n hn]
                    · have : n ∉ done' := fun e => hn (hdn.1 e)
                      simp [hn, this]
              cases hlv : leave { E with st := sF } (2000000 + 1000 * d) fin res with
              | none => rw [hlv] at hk; cases hk
              | some q =>
                obtain ⟨s, x⟩ := q
                rw [hlv] at hk
                simp only at hk
                obtain ⟨c2, q1, q2, q3, q4⟩ := leave_sound (E := E1) g1 (base := 2000000 + 1000 * d) r3 (by omega) hmF (by rw [ec]; exact hsF) (by rw [ec]; exact hlr) (by rw [ec]; exact hlb) hres (.inl ⟨rfl, rfl⟩) hlv
                refine ⟨v, s, c2, x, hev, hk, q1, ((s1.trans s2).trans s3).trans q2, fun hro => ?_, q4⟩
                obtain ⟨p1, p2⟩ := roE hro
                exact ⟨((t1.trans t2 (Nat.le_refl _)).trans t3 (Nat.le_refl _)).trans (q3 p1 p2) (Nat.le_refl _), roS hro⟩
          · rw [if_neg hot] at hk
            simp only at hk
            have hc : fin.anyFrz = false ∧ res.any V.frzC = false := by simpa using hot
            cases hlv : leave { E with st := E.st } (2000000 + 1000 * d) fin res with
            | none => rw [hlv] at hk; cases hk
            | some q =>
              obtain ⟨s, x⟩ := q
              rw [hlv] at hk
              simp only at hk
              obtain ⟨c2, q1, q2, q3, q4⟩ := leave_sound (E := E) g.names (base := 2000000 + 1000 * d) rE (by omega) hmF hsF hlr hlb hres (.inr hc) hlv
              refine ⟨v, s, c2, x, hev, hk, q1, s1.trans q2, fun hro => ?_, q4⟩
              obtain ⟨p1, p2⟩ := roE hro
              exact ⟨t1.trans (q3 p1 p2) (Nat.le_refl _), roS hro⟩
  | _ => rw [show (killR (3000000 + 1000 * d) (3000000 + 1000 * d + 1000)).clo fv = _ from hpv] at hk; cases hk

end
end Go.VS
/- One operation of a region, under its guard. -/
set_option linter.unusedVariables false
set_option linter.unusedSimpArgs false
namespace Go.VS
section
variable {P : Program} {cx : Cx} {st : St} {c c' c'' c1 c2 : Cfg} {a : Act} {w w' w'' w1 : World} {gs : List (Nat × Bool)}

/-- An operation that is carried out. -/
def Runs (P : Program) (c : Cfg) (a : Act) (w : World) (dst : Option Nat) (op : Op) (still : Bool) (K : St → Option R) (r : R) : Prop :=
  ∀ (Q : Exit → Act → World → Prop) (next : Act → World → Prop) (ty : TypeId) (pos : String) (after : Array Edge) (gd : Option (Nat × Bool)),
    (∀ st' c' x w', K st' = some r → Rel st' c' (a.put dst x) w' → Step c c' w w' → (still = true → StillO op c c' w w') → next (a.put dst x) w') →
    Oper.wp P { dst, op, type := ty, pos, after, guard := gd } a w next Q

theorem holds_nil : Holds a [] := fun _ _ h => by cases h

theorem Comes2.runs {dst : Option Nat} {op : Op} {still : Bool} {K : St → Option R} {r : R} (h : Comes2 P c a w dst op still K r) : Runs P c a w dst op still K r := by
  obtain ⟨st', c', w', nx, x, h1, h2, h3, h4, h5, h6⟩ := h
  intro Q next ty pos after gd hn
  unfold Oper.wp
  rw [h6]
  rcases h2 with rfl | ⟨rfl, rfl⟩
  · exact hn _ _ _ _ h1 h3 h4 h5
  · exact hn _ _ _ _ h1 h3 h4 h5

theorem Gives.runs {dst : Option Nat} {op : Op} {v : V} {cl : Nat} {el : Bool} {K : St → Option R} {r : R} {still : Bool} (hg : Gives P c w a op v cl el) (h : Rel st c a w) (hk : K (st.put dst v) = some r) : Runs P c a w dst op still K r := by
  obtain ⟨x, bl, h1, _, _, h4⟩ := hg
  intro Q next ty pos after gd hn
  unfold Oper.wp
  rw [h4 w dst ty pos after gd (fun _ _ => rfl)]
  exact hn _ _ _ _ hk (h.put h1) (Step.refl _ _) (fun _ => StillO.refl)

theorem Runs.weaken {dst : Option Nat} {op : Op} {still still' : Bool} {K : St → Option R} {r : R} (hs : still' = true → still = true) (h : Runs P c a w dst op still K r) : Runs P c a w dst op still' K r :=
  fun Q next ty pos after gd hn => h Q next ty pos after gd fun st' c' x w' h1 h2 h3 h4 => hn st' c' x w' h1 h2 h3 fun hh => h4 (hs hh)

theorem opClass_call {f : FuncId} {args : Array Operand} {ts : Array TypeId} {en : Entry} (hl : look cx.fns f = some en) (h : opClass cx (.call { callee := .value (.func f), args := args, argTypes := ts }) ≤ 2) : readOnly en = true := by
  simp only [opClass, hl] at h
  split at h
  · assumption
  · omega

theorem runOp_sound (hty : TyOk P cx) (hfn : FnsOk P cx) (h : Rel st c a w) {ne : Bool} {dst : Option Nat} {op : Op} {K : St → Option R} {r : R} (hk : runOp cx ne st dst op K = some r) :
    Runs P c a w dst op (decide (opClass cx op ≤ 2)) K r := by
  unfold runOp at hk
  split at hk
  · rename_i f args argTypes
    split at hk
    case h_2 => cases hk
    rename_i d
    intro Q next ty pos after gd hn
    have ha : LR (TR c w) (args.toList.map (opd st [])) (args.map a.eval).toList := by
      rw [Array.toList_map]
      exact LR.of_map _ _ _ (fun o => opd_sound h holds_nil o) _
    obtain ⟨fid, first, caps, en, e1, e2, a1, a2, e3, hc⟩ := call_sound hty hfn h hk (opd_sound h holds_nil f) ha
    have hrun : (execOp a.eval { dst := some d, op := .call { callee := .value f, args := args, argTypes := argTypes }, type := ty, pos, after, guard := gd }).run P w = .ok (.enter fid (a1 ++ args.map a.eval ++ a2)) w := by
      have := (hfn _ _ e2).enters w (a1 ++ args.map a.eval ++ a2)
      simp [execOp, resolve, Deferred.ofValue, e3, invoke]
      simpa using this
    unfold Oper.wp
    rw [hrun]
    refine Calls.mono hc fun e w1 he => ?_
    obtain ⟨v, s, c', x, rfl, h1, h2, h3, h4, h5⟩ := he
    refine hn _ _ _ _ h1 (h2.put h5) h3 fun hs => (fun q => ⟨q.1, fun _ => q.2⟩) (h4 ?_)
    simp only [decide_eq_true_eq] at hs
    cases f with
    | func fid' =>
      have : (V.clo fid' [] []) = .clo fid first caps := e1
      cases this
      exact opClass_call e2 hs
    | _ => simp only [opClass] at hs; omega
  · rename_i op' hne
    cases hp : pureN cx ne st [] op with
    | some q =>
      obtain ⟨q, v⟩ := q
      rw [hp] at hk
      have hp' : pureOp cx st [] op = some (q, v) := by
        unfold pureN at hp
        split at hp
        · cases hp
        · exact hp
      cases q with
      | none => exact (pure_sound hty h holds_nil hp' (fun b hb => by cases hb)).runs h hk
      | some b =>
        simp only at hk
        split at hk
        · rename_i hb; subst hb
          exact (pure_sound hty h holds_nil hp' (fun b hb => by cases hb; rfl)).runs h hk
        · cases hk
    | none =>
      rw [hp] at hk
      refine (eff_sound hty h holds_nil hk).runs.weaken fun hs => ?_
      cases op <;> first | rfl | (simp [opClass] at hs)

/-! ### Guards settled -/

theorem guardOf_filter (f : Nat → Bool) : ∀ (gd : List (Nat × Nat × Bool)) (i : Nat), guardOf (gd.filter fun e => f e.1) i = if f i = true then guardOf gd i else none
  | [], i => by simp [guardOf]
  | (s, t, b) :: gd, i => by
    rw [List.filter_cons]
    by_cases hf : f s = true
    · simp only [hf, if_true, guardOf]
      by_cases hs : s = i
      · subst hs; simp [hf]
      · rw [if_neg hs, if_neg hs]; exact guardOf_filter f gd i
    · simp only [hf, guardOf]
      by_cases hs : s = i
      · subst hs; simp only [if_true]; rw [if_neg (by simp), guardOf_filter f gd s, if_neg hf, if_neg hf]
      · rw [if_neg hs, if_neg (by simp)]; exact guardOf_filter f gd i

theorem deadIf_length (gd0 : List (Nat × Nat × Bool)) (t : Nat) (b : Bool) : ∀ (l : List (Nat × Nat × Bool)) (vs : List V), (deadIf gd0 t b vs l).length = vs.length
  | [], vs => rfl
  | (s, _, _) :: l, vs => by
    simp only [deadIf]
    rw [deadIf_length gd0 t b l]
    split
    · split
      · split
        · rfl
        · exact setV_length ..
      · rfl
    · rfl

theorem deadIf_get (gd0 : List (Nat × Nat × Bool)) (t : Nat) (b : Bool) : ∀ (l : List (Nat × Nat × Bool)) (vs : List V) (i : Nat),
    getV (deadIf gd0 t b vs l) i = .dead ∨ (getV (deadIf gd0 t b vs l) i = getV vs i ∧ ((∃ q, (i, q) ∈ l) → ∀ b', guardOf gd0 i = some (t, b') → b' = b))
  | [], vs, i => .inr ⟨rfl, fun ⟨_, h⟩ => by cases h⟩
  | (s, q) :: l, vs, i => by
    simp only [deadIf]
    have rest : ∀ vs', (getV vs' i = .dead ∨ getV vs' i = getV vs i ∧ (s = i → ∀ b', guardOf gd0 i = some (t, b') → b' = b)) → _ := fun vs' hv' => show
      getV (deadIf gd0 t b vs' l) i = .dead ∨ (getV (deadIf gd0 t b vs' l) i = getV vs i ∧ ((∃ q', (i, q') ∈ (s, q) :: l) → ∀ b', guardOf gd0 i = some (t, b') → b' = b)) by
      rcases deadIf_get gd0 t b l vs' i with h | ⟨h1, h2⟩
      · exact .inl h
      · rcases hv' with hv' | ⟨hv1, hv2⟩
        · left; rw [h1, hv']
        · refine .inr ⟨h1.trans hv1, fun ⟨q', hq'⟩ b' hb' => ?_⟩
          rcases List.mem_cons.1 hq' with e | e
          · cases e; exact hv2 rfl b' hb'
          · exact h2 ⟨q', e⟩ b' hb'
    cases hg : guardOf gd0 s with
    | none => exact rest vs (.inr ⟨rfl, fun e b' hb' => by subst e; rw [hg] at hb'; cases hb'⟩)
    | some p =>
      obtain ⟨t', w'⟩ := p
      simp only
      by_cases ht : t' = t
      · subst ht
        rw [if_pos rfl]
        by_cases hw : w' = b
        · rw [if_pos hw]
          exact rest vs (.inr ⟨rfl, fun e b' hb' => by subst e; rw [hg] at hb'; cases hb'; exact hw⟩)
        · rw [if_neg hw]
          refine rest _ ?_
          by_cases hs : s = i
          · subst hs
            by_cases hl : s < vs.length
            · left; exact getV_setV_same _ _ _ hl
            · left; rw [getV_ge (by rw [setV_length]; omega)]
          · right; exact ⟨getV_setV_ne _ _ _ _ hs, fun e => absurd e hs⟩
      · rw [if_neg ht]
        exact rest vs (.inr ⟨rfl, fun e b' hb' => by subst e; rw [hg] at hb'; cases hb'; exact absurd rfl ht⟩)

theorem Rel.settled (h : Rel st c a w) {t : Nat} {b : Bool} (ht : a.tmps.getD t undef = .bool b) : Rel (st.settled t b) c a w := by
  refine ⟨⟨h.mem.rows, h.mem.boxes, h.mem.lt⟩, ?_, fun i => ?_, h.defers⟩
  · show (setV _ _ _).length = _
    rw [setV_length, deadIf_length]; exact h.size
  · unfold SlotR
    have e1 : guardOf (st.settled t b).gd i = if (!hangsOn st.gd t i) = true then guardOf st.gd i else none := guardOf_filter (fun s => !hangsOn st.gd t s) st.gd i
    rw [e1]
    have e2 : (st.settled t b).slots = setV (deadIf st.gd t b st.slots st.gd) t (.lit b) := rfl
    rw [e2]
    by_cases hti : t = i
    · subst hti
      have hh : hangsOn st.gd t t = true := by simp [hangsOn]
      simp only [hh]
      by_cases hl : t < st.slots.length
      · rw [getV_setV_same _ _ _ (by rw [deadIf_length]; exact hl)]
        exact ht
      · rw [getV_ge (by rw [setV_length, deadIf_length]; omega)]
        trivial
    · rw [getV_setV_ne _ _ _ _ hti]
      have hs := h.slot i
      unfold SlotR at hs
      rcases deadIf_get st.gd t b st.gd st.slots i with hd | ⟨hd, hd2⟩
      · rw [hd]
        split
        · trivial
        · exact .inl rfl
      · rw [hd]
        cases hg : guardOf st.gd i with
        | none =>
          rw [hg] at hs
          simp only [ite_self]
          exact hs
        | some p =>
          obtain ⟨t', w'⟩ := p
          rw [hg] at hs
          simp only at hs
          by_cases htt : t' = t
          · subst htt
            have hh : hangsOn st.gd t' i = true := by simp [hangsOn, hg]
            simp only [hh]
            have := hd2 ⟨_, guardOf_mem hg⟩ w' hg
            subst this
            rcases hs with h1 | ⟨_, h1⟩ | ⟨h1, _⟩
            · rw [h1]; trivial
            · exact h1
            · exact absurd ht h1
          · have hh : hangsOn st.gd t i = false := by simp [hangsOn, hg, htt]; exact fun e => hti e.symm
            simp only [hh]
            exact hs

theorem isB_iff {w b : Bool} : isB w b = true ↔ b = w := by cases w <;> cases b <;> simp [isB]

theorem undef_ne (b : Bool) : undef ≠ .bool b := by intro h; cases h

theorem settle_sound : ∀ (n : Nat) {st : St} {t : Nat} {b : Bool} {yes no : St → Option R} {r : R}, Rel st c a w → settle n st t b yes no = some r →
    (a.tmps.getD t undef = .bool b ∧ ∃ st', Rel st' c a w ∧ yes st' = some r) ∨ (a.tmps.getD t undef ≠ .bool b ∧ ∃ st', Rel st' c a w ∧ no st' = some r)
  | 0, _, _, _, _, _, _, _, h => by cases h
  | n + 1, st, t, b, yes, no, r, h, hk => by
    simp only [settle] at hk
    have hs := h.slot t
    unfold SlotR at hs
    cases hg : guardOf st.gd t with
    | some p =>
      obtain ⟨t', w'⟩ := p
      rw [hg] at hk hs
      simp only at hk hs
      split at hk
      · rename_i v hv
        rcases settle_sound n h hk with ⟨h1, s, h2, h3⟩ | ⟨h1, s, h2, h3⟩
        · exact settle_sound n h2 h3
        · right
          refine ⟨?_, s, h2, h3⟩
          rw [hv] at hs
          rcases hs with h4 | ⟨h4, _⟩ | ⟨_, h4⟩
          · cases h4
          · exact absurd h4 h1
          · rw [h4]; exact undef_ne b
      · cases hk
    | none =>
      rw [hg] at hk hs
      simp only at hk hs
      split at hk
      · rename_i v hv
        rw [hv] at hs
        have hs' : a.tmps.getD t undef = .bool v := hs
        split at hk
        · rename_i hb; rw [isB_iff] at hb; subst hb; exact .inl ⟨hs', st, h, hk⟩
        · rename_i hb; rw [isB_iff] at hb; exact .inr ⟨by rw [hs']; intro e; cases e; exact hb rfl, st, h, hk⟩
      · rename_i v hv
        rw [hv] at hs
        have hs' : a.tmps.getD t undef = .bool v := hs
        split at hk
        · rename_i hb; rw [isB_iff] at hb; subst hb; exact .inl ⟨hs', _, h.settled hs', hk⟩
        · rename_i hb
          rw [isB_iff] at hb
          have hv' : v = !b := by cases v <;> cases b <;> simp_all
          exact .inr ⟨by rw [hs']; intro e; cases e; exact hb rfl, _, h.settled (by rw [hs', hv']), hk⟩
      · rename_i hv
        rw [hv] at hs
        obtain ⟨cs, h1, _⟩ := hs
        exact .inr ⟨(by rw [h1]; intro e; cases e), st, h, hk⟩
      · cases hk

theorem gctx_holds : ∀ (n t : Nat) (b : Bool), Rel st c a w → a.tmps.getD t undef = .bool b → Holds a (gctx st n t b)
  | 0, t, b, h, ht => fun t' b' hm => by
    simp only [gctx, List.mem_singleton] at hm; cases hm; exact ht
  | n + 1, t, b, h, ht => by
    simp only [gctx]
    refine Holds.cons ?_ ht
    split
    · rename_i t' w' v hg hv
      refine gctx_holds n t' w' h ?_
      have hs := h.slot t
      unfold SlotR at hs
      rw [hg, hv] at hs
      simp only at hs
      rcases hs with h4 | ⟨h4, _⟩ | ⟨_, h4⟩
      · cases h4
      · exact h4
      · rw [ht] at h4; exact absurd h4.symm (undef_ne b)
    · exact holds_nil

theorem gcond_sound : ∀ (n t : Nat) (b : Bool) {q : Bool}, Rel st c a w → gcond st n t b = some q → a.tmps.getD t undef = .bool b → q = true
  | 0, _, _, _, _, h, _ => by cases h
  | n + 1, t, b, q, h, hq, ht => by
    simp only [gcond] at hq
    have hs := h.slot t
    unfold SlotR at hs
    split at hq
    · rename_i v hv hg
      rw [hg, hv] at hs
      have hs' : a.tmps.getD t undef = .bool v := hs
      cases hq
      rw [ht] at hs'; cases hs'; exact isB_iff.2 rfl
    · rename_i v hv hg
      rw [hg, hv] at hs
      have hs' : a.tmps.getD t undef = .bool v := hs
      cases hq
      rw [ht] at hs'; cases hs'; exact isB_iff.2 rfl
    · rename_i v t' w' hv hg
      rw [hg, hv] at hs
      simp only at hs
      cases hc : gcond st n t' w' with
      | none => rw [hc] at hq; cases hq
      | some q' =>
        rw [hc] at hq
        cases hq
        rcases hs with h4 | ⟨h4, h5⟩ | ⟨_, h4⟩
        · cases h4
        · have h5' : a.tmps.getD t undef = .bool v := h5
          rw [ht] at h5'; cases h5'
          rw [gcond_sound n t' w' h hc h4]
          simp [isB_iff]
        · rw [ht] at h4; exact absurd h4.symm (undef_ne b)
    · cases hq

/-- What becomes of an operation under its guard. -/
inductive OpCase (P : Program) (cx : Cx) (c : Cfg) (a : Act) (w : World) (ops : Array Oper) (ne : Bool) (o : Oper) (K : St → Option R) (r : R) : Prop where
  | skip (hw : Region.wanted o (yielded ops a.tmps) = false) (st' : St) (hk : K st' = some r) (hr : Rel st' c (a.put o.dst undef) w)
  | run (hw : Region.wanted o (yielded ops a.tmps) = true) (st' : St) (hr : Rel st' c a w) (hk : runOp cx ne st' o.dst o.op K = some r)
  | val (hw : Region.wanted o (yielded ops a.tmps) = true) (v : V) (el : Bool) (hel : ne = true → el = false) (hg : Gives P c w a o.op v (pureClass o.op) el) (st' : St) (hk : K st' = some r) (hr : ∀ x, TR c w v x → Rel st' c (a.put o.dst x) w)

theorem wanted_iff {ops : Array Oper} {o : Oper} {j t : Nat} {b : Bool} (hg : o.guard = some (j, b)) (ht : (ops[j]?).bind (·.dst) = some t) : Region.wanted o (yielded ops a.tmps) = true ↔ a.tmps.getD t undef = .bool b := by
  unfold Region.wanted yielded
  simp only [hg, ht, Option.bind_some]
  rw [Array.getD_eq_getD_getElem?]
  cases hq : a.tmps[t]? with
  | none => simp [undef]
  | some v => cases v <;> simp

theorem opK_sound (hty : TyOk P cx) (h : Rel st c a w) {ne : Bool} {ops : Array Oper} {o : Oper} {K : St → Option R} {r : R} (hk : opK cx ne ops o st K = some r) : OpCase P cx c a w ops ne o K r := by
  unfold opK at hk
  split at hk
  · rename_i hg
    exact .run (by unfold Region.wanted; rw [hg]) st h hk
  · rename_i j b hg
    split at hk
    · cases hk
    · rename_i t ht
      have hw := wanted_iff (a := a) hg ht
      split at hk
      · rename_i d hd
        split at hk
        · cases hk
        · rename_i htd
          have fin : ∀ v (el : Bool), (ne = true → el = false) → (a.tmps.getD t undef = .bool b → Gives P c w a o.op v (pureClass o.op) el) → K (st.putG d t b v) = some r → OpCase P cx c a w ops ne o K r := by
            intro v el hel hgv hk
            by_cases hwt : a.tmps.getD t undef = .bool b
            · exact .val (hw.2 hwt) v el hel (hgv hwt) _ hk (fun x hx => by rw [hd]; exact h.putG htd (.inl ⟨hwt, hx⟩))
            · exact .skip (by cases hh : Region.wanted o (yielded ops a.tmps) with | false => rfl | true => exact absurd (hw.1 hh) hwt) _ hk (by rw [hd]; exact h.putG htd (.inr ⟨hwt, rfl⟩))
          have pn : ∀ {q v}, pureN cx ne st (gctx st 8 t b) o.op = some (q, v) → pureOp cx st (gctx st 8 t b) o.op = some (q, v) ∧ (ne = true → elLoad st (gctx st 8 t b) o.op = false) := by
            intro q v hp
            unfold pureN at hp
            split at hp
            · cases hp
            · rename_i hc
              refine ⟨hp, fun hne => ?_⟩
              subst hne
              simpa using hc
          split at hk
          · rcases settle_sound 8 h hk with ⟨h1, s, h2, h3⟩ | ⟨h1, s, h2, h3⟩
            · exact .run (hw.2 h1) s h2 (by rw [hd]; exact h3)
            · refine .skip (by cases hh : Region.wanted o (yielded ops a.tmps) with | false => rfl | true => exact absurd (hw.1 hh) h1) _ h3 ?_
              rw [hd]
              exact h2.put (show TR c w (.tup []) undef from ⟨#[], rfl, trivial⟩)
          split at hk
          · rename_i u v hu hp
            obtain ⟨hp1, hp2⟩ := pn hp
            exact fin v _ hp2 (fun hwt => pure_sound hty h (gctx_holds 8 t b h hwt) hp1 (fun b hb => by cases hb)) hk
          · rename_i u q v hu hp
            obtain ⟨hp1, hp2⟩ := pn hp
            split at hk
            · rename_i cc hcc
              split at hk
              · rename_i hcq
                exact fin v _ hp2 (fun hwt => pure_sound hty h (gctx_holds 8 t b h hwt) hp1 (fun b' hb' => by
                  cases hb'
                  have := gcond_sound 8 t b h hcc hwt
                  subst this
                  simpa using hcq)) hk
              · cases hk
            · cases hk
          · rcases settle_sound 8 h hk with ⟨h1, s, h2, h3⟩ | ⟨h1, s, h2, h3⟩
            · exact .run (hw.2 h1) s h2 (by rw [hd]; exact h3)
            · refine .skip (by cases hh : Region.wanted o (yielded ops a.tmps) with | false => rfl | true => exact absurd (hw.1 hh) h1) _ h3 ?_
              rw [hd]
              exact h2.put (show TR c w (.tup []) undef from ⟨#[], rfl, trivial⟩)
      · rename_i hd
        rcases settle_sound 8 h hk with ⟨h1, s, h2, h3⟩ | ⟨h1, s, h2, h3⟩
        · exact .run (hw.2 h1) s h2 (by rw [hd]; exact h3)
        · refine .skip (by cases hh : Region.wanted o (yielded ops a.tmps) with | false => rfl | true => exact absurd (hw.1 hh) h1) s h3 ?_
          rw [hd]; exact h2

end
end Go.VS
