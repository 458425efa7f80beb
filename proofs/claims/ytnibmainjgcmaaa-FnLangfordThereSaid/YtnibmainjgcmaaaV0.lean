/- A region that draws its own order, walked by hand (lines of the kit's printed words, turned to this claim). -/
import Derived.OrdersHeld
set_option linter.unusedVariables false
namespace Go.VS

section
variable {P : Program} {ops : Array Oper} {Q : Exit → Act → World → Prop} {md : Region.Mode} {S : World → Prop} {ds : List Nat}

/-- Operation d waits for operation i, by a chain of at most 'fuel' edges. -/
def Region.reachB (md : Region.Mode) (ops : Array Oper) (i : Nat) : Nat → Nat → Bool
  | 0, _ => false
  | fuel + 1, d => match ops[d]? with
    | some o => o.after.any fun e => Region.binds md e && (e.on == i || Region.reachB md ops i fuel e.on)
    | none => false

/-- What is listed is closed under the edges. -/
def Region.closedB (md : Region.Mode) (ops : Array Oper) (listed : Array Bool) : Bool :=
  (List.range ops.size).all fun j => !listed.getD j false || match ops[j]? with
    | some o => o.after.all fun e => !Region.binds md e || listed.getD e.on false
    | none => true

/-- Each of ds that has not come up yet waits for number i. -/
def Region.lastB (md : Region.Mode) (ops : Array Oper) (listed : Array Bool) (ds : List Nat) (i : Nat) : Bool :=
  ds.all fun d => listed.getD d true || Region.reachB md ops i ops.size d

def ListedClosed (md : Region.Mode) (ops : Array Oper) (listed : Array Bool) : Prop :=
  ∀ j oj, ops[j]? = some oj → listed.getD j false = true → ∀ e ∈ oj.after, Region.binds md e = true → listed.getD e.on false = true

theorem Region.closedB_spec {listed : Array Bool} (h : Region.closedB md ops listed = true) : ListedClosed md ops listed := by
  intro j oj hj hl e he hb
  have hlt : j < ops.size := (Array.getElem?_eq_some_iff.1 hj).1
  have h1 := List.all_eq_true.1 h j (List.mem_range.2 hlt)
  simp only [hl, hj, Bool.not_true, Bool.false_or] at h1
  have h2 := Array.all_eq_true_iff_forall_mem.1 h1 e he
  simpa [hb] using h2

theorem ListedClosed.set {listed : Array Bool} {i : Nat} (h : ListedClosed md ops listed) (hi : i ∈ Region.ready md ops listed) : ListedClosed md ops (listed.setIfInBounds i true) := by
  obtain ⟨_, oi, hoi, hall⟩ := mem_ready.1 hi
  intro j oj hj hl e he hb
  by_cases hij : i = j
  · subst hij
    have : oj = oi := Option.some.inj (hj.symm.trans hoi)
    subst this
    exact getD_set_true (hall e he hb)
  · rw [getD_set_ne false hij] at hl
    exact getD_set_true (h j oj hj hl e he hb)

theorem Region.reach_listed {listed : Array Bool} {i : Nat} (hc : ListedClosed md ops listed) : ∀ (fuel d : Nat), Region.reachB md ops i fuel d = true → listed.getD d false = true → listed.getD i false = true
  | 0, _, h, _ => by simp [Region.reachB] at h
  | fuel + 1, d, h, hl => by
    unfold Region.reachB at h
    cases ho : ops[d]? with
    | none => rw [ho] at h; simp at h
    | some o =>
      rw [ho] at h
      obtain ⟨e, he, h1⟩ := Array.any_eq_true'.1 h
      simp only [Bool.and_eq_true, Bool.or_eq_true, beq_iff_eq] at h1
      have hle := hc d o ho hl e he h1.1
      rcases h1.2 with h2 | h2
      · rw [← h2]; exact hle
      · exact Region.reach_listed hc fuel e.on h2 hle

/-- What waits for i cannot come up before i is listed. -/
theorem Region.reach_not_ready {listed : Array Bool} {i d fuel : Nat} (hc : ListedClosed md ops listed) (hr : Region.reachB md ops i fuel d = true) (hun : listed.getD i true = false) : d ∉ Region.ready md ops listed := by
  intro hd
  obtain ⟨_, o, ho, hall⟩ := mem_ready.1 hd
  have hi : listed.getD i false = true := by
    cases fuel with
    | zero => simp [Region.reachB] at hr
    | succ n =>
      unfold Region.reachB at hr
      rw [ho] at hr
      obtain ⟨e, he, h1⟩ := Array.any_eq_true'.1 hr
      simp only [Bool.and_eq_true, Bool.or_eq_true, beq_iff_eq] at h1
      have hle := hall e he h1.1
      rcases h1.2 with h2 | h2
      · rw [← h2]; exact hle
      · exact Region.reach_listed hc n e.on h2 hle
  rcases Nat.lt_or_ge i listed.size with h' | h'
  · simp [h'] at hun hi
    rw [hun] at hi
    cases hi
  · simp [Array.getElem?_eq_none h'] at hun

/-- Whatever order is picked from here on, AND 'S' HOLDS BEHIND EVERY OPERATION THAT IS CARRIED OUT, those of ds apart. -/
def wpAnyLast (P : Program) (md : Region.Mode) (ops : Array Oper) (Q : Exit → Act → World → Prop) (S : World → Prop) (ds : List Nat) : Nat → Array Bool → Act → World → Prop
  | 0, listed, a, w => Region.ready md ops listed = [] ∧ Q .normal a w
  | fuel + 1, listed, a, w =>
    (Region.ready md ops listed = [] → Q .normal a w) ∧
    ∀ i ∈ Region.ready md ops listed, wpOp P ops Q i (fun a' w' => (i ∉ ds → S w → S w') ∧ wpAnyLast P md ops Q S ds fuel (listed.setIfInBounds i true) a' w') a w

theorem wpAny_of_last : ∀ (fuel : Nat) (listed : Array Bool) (a : Act) (w : World), wpAnyLast P md ops Q S ds fuel listed a w → wpAny P md ops Q fuel listed a w
  | 0, _, _, _, h => h
  | fuel + 1, _, _, _, h => ⟨h.1, fun i hi => wpOp_mono (fun a' w' h' => wpAny_of_last fuel _ a' w' h'.2) (h.2 i hi)⟩

theorem wpAnyLast_first {i : Nat} {oi : Oper} {v : Value} (hi : ops[i]? = some oi) (hsel : ∀ (j : Nat) (o : Oper) cs b, ops[j]? = some o → o.op ≠ .select cs b)
    (hQ : ∀ c a w, Q (.panic c) (a.put oi.dst v) w → Q (.panic c) a w) (n : Nat) :
    ∀ (fuel : Nat) (listed : Array Bool) (a : Act) (w : World),
      (∀ j oj, ops[j]? = some oj → j ≠ i → listed.getD j true = false → (∀ e ∈ oj.after, Region.binds md e = true → e.on ≠ i) → oi.apart ops oj = true) →
      ListedClosed md ops listed → (∀ d ∈ ds, listed.getD d true = false → Region.reachB md ops i n d = true) →
      i ∈ Region.ready md ops listed → YieldsIf P ops S oi v a → S w →
      wpAnyLast P md ops Q S ds fuel (listed.setIfInBounds i true) (a.put oi.dst v) w → wpAnyLast P md ops Q S ds (fuel + 1) listed a w := by
  intro fuel
  induction fuel with
  | zero =>
    intro listed a w _ _ _ hr hy hS H
    refine ⟨fun h => (by rw [h] at hr; cases hr), fun j hj => ?_⟩
    by_cases hji : j = i
    · subst hji; exact hy.wpOp hi hS ⟨fun _ h => h, H⟩
    · have := ready_mono hj hji
      rw [H.1] at this
      cases this
  | succ fuel ih =>
    intro listed a w hfree hc hd hr hy hS H
    refine ⟨fun h => (by rw [h] at hr; cases hr), fun j hj => ?_⟩
    by_cases hji : j = i
    · subst hji; exact hy.wpOp hi hS ⟨fun _ h => h, H⟩
    · have h1 := H.2 j (ready_mono hj hji)
      obtain ⟨hjun, oj, hoj, hall⟩ := mem_ready.1 hj
      have hiun := (mem_ready.1 hr).1
      have hnot : ∀ e ∈ oj.after, Region.binds md e = true → e.on ≠ i := fun e he hb heq => by
        have h1 := hall e he hb
        rw [heq] at h1
        rcases Nat.lt_or_ge i listed.size with h' | h'
        · simp [h'] at hiun h1; rw [hiun] at h1; cases h1
        · simp [Array.getElem?_eq_none h'] at h1
      have hjd : j ∉ ds := fun hm => Region.reach_not_ready hc (hd j hm hjun) hiun hj
      have h2 := wpOp_putIf hoj (hfree j oj hoj hji hjun hnot) (fun cs b => hsel i oi cs b hi) (fun cs b => hsel j oj cs b hoj) hQ hy h1
      have hfree' : ∀ k ok, ops[k]? = some ok → k ≠ i → (listed.setIfInBounds j true).getD k true = false →
          (∀ e ∈ ok.after, Region.binds md e = true → e.on ≠ i) → oi.apart ops ok = true := fun k ok hk hki hun hno => by
        refine hfree k ok hk hki ?_ hno
        by_cases hjk : j = k
        · subst hjk; exact hjun
        · rw [getD_set_ne true hjk] at hun; exact hun
      have hd' : ∀ d ∈ ds, (listed.setIfInBounds j true).getD d true = false → Region.reachB md ops i n d = true := fun d hm hun => by
        refine hd d hm ?_
        by_cases hjk : j = d
        · subst hjk; exact hjun
        · rw [getD_set_ne true hjk] at hun; exact hun
      refine wpOp_mono (fun a' w' h3 => ⟨h3.2.1, ih (listed.setIfInBounds j true) a' w' hfree' (hc.set hj) hd' (ready_mono hr (Ne.symm hji)) h3.1 (h3.2.1 hjd hS) ?_⟩) h2
      rw [Array.setIfInBounds_comm _ _ hji]
      exact h3.2.2

/-- Take number 'i' first, which yields whatever the world: no S is asked for, nor that anything waits for it. -/
theorem wpAnyLast_any {i : Nat} {oi : Oper} {v : Value} (hi : ops[i]? = some oi) (hsel : ∀ (j : Nat) (o : Oper) cs b, ops[j]? = some o → o.op ≠ .select cs b)
    (hQ : ∀ c a w, Q (.panic c) (a.put oi.dst v) w → Q (.panic c) a w) :
    ∀ (fuel : Nat) (listed : Array Bool) (a : Act) (w : World),
      (∀ j oj, ops[j]? = some oj → j ≠ i → listed.getD j true = false → (∀ e ∈ oj.after, Region.binds md e = true → e.on ≠ i) → oi.apart ops oj = true) →
      i ∈ Region.ready md ops listed → Yields P ops oi v a →
      wpAnyLast P md ops Q S ds fuel (listed.setIfInBounds i true) (a.put oi.dst v) w → wpAnyLast P md ops Q S ds (fuel + 1) listed a w := by
  intro fuel
  induction fuel with
  | zero =>
    intro listed a w _ hr hy H
    refine ⟨fun h => (by rw [h] at hr; cases hr), fun j hj => ?_⟩
    by_cases hji : j = i
    · subst hji; exact (hy.yieldsIf (S := fun _ => True)).wpOp hi trivial ⟨fun _ h => h, H⟩
    · have := ready_mono hj hji
      rw [H.1] at this
      cases this
  | succ fuel ih =>
    intro listed a w hfree hr hy H
    refine ⟨fun h => (by rw [h] at hr; cases hr), fun j hj => ?_⟩
    by_cases hji : j = i
    · subst hji; exact (hy.yieldsIf (S := fun _ => True)).wpOp hi trivial ⟨fun _ h => h, H⟩
    · have h1 := H.2 j (ready_mono hj hji)
      obtain ⟨hjun, oj, hoj, hall⟩ := mem_ready.1 hj
      have hiun := (mem_ready.1 hr).1
      have hnot : ∀ e ∈ oj.after, Region.binds md e = true → e.on ≠ i := fun e he hb heq => by
        have h1 := hall e he hb
        rw [heq] at h1
        rcases Nat.lt_or_ge i listed.size with h' | h'
        · simp [h'] at hiun h1; rw [hiun] at h1; cases h1
        · simp [Array.getElem?_eq_none h'] at h1
      have h2 := wpOp_put hoj (hfree j oj hoj hji hjun hnot) (fun cs b => hsel i oi cs b hi) (fun cs b => hsel j oj cs b hoj) hQ hy h1
      have hfree' : ∀ k ok, ops[k]? = some ok → k ≠ i → (listed.setIfInBounds j true).getD k true = false →
          (∀ e ∈ ok.after, Region.binds md e = true → e.on ≠ i) → oi.apart ops ok = true := fun k ok hk hki hun hno => by
        refine hfree k ok hk hki ?_ hno
        by_cases hjk : j = k
        · subst hjk; exact hjun
        · rw [getD_set_ne true hjk] at hun; exact hun
      refine wpOp_mono (fun a' w' h3 => ⟨h3.2.1, ih (listed.setIfInBounds j true) a' w' hfree' (ready_mono hr (Ne.symm hji)) h3.1 ?_⟩) h2
      rw [Array.setIfInBounds_comm _ _ hji]
      exact h3.2.2

/-- Take number 'i' first. -/
theorem wpAnyLast_take {i : Nat} {oi : Oper} {v : Value} {fuel : Nat} {listed : Array Bool} {a : Act} {w : World} (hi : ops[i]? = some oi)
    (hs : Region.noSelect ops = true) (hf : Region.free md ops listed i = true) (hr : (Region.ready md ops listed).contains i = true)
    (hc : Region.closedB md ops listed = true) (hl : Region.lastB md ops listed ds i = true)
    (hQ : ∀ c a w, Q (.panic c) (a.put oi.dst v) w → Q (.panic c) a w) (hy : YieldsIf P ops S oi v a) (hS : S w)
    (h : wpAnyLast P md ops Q S ds fuel (listed.setIfInBounds i true) (a.put oi.dst v) w) : wpAnyLast P md ops Q S ds (fuel + 1) listed a w :=
  wpAnyLast_first hi (Region.noSelect_spec hs) hQ ops.size fuel listed a w (Region.free_spec hi hf) (Region.closedB_spec hc)
    (fun d hm hun => by have := List.all_eq_true.1 hl d hm; rw [hun] at this; simpa using this) (by simpa using hr) hy hS h

theorem wpAnyLast_all {rs : List Nat} {fuel : Nat} {listed : Array Bool} {a : Act} {w : World} (hr : Region.ready md ops listed = rs) (hne : rs ≠ [])
    (h : ∀ i ∈ rs, wpOp P ops Q i (fun a' w' => (i ∉ ds → S w → S w') ∧ wpAnyLast P md ops Q S ds fuel (listed.setIfInBounds i true) a' w') a w) : wpAnyLast P md ops Q S ds (fuel + 1) listed a w :=
  ⟨fun h0 => absurd (hr ▸ h0) hne, hr ▸ h⟩

theorem wpAnyLast_done {listed : Array Bool} {a : Act} {w : World} (hr : Region.ready md ops listed = []) (h : Q .normal a w) :
    ∀ fuel, wpAnyLast P md ops Q S ds fuel listed a w
  | 0 => ⟨hr, h⟩
  | _ + 1 => ⟨fun _ => h, by rw [hr]; simp⟩

theorem wp_region_last {id : Nat} {a : Act} {w : World} (hm : P.follows .mixedOrders = true)
    (h : wpAnyLast P .any ops Q S ds ops.size (Array.replicate ops.size false) a { w with drawn := w.drawn + 1 }) : (Code.region id ops true).wp P Q a w :=
  wp_region_any hm (wpAny_of_last _ _ _ _ h)

end


end Go.VS
/- A region that draws its own order: what holds behind every operation up to the first that may write. -/
set_option linter.unusedVariables false
namespace Go.VS

section
variable {P : Program} {ops : Array Oper} {Q : Exit → Act → World → Prop} {md : Region.Mode} {S S' : Bool → World → Prop} {T : World → Prop} {ds : List Nat}

/-- Whatever order is picked from here on; and S holds behind every operation: of the flag that tells whether one of ds has come up. -/
def wpAnyU (P : Program) (md : Region.Mode) (ops : Array Oper) (Q : Exit → Act → World → Prop) (S : Bool → World → Prop) (ds : List Nat) : Nat → Bool → Array Bool → Act → World → Prop
  | 0, _, listed, a, w => Region.ready md ops listed = [] ∧ Q .normal a w
  | fuel + 1, f, listed, a, w =>
    (Region.ready md ops listed = [] → Q .normal a w) ∧
    ∀ i ∈ Region.ready md ops listed, wpOp P ops Q i (fun a' w' => S (f || ds.contains i) w' ∧ wpAnyU P md ops Q S ds fuel (f || ds.contains i) (listed.setIfInBounds i true) a' w') a w

theorem wpAny_of_U : ∀ (fuel : Nat) (f : Bool) (listed : Array Bool) (a : Act) (w : World), wpAnyU P md ops Q S ds fuel f listed a w → wpAny P md ops Q fuel listed a w
  | 0, _, _, _, _, h => h
  | fuel + 1, _, _, _, _, h => ⟨h.1, fun i hi => wpOp_mono (fun a' w' h' => wpAny_of_U fuel _ _ a' w' h'.2) (h.2 i hi)⟩

theorem wpAnyU_mono (hS : ∀ f w, S f w → S' f w) : ∀ (fuel : Nat) (f : Bool) (listed : Array Bool) (a : Act) (w : World), wpAnyU P md ops Q S ds fuel f listed a w → wpAnyU P md ops Q S' ds fuel f listed a w
  | 0, _, _, _, _, h => h
  | fuel + 1, _, _, _, _, h => ⟨h.1, fun i hi => wpOp_mono (fun a' w' h' => ⟨hS _ _ h'.1, wpAnyU_mono hS fuel _ _ a' w' h'.2⟩) (h.2 i hi)⟩

/-- What is asked for, for number i to be taken first: T holds whenever it may come up. -/
def Mode (md : Region.Mode) (ops : Array Oper) (S : Bool → World → Prop) (T : World → Prop) (ds : List Nat) (i n : Nat) (f : Bool) (listed : Array Bool) : Prop :=
  (∀ f w, S f w → T w) ∨ (f = false ∧ (∀ w, S false w → T w) ∧ ListedClosed md ops listed ∧ ∀ d ∈ ds, listed.getD d true = false → Region.reachB md ops i n d = true)

theorem wpAnyU_first {i : Nat} {oi : Oper} {v : Value} (hi : ops[i]? = some oi) (hsel : ∀ (j : Nat) (o : Oper) cs b, ops[j]? = some o → o.op ≠ .select cs b)
    (hQ : ∀ c a w, Q (.panic c) (a.put oi.dst v) w → Q (.panic c) a w) (n : Nat) (hids : ds.contains i = false) :
    ∀ (fuel : Nat) (f : Bool) (listed : Array Bool) (a : Act) (w : World),
      (∀ j oj, ops[j]? = some oj → j ≠ i → listed.getD j true = false → (∀ e ∈ oj.after, Region.binds md e = true → e.on ≠ i) → oi.apart ops oj = true) →
      Mode md ops S T ds i n f listed →
      i ∈ Region.ready md ops listed → YieldsIf P ops T oi v a → S f w →
      wpAnyU P md ops Q S ds fuel f (listed.setIfInBounds i true) (a.put oi.dst v) w → wpAnyU P md ops Q S ds (fuel + 1) f listed a w := by
  intro fuel
  induction fuel with
  | zero =>
    intro f listed a w _ hm hr hy hS H
    have hT : T w := by
      rcases hm with hm | ⟨rfl, hm, _⟩
      · exact hm _ _ hS
      · exact hm _ hS
    refine ⟨fun h => (by rw [h] at hr; cases hr), fun j hj => ?_⟩
    by_cases hji : j = i
    · subst hji
      refine hy.wpOp hi hT ?_
      rw [hids, Bool.or_false]
      exact ⟨hS, H⟩
    · have := ready_mono hj hji
      rw [H.1] at this
      cases this
  | succ fuel ih =>
    intro f listed a w hfree hm hr hy hS H
    have hT : T w := by
      rcases hm with hm | ⟨rfl, hm, _⟩
      · exact hm _ _ hS
      · exact hm _ hS
    refine ⟨fun h => (by rw [h] at hr; cases hr), fun j hj => ?_⟩
    by_cases hji : j = i
    · subst hji
      refine hy.wpOp hi hT ?_
      rw [hids, Bool.or_false]
      exact ⟨hS, H⟩
    · have h1 := H.2 j (ready_mono hj hji)
      obtain ⟨hjun, oj, hoj, hall⟩ := mem_ready.1 hj
      have hiun := (mem_ready.1 hr).1
      have hnot : ∀ e ∈ oj.after, Region.binds md e = true → e.on ≠ i := fun e he hb heq => by
        have h1 := hall e he hb
        rw [heq] at h1
        rcases Nat.lt_or_ge i listed.size with h' | h'
        · simp [h'] at hiun h1; rw [hiun] at h1; cases h1
        · simp [Array.getElem?_eq_none h'] at h1
      have h2 := wpOp_putIf hoj (hfree j oj hoj hji hjun hnot) (fun cs b => hsel i oi cs b hi) (fun cs b => hsel j oj cs b hoj) hQ hy h1
      have hfree' : ∀ k ok, ops[k]? = some ok → k ≠ i → (listed.setIfInBounds j true).getD k true = false →
          (∀ e ∈ ok.after, Region.binds md e = true → e.on ≠ i) → oi.apart ops ok = true := fun k ok hk hki hun hno => by
        refine hfree k ok hk hki ?_ hno
        by_cases hjk : j = k
        · subst hjk; exact hjun
        · rw [getD_set_ne true hjk] at hun; exact hun
      refine wpOp_mono (fun a' w' h3 => ?_) h2
      obtain ⟨h4, h5, h6⟩ := h3
      have hm' : Mode md ops S T ds i n (f || ds.contains j) (listed.setIfInBounds j true) := by
        rcases hm with hm | ⟨rfl, hm, hc, hd⟩
        · exact .inl hm
        · have hjd : j ∉ ds := fun hm => Region.reach_not_ready hc (hd j hm hjun) hiun hj
          refine .inr ⟨by simpa using hjd, hm, hc.set hj, fun d hm hun => hd d hm ?_⟩
          by_cases hjk : j = d
          · subst hjk; exact hjun
          · rw [getD_set_ne true hjk] at hun; exact hun
      refine ⟨h5, ih _ (listed.setIfInBounds j true) a' w' hfree' hm' (ready_mono hr (Ne.symm hji)) h4 h5 ?_⟩
      rw [Array.setIfInBounds_comm _ _ hji]
      exact h6

/-- Number i first, which reads what is not written to before. -/
theorem wpAnyU_take {i : Nat} {oi : Oper} {v : Value} {fuel : Nat} {listed : Array Bool} {a : Act} {w : World} (hi : ops[i]? = some oi)
    (hs : Region.noSelect ops = true) (hids : ds.contains i = false) (hf : Region.free md ops listed i = true) (hr : (Region.ready md ops listed).contains i = true)
    (hc : Region.closedB md ops listed = true) (hl : Region.lastB md ops listed ds i = true) (hT : ∀ w, S false w → T w)
    (hQ : ∀ c a w, Q (.panic c) (a.put oi.dst v) w → Q (.panic c) a w) (hy : YieldsIf P ops T oi v a) (hS : S false w)
    (h : wpAnyU P md ops Q S ds fuel false (listed.setIfInBounds i true) (a.put oi.dst v) w) : wpAnyU P md ops Q S ds (fuel + 1) false listed a w :=
  wpAnyU_first hi (Region.noSelect_spec hs) hQ ops.size hids fuel false listed a w (Region.free_spec hi hf)
    (.inr ⟨rfl, hT, Region.closedB_spec hc, fun d hm hun => by have := List.all_eq_true.1 hl d hm; rw [hun] at this; simpa using this⟩) (by simpa using hr) hy hS h

/-- Number i first, which reads what is never written to, or nothing. -/
theorem wpAnyU_any {i : Nat} {oi : Oper} {v : Value} {fuel : Nat} {f : Bool} {listed : Array Bool} {a : Act} {w : World} (hi : ops[i]? = some oi)
    (hs : Region.noSelect ops = true) (hids : ds.contains i = false) (hf : Region.free md ops listed i = true) (hr : (Region.ready md ops listed).contains i = true) (hT : ∀ f w, S f w → T w)
    (hQ : ∀ c a w, Q (.panic c) (a.put oi.dst v) w → Q (.panic c) a w) (hy : YieldsIf P ops T oi v a) (hS : S f w)
    (h : wpAnyU P md ops Q S ds fuel f (listed.setIfInBounds i true) (a.put oi.dst v) w) : wpAnyU P md ops Q S ds (fuel + 1) f listed a w :=
  wpAnyU_first hi (Region.noSelect_spec hs) hQ ops.size hids fuel f listed a w (Region.free_spec hi hf) (.inl hT) (by simpa using hr) hy hS h

end
end Go.VS
/- The evaluator: what a loaded function's code computes on plain values (definitions alone). -/
set_option linter.unusedVariables false
namespace Go.VS

/-- Kinds of elements of slices. -/
inductive K where
  | int (k : IntKind)
  | bool
  | str
  | sl (e : K)

@[reducible] def K.T : K → Type
  | .int _ => Int
  | .bool => Bool
  | .str => ByteArray
  | .sl e => List e.T

def K.dflt : (e : K) → e.T
  | .int _ => (0 : Int)
  | .bool => false
  | .str => ByteArray.empty
  | .sl _ => []

/-- Values. `sl`: a slice that nobody writes to any more; `row`: one of the call's own, by its name; `view`: a part of it;
`el`, `fel`: the place of an element; `ptr`: into a variable in memory; `fp`: into one that nobody writes to any more;
`lit`: a Bool that a test has settled. -/
inductive V where
  | int (k : IntKind) (n : Int)
  | bool (b : Bool)
  | lit (b : Bool)
  | str (s : ByteArray)
  | sl (e : K) (xs : List e.T)
  | snil
  | row (n : Nat)
  | view (n lo hi : Nat)
  | el (n i : Nat)
  | fel (e : K) (xs : List e.T) (i : Nat)
  | ptr (b o : Nat)
  | fnil
  | dead
  | fp (cells : List V) (o : Nat)
  | agg (vs : List V)
  | clo (f : FuncId) (first caps : List V)
  | tup (vs : List V)

structure Row where
  e : K
  xs : List e.T

/-- `gd`: the temporaries that were written under a guard (in the region at hand): what is told of them holds if the guard's own temporary is that Bool. -/
structure St where
  slots : List V
  rows : List (Nat × Row)
  boxes : List (Nat × List V)
  gd : List (Nat × Nat × Bool) := []

abbrev R := St × List V

/-- What is told of a type. -/
inductive TI where
  | cell (zero : V)
  | slice (eT : TypeId) (e : K)
  | agg (size : Nat) (fields : List (Nat × Nat × Bool)) (zeros : List V)
  | arr (len : Nat) (eT : TypeId) (zeros : List V)

/-- What is known of a called function: which of its arguments (of a closure's variables) it may write to; its answer. -/
structure Entry where
  modes : List (List Bool)
  E : St → (St → List V → Option R) → Option R

/-- `nk`: cells of variables in memory that hold slices: nil there is told as an empty row. `sharp`: guards are settled first. -/
structure Cx where
  ty : List (Nat × TI)
  fns : List (Nat × Entry)
  nk : List (Nat × List (Option K)) := []
  sharp : Bool := false

def look {α : Type} : List (Nat × α) → Nat → Option α
  | [], _ => none
  | (k, a) :: r, n => if k = n then some a else look r n

def cut {α : Type} : List (Nat × α) → Nat → List (Nat × α)
  | [], _ => []
  | (k, a) :: r, n => if k = n then cut r n else (k, a) :: cut r n

def getV : List V → Nat → V
  | [], _ => .dead
  | v :: _, 0 => v
  | _ :: r, n + 1 => getV r n

def setV : List V → Nat → V → List V
  | [], _, _ => []
  | _ :: r, 0, x => x :: r
  | v :: r, n + 1, x => v :: setV r n x

/-- Elements as values. -/
def ofK : (e : K) → e.T → V
  | .int k, n => .int k n
  | .bool, b => .bool b
  | .str, s => .str s
  | .sl e, xs => .sl e xs

def K.eqv : (a b : K) → Option (PLift (a = b))
  | .int k, .int k' => if h : k = k' then some ⟨by rw [h]⟩ else none
  | .bool, .bool => some ⟨rfl⟩
  | .str, .str => some ⟨rfl⟩
  | .sl e, .sl e' => match K.eqv e e' with
    | some ⟨h⟩ => some ⟨by rw [h]⟩
    | none => none
  | _, _ => none

/-- A list of one kind as one of another: the same, if the kinds are. -/
def castL {a b : K} (h : a = b) (xs : List a.T) : List b.T := h ▸ xs

/-- A frozen value as an element. -/
def toK : (e : K) → V → Option e.T
  | .int k, .int k' n => if k = k' then some n else none
  | .bool, .bool b => some b
  | .bool, .lit b => some b
  | .str, .str s => some s
  | .sl _, .snil => some []
  | .sl e, .sl e' xs => match K.eqv e' e with
    | some ⟨h⟩ => some (castL h xs)
    | none => none
  | _, _ => none

def toKs (e : K) : List V → Option (List e.T)
  | [] => some []
  | v :: r => match toK e v with
    | none => none
    | some x => match toKs e r with
      | none => none
      | some xs => some (x :: xs)

/-! ### Names of rows and boxes, changed in all values -/

/-- What becomes of a name: the value in its place. -/
structure Ren where
  row : Nat → Option Nat
  box : Nat → Option Nat

def Ren.cell (p : Ren) : V → V
  | .row n => match p.row n with | some m => .row m | none => .dead
  | .view n lo hi => match p.row n with | some m => .view m lo hi | none => .dead
  | .el n i => match p.row n with | some m => .el m i | none => .dead
  | .ptr b o => match p.box b with | some m => .ptr m o | none => .dead
  | .fp cs o => .fp cs o
  | .int k n => .int k n
  | .bool b => .bool b
  | .lit b => .lit b
  | .str s => .str s
  | .sl e xs => .sl e xs
  | .snil => .snil
  | .fel e xs i => .fel e xs i
  | .fnil => .fnil
  | _ => .dead

def Ren.agg (p : Ren) : V → V
  | .agg vs => .agg (vs.map p.cell)
  | v => p.cell v

def Ren.clo (p : Ren) : V → V
  | .clo f fi ca => .clo f (fi.map p.agg) (ca.map p.agg)
  | v => p.agg v

def Ren.tup (p : Ren) : V → V
  | .tup vs => .tup (vs.map p.clo)
  | v => p.clo v

/-! ### A row of the call's own that is frozen -/

def Row.part (r : Row) (lo hi : Nat) : List r.e.T := (r.xs.take hi).drop lo

def frzCell (n : Nat) (r : Row) : V → V
  | .row m => if m = n then .sl r.e r.xs else .row m
  | .view m lo hi => if m = n then .sl r.e (r.part lo hi) else .view m lo hi
  | .el m i => if m = n then .fel r.e r.xs i else .el m i
  | v => v

def frzAgg (n : Nat) (r : Row) : V → V
  | .agg vs => .agg (vs.map (frzCell n r))
  | v => frzCell n r v

def frzClo (n : Nat) (r : Row) : V → V
  | .clo f fi ca => .clo f (fi.map (frzAgg n r)) (ca.map (frzAgg n r))
  | v => frzAgg n r v

def frzTup (n : Nat) (r : Row) : V → V
  | .tup vs => .tup (vs.map (frzClo n r))
  | v => frzClo n r v

def St.freeze (st : St) (n : Nat) : St :=
  match look st.rows n with
  | none => st
  | some r =>
    { st with slots := st.slots.map (frzTup n r), rows := cut st.rows n, boxes := st.boxes.map fun p => (p.1, p.2.map (frzCell n r)) }

def St.freezeAll : St → List Nat → St
  | st, [] => st
  | st, n :: r => (st.freeze n).freezeAll r

/-- A row that is gone: what named it is dead. -/
def St.drop (st : St) (n : Nat) : St :=
  let p : Ren := { row := fun m => if m = n then none else some m, box := some }
  { st with slots := st.slots.map p.tup, rows := cut st.rows n, boxes := st.boxes.map fun q => (q.1, q.2.map p.cell) }

def killAll : List V → List (Nat × Nat × Bool) → Nat → List V
  | vs, [], _ => vs
  | vs, (s, t, _) :: r, d => killAll (if t = d then setV vs s .dead else vs) r d

def cutG : List (Nat × Nat × Bool) → Nat → List (Nat × Nat × Bool)
  | [], _ => []
  | (s, t, w) :: r, d => if s = d then cutG r d else if t = d then cutG r d else (s, t, w) :: cutG r d

def St.put (st : St) (d : Option Nat) (v : V) : St :=
  match d with
  | none => st
  | some d => { st with slots := setV (killAll st.slots st.gd d) d v, gd := cutG st.gd d }

/-- Under a guard: what is told holds if the temporary t is the Bool w. -/
def St.putG (st : St) (d : Nat) (t : Nat) (w : Bool) (v : V) : St :=
  let s := st.put (some d) v
  { s with gd := (d, t, w) :: s.gd }

def deadAll : List V → List (Nat × Nat × Bool) → List V
  | vs, [] => vs
  | vs, (s, _, _) :: r => deadAll (setV vs s .dead) r

/-- Behind a region: what was written under a guard is dead. -/
def St.noG (st : St) : St := { st with slots := deadAll st.slots st.gd, gd := [] }

/-- A new row under a name (an elder one under it is gone). -/
def St.newRow (st : St) (n : Nat) (r : Row) : St :=
  let p : Ren := { row := fun m => if m = n then none else some m, box := some }
  { st with slots := st.slots.map p.tup, rows := (n, r) :: cut st.rows n, boxes := st.boxes.map fun q => (q.1, q.2.map p.cell) }

/-- A row in the place of another one. -/
def St.swapRow (st : St) (n m : Nat) (r : Row) : St :=
  let p : Ren := { row := fun k => if k = n then none else if k = m then none else some k, box := some }
  { st with slots := st.slots.map p.tup, rows := (m, r) :: cut (cut st.rows n) m, boxes := st.boxes.map fun q => (q.1, q.2.map p.cell) }

def St.newBox (st : St) (b : Nat) (cs : List V) : St :=
  let p : Ren := { row := some, box := fun m => if m = b then none else some m }
  { st with slots := st.slots.map p.tup, boxes := (b, cs.map p.cell) :: (cut st.boxes b).map fun q => (q.1, q.2.map p.cell) }

/-! ### Operands, guards -/

def ofConst : Value → V
  | .int k n => .int k n
  | .bool b => .bool b
  | .string s => .str s
  | .slice none 0 0 => .snil
  | .nilFunc => .fnil
  | _ => .dead

def hasG (gs : List (Nat × Bool)) (t : Nat) (w : Bool) : Bool := gs.any fun p => p.1 == t && p.2 == w

def guardOf : List (Nat × Nat × Bool) → Nat → Option (Nat × Bool)
  | [], _ => none
  | (s, t, w) :: r, d => if s = d then some (t, w) else guardOf r d

def unlit : V → V
  | .lit b => .bool b
  | v => v

def opd (st : St) (gs : List (Nat × Bool)) : Operand → V
  | .tmp t => match guardOf st.gd t with
    | some (t', w) => if hasG gs t' w then unlit (getV st.slots t) else .dead
    | none => unlit (getV st.slots t)
  | .const c => ofConst c
  | .func f => .clo f [] []
  | .global _ => .dead

/-- The guards that hold where the temporary t is a Bool w. -/
def gctx (st : St) : Nat → Nat → Bool → List (Nat × Bool)
  | 0, t, w => [(t, w)]
  | n + 1, t, w => (t, w) :: match guardOf st.gd t, getV st.slots t with
    | some (t', w'), .bool _ => gctx st n t' w'
    | _, _ => []

def isB (w b : Bool) : Bool := if w then b else !b

/-- Does the temporary t hold the Bool w: as a Bool. -/
def gcond (st : St) : Nat → Nat → Bool → Option Bool
  | 0, _, _ => none
  | n + 1, t, w => match getV st.slots t, guardOf st.gd t with
    | .bool b, none => some (isB w b)
    | .lit b, none => some (isB w b)
    | .bool b, some (t', w') => match gcond st n t' w' with
      | some c => some (c && isB w b)
      | none => none
    | _, _ => none

/-! ### Operations that only compute -/

def binV (op : BinOp) (x y : V) : Option (Option Bool × V) :=
  match x, y with
  | .int k a, .int k' b =>
    match op with
    | .shl => some (some (decide (0 ≤ b)), .int k (k.wrap (a * 2 ^ (min b.toNat k.bits))))
    | .shr => some (some (decide (0 ≤ b)), .int k (a.fdiv (2 ^ (min b.toNat k.bits))))
    | op => if k = k' then
        match op with
        | .add => some (none, .int k (k.wrap (a + b)))
        | .sub => some (none, .int k (k.wrap (a - b)))
        | .mul => some (none, .int k (k.wrap (a * b)))
        | .quo => some (some (b != 0), .int k (k.wrap (a.tdiv b)))
        | .rem => some (some (b != 0), .int k (a.tmod b))
        | .and => some (none, .int k (k.wrap (BitVec.ofInt k.bits a &&& BitVec.ofInt k.bits b).toNat))
        | .or => some (none, .int k (k.wrap (BitVec.ofInt k.bits a ||| BitVec.ofInt k.bits b).toNat))
        | .xor => some (none, .int k (k.wrap (BitVec.ofInt k.bits a ^^^ BitVec.ofInt k.bits b).toNat))
        | .andNot => some (none, .int k (k.wrap (BitVec.ofInt k.bits a &&& ~~~(BitVec.ofInt k.bits b)).toNat))
        | .eql => some (none, .bool (a == b))
        | .neq => some (none, .bool (a != b))
        | .lss => some (none, .bool (decide (a < b)))
        | .leq => some (none, .bool (decide (a ≤ b)))
        | .gtr => some (none, .bool (decide (a > b)))
        | .geq => some (none, .bool (decide (a ≥ b)))
        | _ => none
      else none
  | .bool a, .bool b =>
    match op with
    | .eql => some (none, .bool (a == b))
    | .neq => some (none, .bool !(a == b))
    | _ => none
  | .str a, .str b =>
    match op with
    | .add => some (some (decide (((a.size + b.size : Nat) : Int) ≤ IntKind.i64.max)), .str (a ++ b))
    | .eql => some (none, .bool (a.toList == b.toList))
    | .neq => some (none, .bool !(a.toList == b.toList))
    | .lss => some (none, .bool (Op.bytesLess a.toList b.toList))
    | .leq => some (none, .bool (Op.bytesLess a.toList b.toList || a.toList == b.toList))
    | .gtr => some (none, .bool !(Op.bytesLess a.toList b.toList || a.toList == b.toList))
    | .geq => some (none, .bool !(Op.bytesLess a.toList b.toList))
    | _ => none
  | _, _ => none

def unV (op : UnOp) (x : V) : Option V :=
  match op, x with
  | .neg, .int k n => some (.int k (k.wrap (0 - n)))
  | .not, .bool b => some (.bool !b)
  | _, _ => none

def isTrue : Operand → Bool
  | .const (.bool b) => b
  | _ => false
def isFalse : Operand → Bool
  | .const (.bool b) => !b
  | _ => false

def isStrTy (cx : Cx) (t : TypeId) : Bool :=
  match look cx.ty t with
  | some (.cell (.str _)) => true
  | _ => false

def isSlTy (cx : Cx) (t : TypeId) : Bool :=
  match look cx.ty t with
  | some (.slice _ _) => true
  | _ => false

def isCellTy (cx : Cx) (t : TypeId) : Bool :=
  match look cx.ty t with
  | some (.cell _) => true
  | _ => false

/-- The kind of whole numbers that a type holds. -/
def intOfTy (cx : Cx) (t : TypeId) : Option IntKind :=
  match look cx.ty t with
  | some (.cell (.int k _)) => some k
  | _ => none

def partOf (cells : List V) (off size : Nat) (agg : Bool) : V :=
  if agg then .agg ((cells.drop off).take size) else getV cells off

/-- How many cells a value takes, one after the other. -/
def cellsOf : V → List V
  | .agg vs => vs
  | v => [v]

def tyCells (cx : Cx) (t : TypeId) : Option (Nat × Bool) :=
  match look cx.ty t with
  | some (.cell _) => some (1, false)
  | some (.slice ..) => some (1, false)
  | some (.agg n _ _) => some (n, true)
  | some (.arr n _ _) => some (n, true)
  | _ => none

def zeroCells (cx : Cx) (t : TypeId) : Option (List V) :=
  match look cx.ty t with
  | some (.cell z) => some [z]
  | some (.slice ..) => some [.snil]
  | some (.agg _ _ zs) => some zs
  | some (.arr _ _ zs) => some zs
  | _ => none

/-- The kind of an array's elements. -/
def elemK (cx : Cx) (t : TypeId) : Option K :=
  match look cx.ty t with
  | some (.arr _ eT _) => match look cx.ty eT with
    | some (.slice _ e) => some (.sl e)
    | some (.cell (.int k _)) => some (.int k)
    | some (.cell (.bool _)) => some .bool
    | some (.cell (.str _)) => some .str
    | _ => none
  | _ => none

def arrLen (cx : Cx) (t : TypeId) : Option Nat :=
  match look cx.ty t with
  | some (.arr n _ _) => some n
  | _ => none

/-- Cells that may stand in a variable in memory, or in a struct. -/
def V.isCell : V → Bool
  | .int .. | .bool _ | .str _ | .sl .. | .snil | .row _ | .fnil => true
  | _ => false

/-- Values other than closures and tuples. -/
def V.isA : V → Bool
  | .clo .. | .tup _ => false
  | _ => true

def putAt : List V → Nat → List V → Option (List V)
  | cs, _, [] => some cs
  | cs, off, v :: r => if off < cs.length && v.isCell then putAt (setV cs off v) (off + 1) r else none

def buildParts (fs : List (Nat × Nat × Bool)) : List V → List (Nat × V) → Option (List V)
  | cs, [] => some cs
  | cs, (i, v) :: r => match fs[i]? with
    | none => none
    | some (off, size, _) => if (cellsOf v).length = size then
        match putAt cs off (cellsOf v) with
        | some cs' => buildParts fs cs' r
        | none => none
      else none

def lenOf (st : St) : V → Option Nat
  | .sl _ xs => some xs.length
  | .snil => some 0
  | .row n => match look st.rows n with | some r => some r.xs.length | none => none
  | .view _ lo hi => some (hi - lo)
  | _ => none

def boundOf (gs : List (Nat × Bool)) (st : St) (x : Option Operand) (dflt : Int) : Option Int :=
  match x with
  | none => some dflt
  | some o => match opd st gs o with
    | .int _ n => some n
    | _ => none

def inRange (i : Int) (n : Int) : Bool := decide (0 ≤ i) && decide (i < n)

/-- What an operation that only reads and reckons yields, and what must hold for it. -/
def pureOp (cx : Cx) (st : St) (gs : List (Nat × Bool)) (op : Op) : Option (Option Bool × V) :=
  match op with
  | .move x => some (none, opd st gs x)
  | .assign x => some (none, opd st gs x)
  | .pick c a b =>
    match c with
    | .tmp t => match guardOf st.gd t, getV st.slots t with
      | none, .lit v => some (none, if v then opd st gs a else opd st gs b)
      | _, _ => match opd st gs c with
        | .bool v =>
          if isTrue a then
            match opd st ((t, false) :: gs) b with
            | .bool y => some (none, .bool (v || y))
            | _ => none
          else if isFalse b then
            match opd st ((t, true) :: gs) a with
            | .bool x => some (none, .bool (v && x))
            | _ => none
          else none
        | _ => none
    | _ => none
  | .binOp op t x y _ => match opd st gs x, look cx.ty t with
    | .bool u, some (.cell (.bool _)) => binV op (.bool u) (opd st gs y)
    | .bool _, _ => none
    | u, _ => binV op u (opd st gs y)
  | .unOp op _ x => match unV op (opd st gs x) with | some v => some (none, v) | none => none
  | .convert src dst x => match opd st gs x with
    | .int _ n => if isCellTy cx src then match intOfTy cx dst with | some k => some (none, .int k (k.wrap n)) | none => none else none
    | _ => none
  | .nilCheck x => match opd st gs x with
    | .ptr b o => some (none, .ptr b o)
    | .fp cs o => some (none, .fp cs o)
    | _ => none
  | .fieldAddr t x i => match look cx.ty t with
    | some (.agg _ fs _) => match fs[i]? with
      | some (off, _, _) => match opd st gs x with
        | .ptr b o => some (none, .ptr b (o + off))
        | .fp cs o => some (none, .fp cs (o + off))
        | _ => none
      | none => none
    | _ => none
  | .field t x i => match look cx.ty t with
    | some (.agg _ fs _) => match fs[i]? with
      | some (off, size, isA) => match opd st gs x with
        | .agg vs => if off + size ≤ vs.length then some (none, partOf vs off size isA) else none
        | _ => none
      | none => none
    | _ => none
  | .index t x i => match opd st gs x, opd st gs i with
    | .str s, .int _ n => if !isStrTy cx t then none else some (some (inRange n s.size), .int .u8 ((s.data.toList.getD n.toNat 0).toNat : Int))
    | .agg vs, .int _ n => match elemK cx t, arrLen cx t with
      | some e, some len => if vs.length = len then
          match toKs e vs with
          | some xs => some (some (inRange n len), ofK e (xs.getD n.toNat e.dflt))
          | none => some (some (inRange n len), getV vs n.toNat)
        else none
      | _, _ => none
    | _, _ => none
  | .indexAddr t x i => if !isSlTy cx t then (match arrLen cx t, opd st gs x, opd st gs i with
      | some len, .ptr b o, .int _ n => some (some (inRange n len), .ptr b (o + n.toNat))
      | some len, .fp cs o, .int _ n => some (some (inRange n len), .fp cs (o + n.toNat))
      | _, _, _ => none) else match opd st gs i with
    | .int _ n => match opd st gs x with
      | .sl e xs => some (some (inRange n xs.length), .fel e xs n.toNat)
      | .row m => match look st.rows m with
        | some r => some (some (inRange n r.xs.length), .el m n.toNat)
        | none => none
      | .view m lo hi => match look st.rows m with
        | some _ => some (some (inRange n (hi - lo : Nat)), .el m (lo + n.toNat))
        | none => none
      | .snil => some (some false, .dead)
      | _ => none
    | _ => none
  | .load t a => match opd st gs a with
    | .fel e xs i => if tyCells cx t = some (1, false) then some (none, ofK e (xs.getD i e.dflt)) else none
    | .el n i => if tyCells cx t ≠ some (1, false) then none else match look st.rows n with
      | some r => some (some (decide (i < r.xs.length)), ofK r.e (r.xs.getD i r.e.dflt))
      | none => none
    | .ptr b o => match look st.boxes b, tyCells cx t with
      | some cs, some (size, isA) => if o + size ≤ cs.length then some (none, partOf cs o size isA) else none
      | _, _ => none
    | .fp cs o => match tyCells cx t with
      | some (size, isA) => if o + size ≤ cs.length then some (none, partOf cs o size isA) else none
      | none => none
    | _ => none
  | .slice t x lo hi none => match opd st gs x with
    | .str s => if !isStrTy cx t then none else match boundOf gs st lo 0, boundOf gs st hi s.size with
      | some l, some h => some (some (decide (0 ≤ l) && decide (l ≤ h) && decide (h ≤ s.size)), .str (s.extract l.toNat h.toNat))
      | _, _ => none
    | .sl e xs => if !isSlTy cx t then none else match boundOf gs st lo 0, boundOf gs st hi xs.length with
      | some l, some h => some (some (decide (0 ≤ l) && decide (l ≤ h) && decide (h ≤ xs.length)), .sl e ((xs.take h.toNat).drop l.toNat))
      | _, _ => none
    | .row n => if !isSlTy cx t then none else match look st.rows n with
      | some r => match boundOf gs st lo 0, boundOf gs st hi r.xs.length with
        | some l, some h => some (some (decide (0 ≤ l) && decide (l ≤ h) && decide (h ≤ r.xs.length)), .view n l.toNat h.toNat)
        | _, _ => none
      | none => none
    | .snil => match look cx.ty t with
      | some (.slice _ e) => match boundOf gs st lo 0, boundOf gs st hi 0 with
        | some l, some h => some (some (decide (0 ≤ l) && decide (l ≤ h) && decide (h ≤ 0)), .sl e [])
        | _, _ => none
      | _ => none
    | _ => none
  | .extract x i => match opd st gs x with
    | .tup vs => if i < vs.length then some (none, getV vs i) else none
    | _ => none
  | .build t parts => match look cx.ty t with
    | some (.agg _ fs zs) => if parts.toList.all fun p => !(cellsOf (opd st gs p.2)).isEmpty then
        match buildParts fs zs (parts.toList.map fun p => (p.1, opd st gs p.2)) with
        | some vs => some (none, .agg vs)
        | none => none
      else none
    | _ => none
  | .makeFunc (.func f) first captured =>
    if (first.toList.map (opd st gs)).all V.isA && (captured.toList.map (opd st gs)).all V.isA then
      some (none, .clo f (first.toList.map (opd st gs)) (captured.toList.map (opd st gs)))
    else none
  | .call { callee := .builtin .len, args, argTypes } => match args.toList, argTypes[0]? with
    | [x], some t => match opd st gs x with
      | .str s => if isStrTy cx t then some (none, .int .i64 s.size) else none
      | v => if isSlTy cx t then match lenOf st v with | some n => some (none, .int .i64 n) | none => none else none
    | _, _ => none
  | .call { callee := .builtin .max, args, .. } => match args.toList with
    | [x, y] => match opd st gs x, opd st gs y with
      | .int k a, .int _ b => some (none, .int k (if b > a then b else a))
      | _, _ => none
    | _ => none
  | .call { callee := .builtin .min, args, .. } => match args.toList with
    | [x, y] => match opd st gs x, opd st gs y with
      | .int k a, .int _ b => some (none, .int k (if b < a then b else a))
      | _, _ => none
    | _ => none
  | _ => none

end Go.VS
/- The evaluator, second part: operations that make or write memory, calls, regions, the way through the code. -/
set_option linter.unusedVariables false
namespace Go.VS

/-! ### Frozen and own -/

def V.frz : V → Bool
  | .sl .. | .fp .. | .fel .. => true
  | _ => false

def V.frzA : V → Bool
  | .agg vs => vs.any V.frz
  | v => v.frz

def V.frzC : V → Bool
  | .clo _ fi ca => fi.any V.frzA || ca.any V.frzA
  | v => v.frzA

def V.frzT : V → Bool
  | .tup vs => vs.any V.frzC
  | v => v.frzC

def K.nested : K → Bool
  | .sl _ => true
  | _ => false

def St.anyFrz (st : St) : Bool := (st.rows.any fun p => p.2.e.nested) || (st.boxes.any fun p => p.2.any V.frz)

/-- A variable in memory that is frozen. -/
def fbCell (b : Nat) (cs : List V) : V → V
  | .ptr m o => if m = b then .fp cs o else .ptr m o
  | v => v

def fbAgg (b : Nat) (cs : List V) : V → V
  | .agg vs => .agg (vs.map (fbCell b cs))
  | v => fbCell b cs v

def fbClo (b : Nat) (cs : List V) : V → V
  | .clo f fi ca => .clo f (fi.map (fbAgg b cs)) (ca.map (fbAgg b cs))
  | v => fbAgg b cs v

def fbTup (b : Nat) (cs : List V) : V → V
  | .tup vs => .tup (vs.map (fbClo b cs))
  | v => fbClo b cs v

/-- Cells that stay as they are whatever becomes of rows and boxes. -/
def V.isFrozenCell : V → Bool
  | .int .. | .bool _ | .str _ | .sl .. | .snil | .fnil => true
  | _ => false

def St.freezeBox (st : St) (b : Nat) : Option St :=
  match look st.boxes b with
  | none => some st
  | some cs => if cs.all V.isFrozenCell then some { st with slots := st.slots.map (fbTup b cs), boxes := cut st.boxes b } else none

def St.freezeBoxes : St → List Nat → Option St
  | st, [] => some st
  | st, b :: r => match st.freezeBox b with
    | some s => s.freezeBoxes r
    | none => none

def rowsOfCells : List V → List Nat
  | [] => []
  | .row n :: r => n :: rowsOfCells r
  | .view n _ _ :: r => n :: rowsOfCells r
  | _ :: r => rowsOfCells r

/-! ### Operations that make or write memory -/

/-- The names that an operation gives to what it makes. -/
def opTag (d : Nat) : Nat := d + 1000

/-- The most elements that a row may have. -/
def most : Nat := 8796093022208

def rowContent (st : St) (e : K) : V → Option (List e.T)
  | .snil => some []
  | .sl e' xs => match K.eqv e' e with
    | some ⟨h⟩ => some (castL h xs)
    | none => none
  | .row n => match look st.rows n with
    | some r => match K.eqv r.e e with
      | some ⟨h⟩ => some (castL h r.xs)
      | none => none
    | none => none
  | .view n lo hi => match look st.rows n with
    | some r => match K.eqv r.e e with
      | some ⟨h⟩ => some (castL h (r.part lo hi))
      | none => none
    | none => none
  | _ => none

def appendRow (st : St) (d : Nat) (e : K) (ys : List e.T) (n : Nat) (k : St → Option R) : Option R :=
  match look st.rows n with
  | none => none
  | some r => match K.eqv r.e e with
    | none => none
    | some ⟨h⟩ => if r.xs.length + ys.length < most then
        k ((st.swapRow n (opTag d) ⟨e, castL h r.xs ++ ys⟩).put (some d) (.row (opTag d)))
      else none

/-- An append: to a row of the call's own, or to nil. -/
def appendOp (st : St) (d : Nat) (e : K) (x y : V) (k : St → Option R) : Option R :=
  match rowContent st e y with
  | none => none
  | some ys => match x with
    | .snil => if ys.length < most then k ((st.newRow (opTag d) ⟨e, ys⟩).put (some d) (.row (opTag d))) else none
    | .row n => match y with
      | .row m => if m = n then none else appendRow st d e ys n k
      | .view m _ _ => if m = n then none else appendRow st d e ys n k
      | _ => appendRow st d e ys n k
    | _ => none

def effOp (cx : Cx) (st : St) (gs : List (Nat × Bool)) (dst : Option Nat) (op : Op) (k : St → Option R) : Option R :=
  match op with
  | .alloc t => match dst, zeroCells cx t with
    | some d, some zs => k ((st.newBox (opTag d) zs).put (some d) (.ptr (opTag d) 0))
    | _, _ => none
  | .box t x => match dst, tyCells cx t with
    | some d, some (n, _) =>
      let cs := cellsOf (opd st gs x)
      if cs.length = n && cs.all V.isCell then k ((st.newBox (opTag d) cs).put (some d) (.ptr (opTag d) 0)) else none
    | _, _ => none
  | .buildSlice t len parts => match dst, look cx.ty t with
    | some d, some (.slice _ e) =>
      if parts.toList.map (·.1) = List.range len then
        let s := st.freezeAll (rowsOfCells (parts.toList.map fun p => opd st gs p.2))
        match toKs e (parts.toList.map fun p => opd s gs p.2) with
        | some xs => if len < 65536 then k ((s.newRow (opTag d) ⟨e, xs⟩).put (some d) (.row (opTag d))) else none
        | none => none
      else none
    | _, _ => none
  | .makeSlice t len cap => match dst, look cx.ty t, opd st gs len, opd st gs cap with
    | some d, some (.slice _ e), .int _ n, .int _ c =>
      if decide (0 ≤ n) && decide (n ≤ c) && decide (c < most) then
        k ((st.newRow (opTag d) ⟨e, List.replicate n.toNat e.dflt⟩).put (some d) (.row (opTag d)))
      else none
    | _, _, _, _ => none
  | .store t a v => match dst with
    | some _ => none
    | none => match opd st gs a with
      | .el n i =>
        match look st.rows n with
        | none => none
        | some r =>
          let s := st.freezeAll (rowsOfCells [opd st gs v])
          match look s.rows n, toK r.e (opd s gs v) with
          | some r', some x => match K.eqv r.e r'.e with
            | some ⟨h⟩ => if decide (i < r'.xs.length) && decide (tyCells cx t = some (1, false)) then
                k { s with rows := (n, ⟨r'.e, r'.xs.set i (h ▸ x)⟩) :: cut s.rows n }
              else none
            | none => none
          | _, _ => none
      | .ptr b o => match look st.boxes b, tyCells cx t with
        | some cs, some (n, _) =>
          let vs := cellsOf (opd st gs v)
          if vs.length = n && !vs.isEmpty then
            match putAt cs o vs with
            | some cs' => k { st with boxes := (b, cs') :: cut st.boxes b }
            | none => none
          else none
        | _, _ => none
      | _ => none
  | .call { callee := .builtin .append, args, argTypes } => match dst, argTypes.toList, args.toList with
    | some d, [t, t'], [x, y] => match look cx.ty t with
      | some (.slice _ e) => if isSlTy cx t' then appendOp st d e (opd st gs x) (opd st gs y) k else none
      | _ => none
    | _, _, _ => none
  | _ => none

/-! ### Calls -/

/-- A call being entered: the caller's state without what it hands over; what the callee finds; the names (the callee's k-th row is the caller's pr[k]); what is lent to be read. -/
structure Ent where
  st : St
  rows : List (Nat × Row)
  boxes : List (Nat × List V)
  pr : List Nat
  pb : List Nat
  rd : List Nat
  rb : List Nat

def Ent.rowIn (E : Ent) (own : Bool) (n : Nat) : Option (V × Ent) :=
  match look E.st.rows n with
  | none => none
  | some r =>
    if own then
      if E.pr.contains n || E.rd.contains n then none else
      some (.row E.pr.length, { E with rows := E.rows ++ [(E.pr.length, r)], pr := E.pr ++ [n] })
    else if E.pr.contains n then none else some (.sl r.e r.xs, { E with rd := n :: E.rd })

def Ent.cellIn (E : Ent) (own : Bool) : V → Option (V × Ent)
  | .row n => E.rowIn own n
  | .view n lo hi => match look E.st.rows n with
    | some r => if E.pr.contains n then none else some (.sl r.e (r.part lo hi), { E with rd := n :: E.rd })
    | none => none
  | .int k n => some (.int k n, E)
  | .bool b => some (.bool b, E)
  | .lit b => some (.bool b, E)
  | .str s => some (.str s, E)
  | .sl e xs => some (.sl e xs, E)
  | .snil => some (.snil, E)
  | .fnil => some (.fnil, E)
  | .fp cs o => some (.fp cs o, E)
  | _ => none

def Ent.cellsIn (E : Ent) (own : Bool) : List V → Option (List V × Ent)
  | [] => some ([], E)
  | v :: r => match E.cellIn own v with
    | none => none
    | some (v', E') => match E'.cellsIn own r with
      | none => none
      | some (r', E'') => some (v' :: r', E'')

def Ent.aggIn (E : Ent) (own : Bool) : V → Option (V × Ent)
  | .agg vs => match E.cellsIn own vs with
    | some (vs', E') => some (.agg vs', E')
    | none => none
  | .ptr b o => match look E.st.boxes b with
    | none => none
    | some cs =>
      if own then
        if E.pb.contains b || E.rb.contains b then none else
        match E.cellsIn true cs with
        | none => none
        | some (cs', E') => some (.ptr E'.pb.length o, { E' with boxes := E'.boxes ++ [(E'.pb.length, cs')], pb := E'.pb ++ [b] })
      else if E.pb.contains b then none else if cs.all V.isFrozenCell then some (.fp cs o, { E with rb := b :: E.rb }) else none
  | v => E.cellIn own v

def Ent.listIn (E : Ent) : List V → List Bool → Option (List V × Ent)
  | [], _ => some ([], E)
  | v :: r, m => match E.aggIn (m.headD false) v with
    | none => none
    | some (v', E') => match E'.listIn r m.tail with
      | none => none
      | some (r', E'') => some (v' :: r', E'')

def Ent.argIn (E : Ent) (m : List Bool) : V → Option (V × Ent)
  | .clo f fi ca => match E.listIn fi [] with
    | none => none
    | some (fi', E') => match E'.listIn ca m with
      | none => none
      | some (ca', E'') => some (.clo f fi' ca', E'')
  | v => E.aggIn (m.headD false) v

def Ent.argsIn (E : Ent) : List V → List (List Bool) → Option (List V × Ent)
  | [], _ => some ([], E)
  | v :: r, ms => match E.argIn (ms.headD []) v with
    | none => none
    | some (v', E') => match E'.argsIn r ms.tail with
      | none => none
      | some (r', E'') => some (v' :: r', E'')

/-- Names from lo up to hi are gone. -/
def killR (lo hi : Nat) : Ren := { row := fun n => if lo ≤ n && n < hi then none else some n, box := some }

def nilS (cx : Cx) (own : Bool) (n : Nat) (st : St) (t : TypeId) (v : V) : St := match v with
  | .snil => match look cx.ty t with
    | some (.slice _ e) => if own then st.newRow n ⟨e, []⟩ else st
    | _ => st
  | _ => st

/-- nil handed over as a slice that the callee may append to: a row of the caller's own. -/
def nilSt (cx : Cx) : List (List Bool) → Nat → St → List V → List TypeId → St
  | own, n, st, v :: r, t :: ts => nilSt cx own.tail (n + 1) (nilS cx ((own.headD []).headD false) n st t v) r ts
  | _, _, st, _, _ => st

def nilV (cx : Cx) (own : Bool) (n : Nat) (p : Ren) (t : TypeId) (v : V) : V := match v with
  | .snil => match look cx.ty t with
    | some (.slice _ e) => if own then .row n else .sl e []
    | _ => .snil
  | v => p.tup v

def nilVs (cx : Cx) (p : Ren) : List (List Bool) → Nat → List V → List TypeId → List V
  | own, n, v :: r, t :: ts => nilV cx ((own.headD []).headD false) n p t v :: nilVs cx p own.tail (n + 1) r ts
  | _, _, vs, _ => vs.map p.tup

def nth (l : List Nat) (base k : Nat) : Nat := match l[k]? with
  | some n => n
  | none => base + k

/-- The callee's names, and the caller's for them. -/
def backList (pr : List Nat) (base : Nat) (keys : List Nat) : List (Nat × Nat) :=
  (pr.zipIdx.map fun q => (q.2, q.1)) ++ ((keys.filter fun k => decide (pr.length ≤ k) && decide (k < 1000)).map fun k => (k, base + k))

def inBase (base n : Nat) : Bool := decide (base ≤ n) && decide (n < base + 1000)

def keepRen (base : Nat) : Ren :=
  { row := fun n => if inBase base n then none else some n, box := fun n => if inBase base n then none else some n }

def takeRows (rows : List (Nat × Row)) : List (Nat × Nat) → List (Nat × Row)
  | [] => []
  | (n, m) :: r => match look rows n with
    | some x => (m, x) :: takeRows rows r
    | none => takeRows rows r

def takeBoxes (p : Ren) (boxes : List (Nat × List V)) : List (Nat × Nat) → List (Nat × List V)
  | [] => []
  | (b, m) :: r => match look boxes b with
    | some cs => (m, cs.map p.cell) :: takeBoxes p boxes r
    | none => takeBoxes p boxes r

def without {α : Type} (base : Nat) (ns : List Nat) (l : List (Nat × α)) : List (Nat × α) := l.filter fun q => !inBase base q.1 && !ns.contains q.1

/-- The caller's state behind the call. -/
def leave (E : Ent) (base : Nat) (fin : St) (res : List V) : Option (St × V) :=
  let lr := backList E.pr base (fin.rows.map (·.1))
  let lb := backList E.pb base (fin.boxes.map (·.1))
  let p : Ren := { row := look lr, box := look lb }
  if decide (E.pr.length ≤ 1000) && decide (E.pb.length ≤ 1000) && (E.pr.all fun n => !inBase base n) && (E.pb.all fun n => !inBase base n) then
    some ({ slots := E.st.slots.map (keepRen base).tup,
            rows := takeRows fin.rows lr ++ without base E.pr E.st.rows,
            boxes := takeBoxes p fin.boxes lb ++ (without base E.pb E.st.boxes).map fun q => (q.1, q.2.map (keepRen base).cell),
            gd := E.st.gd },
          match res with
          | [v] => p.clo v
          | vs => .tup (vs.map p.clo))
  else none

/-- Behind the call, what was lent and may have been kept is frozen. -/
def callFn (cx : Cx) (st : St) (d : Nat) (fv : V) (args : List V) (ts : List TypeId) (K : St → V → Option R) : Option R :=
  let p := killR (3000000 + 1000 * d) (3000000 + 1000 * d + 1000)
  match p.clo fv with
  | .clo f fi ca => match look cx.fns f with
    | none => none
    | some en =>
      match Ent.argsIn { st := nilSt cx (en.modes.drop fi.length) (3000000 + 1000 * d) st args ts, rows := [], boxes := [], pr := [], pb := [], rd := [], rb := [] }
          ((fi ++ nilVs cx p (en.modes.drop fi.length) (3000000 + 1000 * d) args ts) ++ ca) en.modes with
      | none => none
      | some (slots, E) =>
        if args.length ≤ 1000 then
          en.E { slots := slots, rows := E.rows, boxes := E.boxes } fun fin res =>
            let hot := fin.anyFrz || res.any V.frzC
            match (if hot then (E.st.freezeAll E.rd).freezeBoxes E.rb else some E.st) with
            | none => none
            | some s1 => match leave { E with st := s1 } (2000000 + 1000 * d) fin res with
              | none => none
              | some (s, v) => K s v
        else none
  | _ => none

/-! ### nil in a variable in memory, told as an empty row -/

def nilName (b i : Nat) : Nat := 7000000 + 64 * b + i

def nilCell (b i : Nat) (e : K) (st : St) : St :=
  match look st.boxes b with
  | none => st
  | some cs => match getV cs i with
    | .snil => match look (st.newRow (nilName b i) ⟨e, []⟩).boxes b with
      | some cs' => { st.newRow (nilName b i) ⟨e, []⟩ with boxes := (b, setV cs' i (.row (nilName b i))) :: cut (st.newRow (nilName b i) ⟨e, []⟩).boxes b }
      | none => st
    | _ => st

def nilKs (b : Nat) : Nat → List (Option K) → St → St
  | _, [], st => st
  | i, some e :: r, st => nilKs b (i + 1) r (nilCell b i e st)
  | i, none :: r, st => nilKs b (i + 1) r st

def nilBoxes : List (Nat × List (Option K)) → St → St
  | [], st => st
  | (b, ks) :: r, st => nilBoxes r (nilKs b 0 ks st)

/-! ### Operations under guards -/

def pureClass : Op → Nat
  | .load .. => 1
  | _ => 0

/-- Is the place that a load reads an element of a row of the call's own? -/
def elLoad (st : St) (gs : List (Nat × Bool)) : Op → Bool
  | .load _ x => match opd st gs x with
    | .el .. => true
    | _ => false
  | _ => false

/-- `ne`: no element of a row of one's own may be loaded. -/
def pureN (cx : Cx) (ne : Bool) (st : St) (gs : List (Nat × Bool)) (op : Op) : Option (Option Bool × V) :=
  if ne && elLoad st gs op then none else pureOp cx st gs op

/-- An operation that is carried out for sure. -/
def runOp (cx : Cx) (ne : Bool) (st : St) (dst : Option Nat) (op : Op) (K : St → Option R) : Option R :=
  match op with
  | .call { callee := .value f, args, argTypes } => match dst with
    | some d => callFn cx st d (opd st [] f) (args.toList.map (opd st [])) argTypes.toList fun s v => K (s.put (some d) v)
    | none => none
  | op => match pureN cx ne st [] op with
    | some (none, v) => K (st.put dst v)
    | some (some b, v) => if b then K (st.put dst v) else none
    | none => effOp cx st [] dst op K

/-- What hung on the temporary t being the other Bool is dead. -/
def deadIf (gd0 : List (Nat × Nat × Bool)) (t : Nat) (w : Bool) : List V → List (Nat × Nat × Bool) → List V
  | vs, [] => vs
  | vs, (s, _, _) :: r => deadIf gd0 t w (match guardOf gd0 s with
    | some (t', w') => if t' = t then (if w' = w then vs else setV vs s .dead) else vs
    | none => vs) r

def hangsOn (gd0 : List (Nat × Nat × Bool)) (t s : Nat) : Bool :=
  s == t || match guardOf gd0 s with
    | some (t', _) => t' == t
    | none => false

/-- It is settled that the temporary t is the Bool w. -/
def St.settled (st : St) (t : Nat) (w : Bool) : St :=
  { st with slots := setV (deadIf st.gd t w st.slots st.gd) t (.lit w), gd := st.gd.filter fun e => !hangsOn st.gd t e.1 }

/-- The guard is settled first: the temporary t is the Bool w, or it isn't. -/
def settle : Nat → St → Nat → Bool → (St → Option R) → (St → Option R) → Option R
  | 0, _, _, _, _, _ => none
  | n + 1, st, t, w, yes, no => match guardOf st.gd t with
    | some (t', w') => match getV st.slots t with
      | .bool _ => settle n st t' w' (fun s => settle n s t w yes no) no
      | _ => none
    | none => match getV st.slots t with
      | .lit b => if isB w b then yes st else no st
      | .bool b => if isB w b then yes (st.settled t w) else no (st.settled t !w)
      | .tup [] => no st
      | _ => none

def opK (cx : Cx) (ne : Bool) (ops : Array Oper) (o : Oper) (st : St) (K : St → Option R) : Option R :=
  match o.guard with
  | none => runOp cx ne st o.dst o.op K
  | some (j, w) => match (ops[j]?).bind (·.dst) with
    | none => none
    | some t => match o.dst with
      | some d =>
        if t = d then none else
        if cx.sharp then settle 8 st t w (fun s => runOp cx ne s (some d) o.op K) (fun s => K (s.put (some d) (.tup []))) else
        match getV st.slots t, pureN cx ne st (gctx st 8 t w) o.op with
        | .bool _, some (none, v) => K (st.putG d t w v)
        | .bool _, some (some q, v) => match gcond st 8 t w with
            | some c => if !c || q then K (st.putG d t w v) else none
            | none => none
        | _, _ => settle 8 st t w (fun s => runOp cx ne s (some d) o.op K) (fun s => K (s.put (some d) (.tup [])))
      | none => settle 8 st t w (fun s => runOp cx ne s none o.op K) K

/-! ### Regions -/

/-- What an operation does, whatever the state: 0: it yields in every world; 1: it reads; 2: it makes memory; 3: it may write. -/
def opClass (cx : Cx) (op : Op) : Nat :=
  match op with
  | .load .. => 1
  | .alloc .. | .box .. | .buildSlice .. | .makeSlice .. => 2
  | .store .. => 3
  | .call { callee := .builtin .append, .. } => 2
  | .call { callee := .value (.func f), .. } => match look cx.fns f with
    | some en => if en.modes.all (fun m => m.all (!·)) then 2 else 3
    | none => 3
  | .call { callee := .value _, .. } => 3
  | _ => 0

def readyAt (ops : Array Oper) (l : Array Bool) : List Nat := Region.ready .any ops l

def isCl (cx : Cx) (ops : Array Oper) (l : Array Bool) (c i : Nat) : Bool := match ops[i]? with
  | some o => opClass cx o.op == c && Region.free .any ops l i
  | none => false

/-- Does an operation that makes leave all rows as they are? -/
def keepsAll : Op → Bool
  | .call { callee := .builtin _, .. } => false
  | .store .. => false
  | _ => true

/-- A step of an order: one operation (tag 0: it reckons; 1: it reads; 2: it makes; 4: it reads what is frozen; 3: anything); or some in turn, between which makers may come. -/
inductive PE where
  | one (i tag : Nat)
  | grp (is js : List Nat)

def isMaker (ops : Array Oper) (i : Nat) : Bool := match ops[i]? with
  | some o => o.guard.isNone && o.dst.isSome && match o.op with
    | .makeSlice .. => true
    | .buildSlice .. => true
    | _ => false
  | none => false

def setAll (l : Array Bool) (is : List Nat) : Array Bool := is.foldl (fun l i => l.setIfInBounds i true) l

def clsAt (cx : Cx) (ops : Array Oper) (i : Nat) : Nat := match ops[i]? with
  | some o => opClass cx o.op
  | none => 9

/-- What may write. -/
def lateOps (cx : Cx) (ops : Array Oper) : List Nat := (List.range ops.size).filter fun i => decide (3 ≤ clsAt cx ops i)

/-- What else can come, one after the other, while the makers js wait. -/
def mainRun (cx : Cx) (ops : Array Oper) (js : List Nat) : Nat → Array Bool → List Nat
  | 0, _ => []
  | n + 1, l => match (readyAt ops (setAll l js)) with
    | [i] => if (readyAt ops l).contains i && decide (clsAt cx ops i ≤ 2) then i :: mainRun cx ops js n (l.setIfInBounds i true) else []
    | _ => []

/-- An order for a region that draws its own: what only computes and reads first. `ph`: 0: nothing is made yet; 1: something is; 2: something may be written. -/
def planOf (cx : Cx) (ops : Array Oper) (ds : List Nat) : Nat → Array Bool → Nat → List PE
  | 0, _, _ => []
  | n + 1, l, ph =>
    let rs := readyAt ops l
    match rs.find? (isCl cx ops l 0) with
    | some i => .one i 0 :: planOf cx ops ds n (l.setIfInBounds i true) ph
    | none => match (if ph ≤ 1 then rs.find? (fun i => isCl cx ops l 1 i && Region.lastB .any ops l ds i) else none) with
      | some i => .one i 1 :: planOf cx ops ds n (l.setIfInBounds i true) ph
      | none => match rs.find? (isCl cx ops l 1) with
        | some i => .one i 4 :: planOf cx ops ds n (l.setIfInBounds i true) ph
        | none => match rs with
          | [] => []
          | [i] => if decide (ph ≤ 1) && decide (clsAt cx ops i ≤ 2) then .one i 2 :: planOf cx ops ds n (l.setIfInBounds i true) 1
            else .one i 3 :: planOf cx ops ds n (l.setIfInBounds i true) 2
          | i :: r =>
            let js := (match (i :: r).filter (fun j => !isMaker ops j) with
              | [] => r
              | _ => (i :: r).filter (isMaker ops))
            let is := (match (i :: r).filter (fun j => !isMaker ops j) with
              | [] => [i]
              | o :: _ => [o])
            let is := is ++ mainRun cx ops js n (setAll l is)
            .grp is js :: planOf cx ops ds n (setAll (setAll l is) js) 1

def apartAt (ops : Array Oper) (i j : Nat) : Bool := match ops[i]?, ops[j]? with
  | some x, some y => x.apart ops y
  | _, _ => false

def nodupB : List Nat → Bool
  | [] => true
  | n :: r => !r.contains n && nodupB r

/-- Some in turn, while the makers js wait. -/
def mainOk (cx : Cx) (ne : Bool) (ops : Array Oper) (ds js : List Nat) : Array Bool → List Nat → Bool
  | _, [] => true
  | l, i :: r => (match ops[i]? with
      | some o => decide (opClass cx o.op ≤ 2) && (ne || keepsAll o.op)
      | none => false) && !ds.contains i && !js.contains i && (readyAt ops l).contains i && readyAt ops (setAll l js) == [i] && (js.all fun j => apartAt ops j i && apartAt ops i j) && mainOk cx ne ops ds js (l.setIfInBounds i true) r

/-- Several operations that may come in any order. -/
def grpOk (ops : Array Oper) (ds : List Nat) (l : Array Bool) (is js : List Nat) : Bool :=
  js.all (isMaker ops) && nodupB js && (js.all fun g => (readyAt ops l).contains g && !ds.contains g && readyAt ops (setAll (setAll l is) (js.filter (· != g))) == [g]) &&
  js.all fun j => js.all fun g => g == j || (apartAt ops j g && apartAt ops g j)

/-- Is it an order that stands for every one? -/
def planOk (cx : Cx) (ne : Bool) (ops : Array Oper) (ds : List Nat) : Nat → Array Bool → List PE → Bool
  | _, l, [] => readyAt ops l == []
  | ph, l, .one i tag :: r => match ops[i]? with
    | none => false
    | some o => match tag with
      | 0 => opClass cx o.op == 0 && !ds.contains i && Region.free .any ops l i && (readyAt ops l).contains i && planOk cx ne ops ds ph (l.setIfInBounds i true) r
      | 1 => decide (ph ≤ 1) && decide (opClass cx o.op ≤ 1) && !ds.contains i && Region.free .any ops l i && (readyAt ops l).contains i && Region.closedB .any ops l && Region.lastB .any ops l ds i && planOk cx ne ops ds ph (l.setIfInBounds i true) r
      | 2 => decide (ph ≤ 1) && decide (opClass cx o.op ≤ 2) && (ne || keepsAll o.op) && !ds.contains i && readyAt ops l == [i] && planOk cx ne ops ds 1 (l.setIfInBounds i true) r
      | 4 => o.guard.isNone && !ds.contains i && Region.free .any ops l i && (readyAt ops l).contains i && planOk cx ne ops ds ph (l.setIfInBounds i true) r
      | _ => (decide (2 ≤ ph) || ds.contains i) && readyAt ops l == [i] && planOk cx ne ops ds 2 (l.setIfInBounds i true) r
  | ph, l, .grp is js :: r => decide (ph ≤ 1) && grpOk ops ds l is js && mainOk cx ne ops ds js l is && planOk cx ne ops ds 1 (setAll (setAll l is) js) r

def runOps (cx : Cx) (ne : Bool) (ops : Array Oper) : List Nat → St → (St → Option R) → Option R
  | [], st, K => K (nilBoxes cx.nk st.noG)
  | i :: r, st, K => match ops[i]? with
    | none => none
    | some o => opK cx ne ops o st fun s => runOps cx ne ops r s K

def K.flat : K → Bool
  | .sl _ => false
  | _ => true

/-- The row that a maker makes. -/
def makerRow (cx : Cx) (st : St) (op : Op) (k : Row → Option R) : Option R :=
  match op with
  | .buildSlice t len parts => match look cx.ty t with
    | some (.slice _ e) => if decide (parts.toList.map (·.1) = List.range len) && e.flat && decide (len < 65536) then
        match toKs e (parts.toList.map fun p => opd st [] p.2) with
        | some xs => k ⟨e, xs⟩
        | none => none
      else none
    | _ => none
  | .makeSlice t len cap => match look cx.ty t, opd st [] len, opd st [] cap with
    | some (.slice _ e), .int _ n, .int _ c => if decide (0 ≤ n) && decide (n ≤ c) && decide (c < most) then k ⟨e, List.replicate n.toNat e.dflt⟩ else none
    | _, _, _ => none
  | _ => none

def makersK (cx : Cx) (ops : Array Oper) (st : St) : List Nat → (List (Nat × Row) → Option R) → Option R
  | [], k => k []
  | j :: js, k => match ops[j]? with
    | none => none
    | some o => match o.dst with
      | none => none
      | some d => if d < st.slots.length then makerRow cx st o.op fun r => makersK cx ops st js fun L => k ((d, r) :: L) else none

def deadSlots (st : St) : List (Nat × Row) → St
  | [] => st
  | (d, _) :: L => deadSlots { st with slots := setV st.slots d .dead } L

def adopt (st : St) : List (Nat × Row) → St
  | [] => st
  | (d, r) :: L => adopt ((st.newRow (opTag d) r).put (some d) (.row (opTag d))) L

/-- The load of an element of a frozen slice. -/
def frzLoad (st : St) : Op → Bool
  | .load _ x => match opd st [] x with
    | .fel .. => true
    | _ => false
  | _ => false

def runMain (cx : Cx) (ne : Bool) (ops : Array Oper) (L : List (Nat × Row)) : List Nat → St → (St → Option R) → Option R
  | [], st, K => K st
  | i :: r, st, K => match ops[i]? with
    | none => none
    | some o => opK cx ne ops o st fun s => if s.gd.isEmpty then runMain cx ne ops L r (deadSlots s L) K else none

def runPlan (cx : Cx) (ne : Bool) (ops : Array Oper) : List PE → St → (St → Option R) → Option R
  | [], st, K => K (nilBoxes cx.nk st.noG)
  | .one i tag :: r, st, K => match ops[i]? with
    | none => none
    | some o => if tag != 4 || frzLoad st o.op then opK cx ne ops o st fun s => runPlan cx ne ops r s K else none
  | .grp is js :: r, st, K => if st.gd.isEmpty then
        makersK cx ops st js fun L => runMain cx ne ops L is (deadSlots st L) fun s => runPlan cx ne ops r (adopt s L) K
      else none

end Go.VS
/- The evaluator, third part: the way through the code, cut at loops and joins; the meaning as a limit. -/
set_option linter.unusedVariables false
namespace Go.VS

def rowsC : V → List Nat
  | .row n => [n]
  | .view n _ _ => [n]
  | .el n _ => [n]
  | _ => []
def boxC : V → List Nat
  | .ptr b _ => [b]
  | _ => []
def rowsA : V → List Nat
  | .agg vs => vs.flatMap rowsC
  | v => rowsC v
def boxA : V → List Nat
  | .agg vs => vs.flatMap boxC
  | v => boxC v
def rowsCl : V → List Nat
  | .clo _ fi ca => fi.flatMap rowsA ++ ca.flatMap rowsA
  | v => rowsA v
def boxCl : V → List Nat
  | .clo _ fi ca => fi.flatMap boxA ++ ca.flatMap boxA
  | v => boxA v
def rowsT : V → List Nat
  | .tup vs => vs.flatMap rowsCl
  | v => rowsCl v
def boxT : V → List Nat
  | .tup vs => vs.flatMap boxCl
  | v => boxCl v

/-- New names for rows, from a base on, each elder name once. -/
def renFrom (base : Nat) : Nat → List Nat → List (Nat × Nat) → List (Nat × Nat)
  | _, [], acc => acc
  | j, n :: r, acc => renFrom base (j + 1) r (if (look acc n).isSome then acc else acc ++ [(n, base + j)])

abbrev Spec := List (Nat × Option K)

def nilRows (sp : Spec) (st : St) : St :=
  match sp with
  | [] => st
  | (s, some e) :: r => match getV st.slots s with
    | .snil => nilRows r { st.newRow (1000000 + 64 * s) ⟨e, []⟩ with slots := setV (st.newRow (1000000 + 64 * s) ⟨e, []⟩).slots s (.row (1000000 + 64 * s)) }
    | _ => nilRows r st
  | (_, none) :: r => nilRows r st

def liveRows (slots : List V) : Spec → List (Nat × Nat) → List (Nat × Nat)
  | [], acc => acc
  | (s, _) :: r, acc => liveRows slots r (renFrom (1000000 + 64 * s) 0 (rowsT (getV slots s)) acc)

def addNew : List Nat → List Nat → List Nat
  | acc, [] => acc
  | acc, n :: r => addNew (if acc.contains n then acc else acc ++ [n]) r

def liveBoxes (slots : List V) : Spec → List Nat → List Nat
  | [], acc => acc
  | (s, _) :: r, acc => liveBoxes slots r (addNew acc (boxT (getV slots s)))

def boxRows (st : St) : List Nat → List (Nat × Nat) → List (Nat × Nat)
  | [], acc => acc
  | b :: r, acc => boxRows st r (match look st.boxes b with
    | some cs => renFrom (5000000 + 64 * b) 0 (cs.flatMap rowsC) acc
    | none => acc)

def mask (p : Ren) : Nat → Spec → List V → List V
  | _, _, [] => []
  | i, [], _ :: r => .dead :: mask p (i + 1) [] r
  | i, (s, k) :: sp, v :: r => if i = s then p.tup (unlit v) :: mask p (i + 1) sp r else .dead :: mask p (i + 1) ((s, k) :: sp) r

def same (n : Nat) : List (Nat × Nat) := (List.range n).map fun i => (i, i)

/-- Names may be changed so: each once, each new name once; the first N names are kept. -/
def renOk (N : Nat) (l : List (Nat × Nat)) : Bool := nodupB (l.map (·.1)) && nodupB (l.map (·.2)) && l.all fun q => q.1 == q.2 || decide (N ≤ q.2)

/-- The state at a cut: what is live, under names that do not hang on the way. -/
def canon (nr nb : Nat) (sp : Spec) (st : St) : Option St :=
  let st := nilRows sp st.noG
  let bs := (liveBoxes st.slots sp (List.range nb)).map fun b => (b, b)
  let rho := boxRows st (bs.map (·.1)) (liveRows st.slots sp (same nr))
  let p : Ren := { row := look rho, box := look bs }
  if renOk 1000 rho && renOk 1000 bs then
    some { slots := mask p 0 sp st.slots, rows := takeRows st.rows rho, boxes := takeBoxes p st.boxes bs }
  else none

def resVals (cx : Cx) (st : St) : List ResultVar → Option (List V)
  | [] => some []
  | .tmp t :: r => match resVals cx st r with
    | some vs => some (opd st [] (.tmp t) :: vs)
    | none => none
  | .cell a t :: r => match opd st [] (.tmp a), tyCells cx t with
    | .ptr b o, some (size, isA) => match look st.boxes b with
      | some cs => if o + size ≤ cs.length then
          match resVals cx st r with
          | some vs => some (partOf cs o size isA :: vs)
          | none => none
        else none
      | none => none
    | _, _ => none

/-- Names for what results name; what is at mv gets a new one, too. -/
def newNames (nr : Nat) (mv : List Nat) : List Nat → List (Nat × Nat) → List (Nat × Nat)
  | [], acc => acc
  | n :: r, acc => newNames nr mv r (if n < nr && !mv.contains n then acc else if (look acc n).isSome then acc else acc ++ [(n, nr + acc.length)])


/-- What a call leaves: its parameters' rows and boxes under their own names, what its results name behind them. -/
def finish (cx : Cx) (nr nb : Nat) (mv : List Nat) (rs : List ResultVar) (st : St) : Option R :=
  match resVals cx st.noG rs with
  | none => none
  | some vs =>
    let nbs := same nb ++ newNames nb [] (vs.flatMap boxCl) []
    let cells := nbs.flatMap fun p => match look st.boxes p.1 with
      | some cs => cs.flatMap rowsC
      | none => []
    let nrs := (same nr).filter (fun p => !mv.contains p.1) ++ newNames nr mv (vs.flatMap rowsCl ++ cells) []
    let p : Ren := { row := look nrs, box := look nbs }
    if renOk nr nrs && renOk nb nbs then
      some ({ slots := [], rows := takeRows st.rows nrs, boxes := takeBoxes p st.boxes nbs }, vs.map p.clo)
    else none

/-- What is left to do; `now`: a region at a join, the cut being behind. -/
inductive It where
  | code (c : Code)
  | blk (id : Nat)
  | lp (b : Code)
  | now (id : Nat) (ops : Array Oper) (draw : Bool)

/-- What is done to a slot ahead of a return: cells of a kind that are nil become empty rows; or what they name is frozen. -/
abbrev Pre := List (Nat × List (Option (K × Bool)))

def getC (st : St) (s i : Nat) : V := match getV st.slots s with
  | .agg vs => getV vs i
  | v => if i = 0 then v else .dead

/-- Also in a variable in memory. -/
def getB (st : St) (s i : Nat) : V := match getV st.slots s with
  | .ptr b o => match look st.boxes b with
    | some cs => getV cs (o + i)
    | none => .dead
  | _ => getC st s i

def setC (st : St) (s i : Nat) (x : V) : St := { st with slots := setV st.slots s (match getV st.slots s with
  | .agg vs => .agg (setV vs i x)
  | _ => x) }

def preName (s i : Nat) : Nat := 8000000 + 64 * s + i

def preCell (s i : Nat) (e : K) (fz : Bool) (st : St) : St :=
  match getC st s i with
  | .snil => if fz then setC st s i (.sl e []) else setC (st.newRow (preName s i) ⟨e, []⟩) s i (.row (preName s i))
  | _ => if fz then (match getB st s i with
    | .row n => st.freeze n
    | .view n _ _ => st.freeze n
    | _ => st) else st

def preKs (s : Nat) : Nat → List (Option (K × Bool)) → St → St
  | _, [], st => st
  | i, some (e, fz) :: r, st => preKs s (i + 1) r (preCell s i e fz st)
  | i, none :: r, st => preKs s (i + 1) r st

def prep : Pre → St → St
  | [], st => st
  | (s, ks) :: r, st => prep r (preKs s 0 ks st)

structure Fn where
  loops : List (Nat × Spec)
  joins : List (Nat × Spec)
  nr : Nat
  nb : Nat
  rs : List ResultVar
  pre : Pre := []
  mv : List Nat := []
  fz : List (Nat × List Nat) := []

/-- Ahead of a region, rows that some slots name are frozen. -/
def fzAt (fn : Fn) (id : Nat) (st : St) : St := match look fn.fz id with
  | some ss => st.freezeAll (ss.flatMap fun s => rowsT (getV st.slots s))
  | none => st

def firstReg : Code → Nat
  | .region id _ _ => id
  | .seq a _ => firstReg a
  | .block _ b => firstReg b
  | .loop b => firstReg b
  | .scope b => firstReg b
  | _ => 0

def exitItems (id : Nat) : List It → Option (List It)
  | .blk id' :: k => if id' = id then some k else exitItems id k
  | _ :: k => exitItems id k
  | [] => none

def falses (n : Nat) : Array Bool := Array.replicate n false

/-- Does a step write to rows of one's own? -/
def PE.apps (ops : Array Oper) : PE → Bool
  | .one i tag => tag == 2 && (match ops[i]? with | some o => !keepsAll o.op | none => true)
  | .grp is _ => is.any fun i => match ops[i]? with | some o => !keepsAll o.op | none => true

def PE.n : PE → Nat
  | .one .. => 1
  | .grp is js => is.length + js.length

def planN : List PE → Nat
  | [] => 0
  | p :: r => planN r + p.n

def regionK (cx : Cx) (ops : Array Oper) (draw : Bool) (st : St) (K : St → Option R) : Option R :=
  if draw then
    let ds := lateOps cx ops
    let plan := planOf cx ops ds ops.size (falses ops.size) 0
    let ne := plan.any (PE.apps ops)
    if Region.noSelect ops && planN plan == ops.size && planOk cx ne ops ds 0 (falses ops.size) plan then runPlan cx ne ops plan st K else none
  else runOps cx false ops (List.range ops.size) st K

/-- At the head of a loop. -/
def loopK (fn : Fn) (b : Code) (k : List It) (st : St) (D : List It → St → Option R) : Option R :=
  match look fn.loops (firstReg b) with
  | some sp => match canon fn.nr fn.nb sp st with
    | some s => D (.code b :: .lp b :: k) s
    | none => none
  | none => none

/-- One step of the way. -/
def stepK (cx : Cx) (fn : Fn) (todo : List It) (st : St) (D : List It → St → Option R) : Option R :=
  match todo with
  | [] => finish cx fn.nr fn.nb fn.mv fn.rs (prep fn.pre st.noG)
  | .blk _ :: k => D k st
  | .lp b :: k => loopK fn b k st D
  | .now id ops draw :: k => regionK cx ops draw (fzAt fn id st) fun s => D k s
  | .code c :: k => match c with
    | .skip => D k st
    | .label _ => D k st
    | .seq a b => D (.code a :: .code b :: k) st
    | .cond c x y => match opd st [] c with
      | .bool b => bif b then D (.code x :: k) st else D (.code y :: k) st
      | _ => none
    | .block id b => D (.code b :: .blk id :: k) st
    | .loop b => loopK fn b k st D
    | .exit id => match exitItems id k with
      | some k' => D k' st
      | none => none
    | .ret => finish cx fn.nr fn.nb fn.mv fn.rs (prep fn.pre st.noG)
    | .region id ops draw => match look fn.joins id with
      | some sp => match canon fn.nr fn.nb sp st with
        | some s => D (.now id ops draw :: k) s
        | none => none
      | none => regionK cx ops draw (fzAt fn id st) fun s => D k s
    | _ => none

/-- So many steps. -/
def evalN (cx : Cx) (fn : Fn) : Nat → List It → St → Option R
  | 0, _, _ => none
  | n + 1, todo, st => stepK cx fn todo st (evalN cx fn n)

/-- The meaning: what enough steps give. -/
noncomputable def eval (cx : Cx) (fn : Fn) (todo : List It) (st : St) : Option R :=
  open Classical in
  if h : ∃ n r, evalN cx fn n todo st = some r then some h.choose_spec.choose else none

end Go.VS
