/- The cursor that draws: what it yields. -/
import Derived.Test.YtnibmainjgcmaaaG0
set_option linter.unusedVariables false
set_option linter.unusedSimpArgs false
namespace Go.VS

theorem wr_i64 {x : Int} (h : -9223372036854775808 ≤ x ∧ x < 9223372036854775808) : IntKind.wrap .i64 x = x := by
  rw [IntKind.wrap_i64]; omega

theorem wr_u64 {n : Nat} (h : n < 256) : IntKind.wrap .u64 (n : Int) = n := by
  simp [IntKind.wrap, IntKind.bits, IntKind.signed]
  omega

theorem band_255 (a : Int) : 0 ≤ Pr.std.band .u64 a 255 ∧ Pr.std.band .u64 a 255 < 256 := by
  show 0 ≤ IntKind.wrap .u64 (((BitVec.ofInt 64 a &&& BitVec.ofInt 64 255).toNat : Nat) : Int) ∧ IntKind.wrap .u64 (((BitVec.ofInt 64 a &&& BitVec.ofInt 64 255).toNat : Nat) : Int) < 256
  have h : (BitVec.ofInt 64 a &&& BitVec.ofInt 64 255).toNat < 256 := by
    rw [BitVec.toNat_and]
    have : (BitVec.ofInt 64 255).toNat = 255 := rfl
    rw [this]
    exact Nat.lt_of_le_of_lt Nat.and_le_right (by omega)
  rw [wr_u64 h]
  omega

/-- A cursor that has not come far. -/
def CurOk (code : List Int) (at0 : Int) : Prop := (∀ n ∈ code, 0 ≤ n ∧ n < 256) ∧ 0 ≤ at0 ∧ at0 < 4611686018427387904

theorem getD_mem {xs : List Int} {i : Nat} {d : Int} (h : i < xs.length) : xs.getD i d ∈ xs := by
  rw [show xs.getD i d = xs[i] by simp [List.getD, h]]
  exact List.getElem_mem h

theorem next_ok {code : List Int} {at0 seed : Int} (h : (∀ n ∈ code, 0 ≤ n ∧ n < 256) ∧ 0 ≤ at0 ∧ at0 < 9223372036854775807) : ∃ b s, spec_l1Cur_next.X (code, at0, seed) = some (b, code, at0 + 1, s) ∧ 0 ≤ b ∧ b < 256 := by
  obtain ⟨hb, h0, h1⟩ := h
  have e1 : IntKind.wrap .i64 (at0 + 1) = at0 + 1 := wr_i64 (by omega)
  rw [spec_l1Cur_next.X_eq]
  unfold spec_l1Cur_next.T
  simp only [std_fi]
  cases hc : Pr.std.lt at0 ((code.length : Nat) : Int) with
  | true =>
    have hlt : at0 < code.length := of_decide_eq_true hc
    have hin : Pr.std.inR at0 code.length = true := by
      show inRange _ _ = true
      simp [inRange, h0, hlt]
    have hm := hb _ (getD_mem (d := 0) (show at0.toNat < code.length by omega))
    have e2 : Pr.std.wr .i64 (Pr.std.gd code at0.toNat 0) = code.getD at0.toNat 0 := wr_i64 (by show _ ≤ code.getD at0.toNat 0 ∧ code.getD at0.toNat 0 < _; omega)
    have hle : Pr.std.le (Pr.std.wr .i64 (at0 + 1)) ((code.length : Nat) : Int) = true := by
      show decide (IntKind.wrap .i64 (at0 + 1) ≤ _) = true
      rw [e1]; simp; omega
    simp only [cond_true, hin, if_true, hle]
    rw [e2, show Pr.std.wr .i64 (at0 + 1) = at0 + 1 from e1]
    exact ⟨_, _, rfl, hm.1, hm.2⟩
  | false =>
    have hge : ¬ at0 < code.length := of_decide_eq_false hc
    have hle : Pr.std.le (Pr.std.wr .i64 (at0 + 1)) ((code.length : Nat) : Int) = false := by
      show decide (IntKind.wrap .i64 (at0 + 1) ≤ _) = false
      rw [e1]; simp; omega
    simp only [cond_false, hle]
    rw [show Pr.std.wr .i64 (at0 + 1) = at0 + 1 from e1]
    have hband := band_255 (Pr.std.shr .u64 (Pr.std.wr .u64 ((Pr.std.wr .u64 ((Pr.std.wr .u64 (seed * 6364136223846793005)) + 0)) + 1442695040888963407)) 40)
    refine ⟨_, _, rfl, ?_, ?_⟩
    · rw [show Pr.std.wr .i64 = IntKind.wrap .i64 from rfl, wr_i64 (by omega)]; exact hband.1
    · rw [show Pr.std.wr .i64 = IntKind.wrap .i64 from rfl, wr_i64 (by omega)]; exact hband.2

theorem tmod_range {x n : Int} (hx : 0 ≤ x) (hn : 0 < n) : 0 ≤ Int.tmod x n ∧ Int.tmod x n < n :=
  ⟨Int.tmod_nonneg n hx, Int.tmod_lt_of_pos x hn⟩

/-- A pick among n. -/
theorem pick_ok {code : List Int} {at0 seed n : Int} (h : CurOk code at0) (hn : n < 4611686018427387904) : ∃ r a s, spec_l1Cur_pick.X (n, code, at0, seed) = some (r, code, a, s) ∧ at0 ≤ a ∧ a ≤ at0 + 2 ∧ 0 ≤ r ∧ (n ≤ 1 → r = 0) ∧ (1 < n → r < n) := by
  rw [spec_l1Cur_pick.X_eq]
  unfold spec_l1Cur_pick.T
  simp only [std_fi, std_fh]
  cases hc : Pr.std.le n 1 with
  | true =>
    have : n ≤ 1 := of_decide_eq_true hc
    exact ⟨0, at0, seed, rfl, by omega, by omega, by omega, fun _ => rfl, by omega⟩
  | false =>
    have h1 : ¬ n ≤ 1 := of_decide_eq_false hc
    obtain ⟨b, s, e, b0, b1⟩ := next_ok (seed := seed) (show _ ∧ _ ∧ _ from ⟨h.1, h.2.1, by have := h.2; omega⟩)
    have hne : Pr.std.ne n 0 = true := by show (n != 0) = true; simp; omega
    simp only [cond_false, e, Option.bind_some, hne, if_true]
    cases hg : Pr.std.gt n 200 with
    | true =>
      obtain ⟨b2, s2, e2, c0, c1⟩ := next_ok (code := code) (at0 := at0 + 1) (seed := s) ⟨h.1, by have := h.2; omega, by have := h.2; omega⟩
      simp only [cond_true, e2, Option.bind_some]
      have w1 : Pr.std.wr .i64 (b * 256) = b * 256 := wr_i64 (by omega)
      rw [w1]
      have w2 : Pr.std.wr .i64 (b * 256 + b2) = b * 256 + b2 := wr_i64 (by omega)
      rw [w2]
      have := tmod_range (x := b * 256 + b2) (n := n) (by omega) (by omega)
      exact ⟨_, _, _, rfl, by omega, by omega, this.1, by omega, fun _ => this.2⟩
    | false =>
      simp only [cond_false]
      have := tmod_range (x := b) (n := n) (by omega) (by omega)
      exact ⟨_, _, _, rfl, by omega, by omega, this.1, by omega, fun _ => this.2⟩

/-- A pick from a list. -/
theorem among_ok {code list : List Int} {at0 seed : Int} (h : CurOk code at0) (hl : 0 < list.length) (hl2 : (list.length : Int) < 4611686018427387904) : ∃ r a s, spec_l1Cur_among.X (list, code, at0, seed) = some (r, list, code, a, s) ∧ at0 ≤ a ∧ a ≤ at0 + 2 ∧ r ∈ list := by
  rw [spec_l1Cur_among.X_eq]
  unfold spec_l1Cur_among.T
  simp only [std_fi, std_fh]
  obtain ⟨r, a, s, e, h1, h2, h3, h4, h5⟩ := pick_ok (seed := seed) h hl2
  have h6 : r < list.length := by
    rcases Int.lt_or_le 1 (list.length : Int) with h7 | h7
    · exact h5 h7
    · rw [h4 h7]; omega
  have hin : Pr.std.inR r list.length = true := by
    show inRange _ _ = true
    simp [inRange, h3, h6]
  have hn : Pr.std.nlt r.toNat list.length = true := by
    show decide (r.toNat < list.length) = true
    simp; omega
  simp only [e, Option.bind_some, hin, hn, if_true]
  exact ⟨_, _, _, rfl, h1, h2, getD_mem (by omega)⟩

end Go.VS
/- What DrawAllLangford can yield. -/
set_option linter.unusedVariables false
set_option linter.unusedSimpArgs false
namespace Go.VS
theorem langDraw {code : List Int} (h : ∀ n ∈ code, 0 ≤ n ∧ n < 256) : ∃ n d, spec_DrawAllLangford.X code = some (n, d) ∧ n ∈ [(1 : Int), 3, 4, 5, 6, 7, 0, 10] ∧ d ∈ [(1 : Int), 2, 3, 0, 11, 12] := by
  rw [spec_DrawAllLangford.X_eq]
  unfold spec_DrawAllLangford.T
  rw [spec_DrawCountLangford.X_eq]
  unfold spec_DrawCountLangford.T
  simp only [std_fi, std_fh, std_fl]
  obtain ⟨r, a, s, e, h1, h2, h3⟩ := among_ok (code := code) (seed := 0) (at0 := 0) (list := [(1 : Int), (3 : Int), (4 : Int), (5 : Int), (6 : Int), (7 : Int), (4 : Int), (3 : Int), (7 : Int), (0 : Int), (10 : Int)]) ⟨h, by omega, by omega⟩ (by decide) (by decide)
  simp only [e, Option.bind_some]
  obtain ⟨r2, a2, s2, e2, _, _, h4⟩ := among_ok (code := code) (seed := s) (at0 := a) (list := [(1 : Int), (1 : Int), (1 : Int), (2 : Int), (3 : Int), (0 : Int), (11 : Int), (12 : Int)]) ⟨h, by omega, by omega⟩ (by decide) (by decide)
  simp only [e2, Option.bind_some]
  refine ⟨_, _, rfl, ?_, ?_⟩
  · simp at h3 ⊢; omega
  · simp at h4 ⊢; omega
end Go.VS
