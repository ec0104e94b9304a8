/- What is squeezed comes back, and how long it is at most: in plain words. -/
import Derived.Test.YtljfmcgeiceagaaSqDec
namespace Go.Proofs.Ytljfmcgeiceagaa
open Go Go.RowKit
set_option linter.unusedVariables false
set_option linter.unusedSimpArgs false

theorem wr_tokens {t : List Nat} (h : t.length ≤ 4096) : wr (tokens t) = (blk t.length (tokens t), 0) := wr_ok (exp_tokens h)
theorem rd_enc {t : List Nat} (hb : By t) (h : t.length ≤ 4096) : rd (blk t.length (tokens t)) = (tokens t, 0) :=
  rd_of_wr (by_blk hb) (by have := blk_len (t := t) (by omega); omega) (wr_tokens h)
theorem dec_enc {t : List Nat} (hb : By t) (h : t.length ≤ 4096) : dec (blk t.length (tokens t)) = (t, 0) := by
  rw [dec_some (rd_enc hb h) (exp_tokens h), if_pos rfl]
theorem dec_cases {b : List Nat} (hb : By b) (hl : b.length ≤ 140737488351232) : dec b = ([], 20) ∨ ∃ t, dec b = (t, 0) ∧ enc t = (b, 0) ∧ t.length ≤ 4096 ∧ By t := by
  rcases rd_code b with h | ⟨ts, h⟩
  · exact .inl (dec_bad h)
  · obtain ⟨T, hx, hT4, hbs⟩ := wr_cases (wr_of_rd hb hl h)
    rw [dec_some h hx]
    by_cases hy : blk T.length (tokens T) = b
    · rw [if_pos hy]
      exact .inr ⟨T, rfl, by rw [enc_short (by omega), hy], hT4, by_exp hx (rd_by hb h hl)⟩
    · rw [if_neg hy]
      exact .inl rfl
/-- What is read as tokens: what they are written as, and what they add up to. -/
theorem rd_full {b : List Nat} (hb : By b) (hl : b.length ≤ 140737488351232) {ts : List Tk} (h : rd b = (ts, 0)) : ∃ T, exp [] ts = (T, 0) ∧ T.length ≤ 4096 ∧ wr ts = (b, 0) ∧ By T ∧ dec b = if blk T.length (tokens T) = b then (T, 0) else ([], 20) := by
  have hw := wr_of_rd hb hl h
  obtain ⟨T, hx, hT4, hbs⟩ := wr_cases hw
  exact ⟨T, hx, hT4, hw, by_exp hx (rd_by hb h hl), dec_some h hx⟩

/-- Literals, matches, and the bytes that they add up to. -/
def nl (ts : List Tk) : Nat := (ts.filter (fun t => decide (0 < t.lit.length))).length
def nm (ts : List Tk) : Nat := (ts.filter (fun t => !decide (0 < t.lit.length))).length
def nb : List Tk → Nat
  | [] => 0
  | t :: r => t.lit.length + t.l.toNat + nb r
theorem nl_lit {t : Tk} (h : 0 < t.lit.length) (r : List Tk) : nl (t :: r) = nl r + 1 ∧ nm (t :: r) = nm r := by simp [nl, nm, h]
theorem nl_match {t : Tk} (h : ¬ 0 < t.lit.length) (r : List Tk) : nl (t :: r) = nl r ∧ nm (t :: r) = nm r + 1 := by
  have h0 : t.lit = [] := List.eq_nil_of_length_eq_zero (by omega)
  simp [nl, nm, h0]
theorem exp_nb : ∀ {ts : List Tk} {T Z : List Nat}, exp T ts = (Z, 0) → Z.length = T.length + nb ts
  | [], T, Z, h => by simp only [exp, Prod.mk.injEq, and_true] at h; subst h; simp [nb]
  | t :: r, T, Z, h => by
    unfold exp at h
    split at h
    · split at h
      · simp at h
      · have := exp_nb h
        rw [addTk_length] at this
        rw [this, nb]
        omega
    · simp at h
theorem uv2 {v : Nat} (h : v < 16384) : (Uv.uv v).length ≤ 2 := Uv.uv_len_pow 1 v (by simpa using h)
theorem uv1 {v : Nat} (h : v < 128) : (Uv.uv v).length = 1 := by rw [Uv.uv_small h]; rfl
/-- A list's length, by its literals and matches. -/
theorem bt_sum (M : Nat) : ∀ (ts : List Tk), (∀ t ∈ ts, Fine t) → (∀ t ∈ ts, 0 < t.lit.length → (Uv.uv (2 * t.lit.length)).length ≤ M) → (ts.flatMap bt).length + 2 * nm ts ≤ nb ts + M * nl ts
  | [], _, _ => by simp [nb, nm, nl]
  | t :: r, hf, hM => by
    have ih := bt_sum M r (fun x hx => hf x (List.mem_cons_of_mem _ hx)) (fun x hx => hM x (List.mem_cons_of_mem _ hx))
    have hft := hf t (List.mem_cons_self ..)
    rw [List.flatMap_cons, List.length_append, nb]
    by_cases h : 0 < t.lit.length
    · have h1 := hM t (List.mem_cons_self ..) h
      obtain ⟨e1, e2⟩ := nl_lit h r
      rw [e1, e2, bt_lit h, List.length_append, Nat.mul_add]
      omega
    · obtain ⟨e1, e2⟩ := nl_match h r
      rw [e1, e2, bt_match h, List.length_append]
      rcases hft.cases with h1 | h1
      · exact absurd h1.1 h
      · have h2 : 5 ≤ t.l ∧ t.l ≤ 258 ∧ 1 ≤ t.d ∧ t.d ≤ 2048 := h1.2
        have h3 := uv2 (v := t.d.toNat) (by omega)
        have h4 := uv2 (v := 2 * t.l.toNat + 1) (by omega)
        by_cases h5 : t.l ≤ 63
        · have h6 := uv1 (v := 2 * t.l.toNat + 1) (by omega)
          omega
        · omega
theorem nl_append (a b : List Tk) : nl (a ++ b) = nl a + nl b ∧ nm (a ++ b) = nm a + nm b := by simp [nl, nm]
theorem nl_flush (lit : List Nat) : nl (flush lit) ≤ 1 ∧ nm (flush lit) = 0 := by
  unfold flush
  split
  · simp [nl, nm]
  · rename_i h
    have h0 : 0 < lit.length := by cases lit with | nil => exact absurd rfl h | cons => simp
    have := nl_lit (t := ⟨lit, 0, 0⟩) h0 []
    rw [this.1, this.2]
    simp [nl, nm]
theorem nl_tok (t : List Nat) : ∀ f i lit, nl (tok t f i lit) ≤ nm (tok t f i lit) + 1
  | 0, i, lit => by rw [tok]; have := nl_flush lit; omega
  | f + 1, i, lit => by
    unfold tok
    split
    · split
      · exact nl_tok t f _ _
      · have h1 := nl_flush lit
        have h2 := nl_match (t := ⟨[], ((best t i).2 : Nat), ((best t i).1 : Nat)⟩) (by simp) (tok t f (i + (best t i).1) [])
        have h3 := nl_tok t f (i + (best t i).1) []
        rw [(nl_append _ _).1, (nl_append _ _).2, h2.1, h2.2]
        omega
    · have := nl_flush lit; omega
/-- The greatest length of a block. -/
def bnd (n : Nat) : Nat := if n = 0 then 1 else (Uv.uv n).length + (Uv.uv (2 * n)).length + n
theorem blk_bnd {t : List Nat} (h : t.length ≤ 4096) : (blk t.length (tokens t)).length ≤ bnd t.length ∧ 1 ≤ (blk t.length (tokens t)).length := by
  have hx := exp_tokens h
  have hf := (fine_of_exp hx).1
  have hn := exp_nb hx
  have hk := nl_tok t t.length 0 []
  have hu := Uv.uv_pos t.length
  unfold blk
  rw [List.length_append]
  refine ⟨?_, by omega⟩
  by_cases h0 : t.length = 0
  · have : t = [] := List.eq_nil_of_length_eq_zero h0
    subst this
    simp [tokens, tok, flush, bnd, uv1 (v := 0) (by omega)]
  · unfold bnd
    rw [if_neg h0]
    have hM2 := uv2 (v := 2 * t.length) (by omega)
    have hM1 := Uv.uv_pos (2 * t.length)
    have hall : ∀ x ∈ tokens t, 0 < x.lit.length → (Uv.uv (2 * x.lit.length)).length ≤ (Uv.uv (2 * t.length)).length := by
      intro x hx' _
      refine Uv.uv_len_mono _ _ ?_
      have : ∀ (l : List Tk), x ∈ l → x.lit.length ≤ nb l := by
        intro l
        induction l with
        | nil => intro h; cases h
        | cons y r ih =>
          intro h
          rw [nb]
          rcases List.mem_cons.1 h with rfl | h
          · omega
          · have := ih h; omega
      have := this _ hx'
      simp only [List.length_nil] at hn
      omega
    have hs := bt_sum (Uv.uv (2 * t.length)).length (tokens t) hf hall
    simp only [List.length_nil] at hn
    have hk' : nl (tokens t) ≤ nm (tokens t) + 1 := hk
    generalize (Uv.uv (2 * t.length)).length = M at *
    rcases (show M = 1 ∨ M = 2 by omega) with rfl | rfl <;> omega
theorem head_tokens : tokens [97, 97, 97, 97, 97, 97] = [⟨[97], 0, 0⟩, ⟨[], 1, 5⟩] := by rfl
theorem head_enc : blk 6 (tokens [97, 97, 97, 97, 97, 97]) = [6, 2, 97, 11, 1] := by
  rw [head_tokens]
  simp [blk, bt, Uv.uv_small]
end Go.Proofs.Ytljfmcgeiceagaa
