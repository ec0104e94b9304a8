/- Several texts in one: SqGreedy, SqRdP, SqTs, SqRead, SqRNum, SqRRead, SqApart1. -/
import Derived.Test.YtljfmcgeiceagaaGreatS1
import Derived.Test.YtljfmcgeiceagaaGreatF1
import Derived.Test.YtljfmcgeiceagaaGreatF4
import Derived.Test.YtljfmcgeiceagaaGreatS2
/- The pieces of a text, found from the left: in plain words. -/
namespace Go.Proofs.YtljfmcgeiceagaaGreat
open Go Go.RowKit
set_option linter.unusedVariables false
set_option linter.unusedSimpArgs false

/-- How long a match from the place i at the distance d is. -/
def mlF (t : List Nat) (i d : Nat) : Nat → Nat → Nat
  | 0, n => n
  | f + 1, n => if i + n < t.length ∧ t.getD (i + n) 0 = t.getD (i + n - d) 0 then mlF t i d f (n + 1) else n
def ml (t : List Nat) (i d : Nat) : Nat := mlF t i d 258 0

theorem mlF_le (t : List Nat) (i d : Nat) : ∀ f n, mlF t i d f n ≤ n + f
  | 0, n => Nat.le_refl _
  | f + 1, n => by
    unfold mlF
    split
    · have := mlF_le t i d f (n + 1); omega
    · omega
theorem mlF_len (t : List Nat) (i d : Nat) : ∀ f n, i + n ≤ t.length → i + mlF t i d f n ≤ t.length
  | 0, n, h => h
  | f + 1, n, h => by
    unfold mlF
    split
    · rename_i h1; exact mlF_len t i d f (n + 1) (by omega)
    · exact h
theorem mlF_eq (t : List Nat) (i d : Nat) : ∀ f n k, n ≤ k → k < mlF t i d f n → t.getD (i + k) 0 = t.getD (i + k - d) 0
  | 0, n, k, h, h' => by simp only [mlF] at h'; omega
  | f + 1, n, k, h, h' => by
    unfold mlF at h'
    split at h'
    · rename_i h1
      rcases Nat.eq_or_lt_of_le h with rfl | h2
      · exact h1.2
      · exact mlF_eq t i d f (n + 1) k h2 h'
    · omega
theorem ml_le (t : List Nat) (i d : Nat) : ml t i d ≤ 258 := by have := mlF_le t i d 258 0; unfold ml; omega
theorem ml_len {t : List Nat} {i : Nat} (d : Nat) (h : i ≤ t.length) : i + ml t i d ≤ t.length := mlF_len t i d 258 0 (by omega)
theorem ml_eq {t : List Nat} {i d k : Nat} (h : k < ml t i d) : t.getD (i + k) 0 = t.getD (i + k - d) 0 := mlF_eq t i d 258 0 k (Nat.zero_le _) h
/-- The longest match at distances up to D, the nearest of them. -/
def bst (t : List Nat) (i : Nat) : Nat → Nat × Nat
  | 0 => (0, 0)
  | d + 1 => if (bst t i d).1 < ml t i (d + 1) then (ml t i (d + 1), d + 1) else bst t i d
def best (t : List Nat) (i : Nat) : Nat × Nat := if (bst t i (min i 2048)).1 < 5 then (0, 0) else bst t i (min i 2048)

theorem bst_most (t : List Nat) (i : Nat) : ∀ D d, 1 ≤ d → d ≤ D → ml t i d ≤ (bst t i D).1
  | 0, d, h, h1 => by omega
  | D + 1, d, h, h1 => by
    unfold bst
    rcases Nat.eq_or_lt_of_le h1 with rfl | h2
    · split
      · exact Nat.le_refl _
      · omega
    · have := bst_most t i D d h (by omega)
      split
      · simp only; omega
      · exact this
theorem bst_at (t : List Nat) (i : Nat) : ∀ D, bst t i D = (0, 0) ∨ ∃ d, bst t i D = (ml t i d, d) ∧ 1 ≤ d ∧ d ≤ D ∧ 0 < ml t i d ∧ ∀ d', 1 ≤ d' → d' < d → ml t i d' < ml t i d
  | 0 => .inl rfl
  | D + 1 => by
    have hm := bst_most t i D
    unfold bst
    split
    · rename_i h
      refine .inr ⟨D + 1, rfl, by omega, Nat.le_refl _, by omega, fun d' h1 h2 => ?_⟩
      have := hm d' h1 (by omega)
      omega
    · rcases bst_at t i D with h | ⟨d, h1, h2, h3, h4, h5⟩
      · exact .inl h
      · exact .inr ⟨d, h1, h2, by omega, h4, h5⟩
theorem bst_stop {t : List Nat} {i D D' : Nat} (hi : i ≤ t.length) (h : (bst t i D).1 = 258 ∨ i + (bst t i D).1 = t.length) (hD : D ≤ D') : bst t i D' = bst t i D := by
  induction D' with
  | zero => rw [show D = 0 by omega]
  | succ n ih =>
    rcases Nat.eq_or_lt_of_le hD with rfl | h2
    · rfl
    · have e := ih (by omega)
      have h3 := ml_le t i (n + 1)
      have h4 := ml_len (n + 1) hi
      rw [bst, e, if_neg (by omega)]

/-- What is the best match, in words. -/
theorem best_is (t : List Nat) (i : Nat) (hi : i ≤ t.length) : (best t i = (0, 0) ∧ ∀ d, 1 ≤ d → d ≤ i → d ≤ 2048 → ml t i d < 5) ∨
    ∃ n d, best t i = (n, d) ∧ 5 ≤ n ∧ n ≤ 258 ∧ 1 ≤ d ∧ d ≤ i ∧ d ≤ 2048 ∧ i + n ≤ t.length ∧ ml t i d = n ∧ (∀ d', 1 ≤ d' → d' ≤ i → d' ≤ 2048 → ml t i d' ≤ n) ∧ ∀ d', 1 ≤ d' → d' < d → ml t i d' < n := by
  have hm := bst_most t i (min i 2048)
  unfold best
  split
  · rename_i h
    exact .inl ⟨rfl, fun d h1 h2 h3 => by have := hm d h1 (by omega); omega⟩
  · rename_i h
    rcases bst_at t i (min i 2048) with h0 | ⟨d, h1, h2, h3, h4, h5⟩
    · rw [h0] at h; simp at h
    · rw [h1] at h hm ⊢
      have := ml_le t i d
      have := ml_len d hi
      exact .inr ⟨ml t i d, d, rfl, by omega, by omega, h2, by omega, by omega, by omega, rfl, fun d' a b c => hm d' a (by omega), h5⟩
theorem best_none {t : List Nat} {i : Nat} (hi : i ≤ t.length) (h : ∀ d, 1 ≤ d → d ≤ i → d ≤ 2048 → ml t i d < 5) : best t i = (0, 0) := by
  rcases best_is t i hi with h1 | ⟨n, d, _, h2, h3, h4, h5, h6, h7, h8, _⟩
  · exact h1.1
  · have := h d h4 h5 h6; omega
/-- The pieces from a place on; lit: what has been gathered. -/
def flush (lit : List Nat) : List Tk := if lit = [] then [] else [⟨lit, 0, 0⟩]
def tok (t : List Nat) : Nat → Nat → List Nat → List Tk
  | 0, i, lit => flush lit
  | f + 1, i, lit => if i < t.length then (if (best t i).1 = 0 then tok t f (i + 1) (lit ++ [t.getD i 0]) else flush lit ++ ⟨[], ((best t i).2 : Nat), ((best t i).1 : Nat)⟩ :: tok t f (i + (best t i).1) []) else flush lit
def tokens (t : List Nat) : List Tk := tok t t.length 0 []

theorem tok_end {t : List Nat} {i : Nat} (h : t.length ≤ i) (f : Nat) (lit : List Nat) : tok t f i lit = flush lit := by
  cases f with
  | zero => rfl
  | succ f => rw [tok, if_neg (by omega)]
theorem tok_lit {t : List Nat} {i : Nat} (h : i < t.length) (h1 : (best t i).1 = 0) (f : Nat) (lit : List Nat) : tok t (f + 1) i lit = tok t f (i + 1) (lit ++ [t.getD i 0]) := by
  rw [tok, if_pos h, if_pos h1]
theorem tok_match {t : List Nat} {i : Nat} (h : i < t.length) (h1 : (best t i).1 ≠ 0) (f : Nat) (lit : List Nat) : tok t (f + 1) i lit = flush lit ++ ⟨[], ((best t i).2 : Nat), ((best t i).1 : Nat)⟩ :: tok t f (i + (best t i).1) [] := by
  rw [tok, if_pos h, if_neg h1]
theorem rt_lit {lit : List Nat} (h : lit ≠ []) (n : Nat) : rt ⟨lit, 0, 0⟩ n = true := by
  have h0 : 0 < lit.length := by cases lit with | nil => exact absurd rfl h | cons => simp
  unfold rt
  simp only
  rw [if_pos h0]
  rfl
theorem exp_flush {text lit : List Nat} (h : text.length + lit.length ≤ 4096) (r : List Tk) : exp text (flush lit ++ r) = exp (text ++ lit) r := by
  unfold flush
  split
  · rename_i h0; subst h0; simp
  · rename_i h0
    rw [List.singleton_append, exp, if_pos (rt_lit h0 _), if_neg (by simp; omega)]
    rfl
theorem copy_take {t : List Nat} {i d n : Nat} (hd : 1 ≤ d) (hdi : d ≤ i) (hi : i + n ≤ t.length) (h : ∀ k, k < n → t.getD (i + k) 0 = t.getD (i + k - d) 0) : ∀ k, k ≤ n → copyN (t.take i) d k = t.take (i + k)
  | 0, _ => by simp [copyN]
  | k + 1, hk => by
    have ih := copy_take hd hdi hi h k (by omega)
    rw [copyN, ih, addOne, List.length_take, Nat.min_eq_left (by omega)]
    have e := h k (by omega)
    have hl : i + k < t.length := by omega
    rw [show i + (k + 1) = (i + k) + 1 by omega, List.take_succ_eq_append_getElem hl]
    congr 2
    have h1 : (t.take (i + k)).getD (i + k - d) 0 = t.getD (i + k - d) 0 := by
      simp only [List.getD_eq_getElem?_getD, List.getElem?_take]
      rw [if_pos (by omega)]
    rw [h1, ← e, List.getD_eq_getElem?_getD, List.getElem?_eq_getElem hl]
    rfl
theorem exp_tok {t : List Nat} (h : t.length ≤ 4096) : ∀ f i text lit, t.length ≤ i + f → i ≤ t.length → text ++ lit = t.take i → exp text (tok t f i lit) = (t, 0)
  | f, i, text, lit, hf, hi, he => by
    have hl : text.length + lit.length = i := by
      have := congrArg List.length he
      rw [List.length_append, List.length_take] at this
      omega
    by_cases hlt : i < t.length
    · cases f with
      | zero => omega
      | succ f =>
        by_cases hb : (best t i).1 = 0
        · rw [tok_lit hlt hb]
          refine exp_tok h f (i + 1) text _ (by omega) hlt ?_
          rw [← List.append_assoc, he, List.take_succ_eq_append_getElem hlt, List.getD_eq_getElem?_getD, List.getElem?_eq_getElem hlt]
          rfl
        · rw [tok_match hlt hb, exp_flush (by omega), he]
          rcases best_is t i hi with hn | ⟨n, d, e, b1, b2, b3, b4, b5, b6, b7, _⟩
          · rw [hn.1] at hb; exact absurd rfl hb
          · rw [e]
            simp only
            have hlen : (t.take i).length = i := by rw [List.length_take]; omega
            have hrt : rt ⟨[], (d : Int), (n : Int)⟩ (t.take i).length = true := by
              unfold rt
              simp only [List.length_nil, Nat.lt_irrefl, if_false, decide_eq_true_eq]
              omega
            have hadd : addTk (t.take i) ⟨[], (d : Int), (n : Int)⟩ = t.take (i + n) := by
              unfold addTk
              simp only [List.append_nil, Int.toNat_natCast]
              exact copy_take b3 b4 b6 (fun k hk => ml_eq (by rw [b7]; exact hk)) n (Nat.le_refl _)
            rw [exp, if_pos hrt, if_neg (by simp; omega), hadd]
            exact exp_tok h f (i + n) _ [] (by omega) b6 (by simp)
    · rw [tok_end (by omega)]
      have := exp_flush (r := []) (text := text) (lit := lit) (by omega)
      rw [List.append_nil] at this
      rw [this, he, List.take_of_length_le (by omega)]
      rfl
/-- What a text's own pieces add up to. -/
theorem exp_tokens {t : List Nat} (h : t.length ≤ 4096) : exp [] (tokens t) = (t, 0) := exp_tok h _ _ _ _ (by omega) (by omega) (by simp)

/-- The number of five bytes. -/
def hsF (t : List Nat) (p : Nat) : Nat → Nat
  | 0 => 0
  | k + 1 => (hsF t p k * 31 + t.getD (p + k) 0) % 4294967296
def hs (t : List Nat) (p : Nat) : Nat := hsF t p 5 % 1024
theorem hsF_eq {t : List Nat} {p q : Nat} : ∀ {k : Nat}, (∀ j, j < k → t.getD (p + j) 0 = t.getD (q + j) 0) → hsF t p k = hsF t q k
  | 0, _ => rfl
  | k + 1, h => by rw [hsF, hsF, hsF_eq (fun j hj => h j (by omega)), h k (by omega)]
theorem hs_eq {t : List Nat} {p q : Nat} (h : ∀ j, j < 5 → t.getD (p + j) 0 = t.getD (q + j) 0) : hs t p = hs t q := by unfold hs; rw [hsF_eq h]
theorem hs_lt (t : List Nat) (p : Nat) : hs t p < 1024 := Nat.mod_lt _ (by omega)

/-- The place (and 1) at which a number came last, of the places below m; 0: none. -/
def lastOf (t : List Nat) : Nat → Nat → Nat
  | 0, n => 0
  | m + 1, n => if m + 5 ≤ t.length ∧ hs t m = n then m + 1 else lastOf t m n
theorem lastOf_le (t : List Nat) (n : Nat) : ∀ m, lastOf t m n ≤ m
  | 0 => Nat.le_refl _
  | m + 1 => by
    unfold lastOf
    split
    · exact Nat.le_refl _
    · exact Nat.le_trans (lastOf_le t n m) (Nat.le_succ m)
theorem lastOf_pos {t : List Nat} {n p : Nat} : ∀ {m}, lastOf t m n = p + 1 → p < m ∧ p + 5 ≤ t.length ∧ hs t p = n
  | 0, h => by simp [lastOf] at h
  | m + 1, h => by
    unfold lastOf at h
    split at h
    · rename_i h1
      have : m = p := by omega
      subst this
      exact ⟨by omega, h1.1, h1.2⟩
    · have := lastOf_pos h
      exact ⟨by omega, this.2⟩
theorem lastOf_gap {t : List Nat} {n q : Nat} : ∀ {m}, lastOf t m n ≤ q → q < m → q + 5 ≤ t.length → hs t q ≠ n
  | 0, _, h, _ => by omega
  | m + 1, h, h1, h2 => by
    unfold lastOf at h
    split at h
    · omega
    · rename_i h3
      rcases Nat.eq_or_lt_of_le (Nat.lt_succ_iff.1 h1) with rfl | h4
      · exact fun e => h3 ⟨h2, e⟩
      · exact lastOf_gap h h4 h2

/-- The best match, of those that are matches. -/
def bs5 (t : List Nat) (i : Nat) : Nat → Nat × Nat
  | 0 => (0, 0)
  | d + 1 => if 5 ≤ ml t i (d + 1) ∧ (bs5 t i d).1 < ml t i (d + 1) then (ml t i (d + 1), d + 1) else bs5 t i d
theorem bs5_bst (t : List Nat) (i : Nat) : ∀ D, bs5 t i D = if (bst t i D).1 < 5 then (0, 0) else bst t i D
  | 0 => rfl
  | D + 1 => by
    have ih := bs5_bst t i D
    unfold bs5 bst
    rw [ih]
    by_cases h : (bst t i D).1 < 5
    · rw [if_pos h]
      by_cases h1 : (bst t i D).1 < ml t i (D + 1)
      · rw [if_pos h1]
        by_cases h2 : 5 ≤ ml t i (D + 1)
        · rw [if_pos ⟨h2, by simp only; omega⟩, if_neg (by simp only; omega)]
        · rw [if_neg (fun h => h2 h.1), if_pos (by simp only; omega)]
      · rw [if_neg h1, if_pos h, if_neg (by simp only; omega)]
    · rw [if_neg h]
      by_cases h1 : (bst t i D).1 < ml t i (D + 1)
      · rw [if_pos h1, if_pos ⟨by omega, h1⟩, if_neg (by simp only; omega)]
      · rw [if_neg h1, if_neg (fun h => h1 h.2), if_neg h]
theorem bs5_best (t : List Nat) (i : Nat) : bs5 t i (min i 2048) = best t i := bs5_bst t i _
theorem bs5_skip {t : List Nat} {i D : Nat} : ∀ {D'}, D ≤ D' → (∀ d, D < d → d ≤ D' → ml t i d < 5) → bs5 t i D' = bs5 t i D
  | 0, h, _ => by rw [show D = 0 by omega]
  | D' + 1, h, h1 => by
    rcases Nat.eq_or_lt_of_le h with rfl | h2
    · rfl
    · have := h1 (D' + 1) h2 (Nat.le_refl _)
      rw [bs5, if_neg (by omega)]
      exact bs5_skip (by omega) (fun d a b => h1 d a (by omega))
theorem bs5_full {t : List Nat} {i D : Nat} (h : (bs5 t i D).1 = 258) : ∀ {D'}, D ≤ D' → bs5 t i D' = bs5 t i D
  | 0, hD => by rw [show D = 0 by omega]
  | D' + 1, hD => by
    rcases Nat.eq_or_lt_of_le hD with rfl | h2
    · rfl
    · have e := bs5_full h (D' := D') (by omega)
      have := ml_le t i (D' + 1)
      rw [bs5, e, if_neg (by omega)]
theorem ml5_hs {t : List Nat} {i d : Nat} (h : 5 ≤ ml t i d) (hi : i ≤ t.length) (hd : d ≤ i) : hs t (i - d) = hs t i ∧ i - d + 5 ≤ t.length := by
  have := ml_len d hi
  refine ⟨hs_eq (fun j hj => ?_), by omega⟩
  rw [ml_eq (show j < ml t i d by omega), show i + j - d = i - d + j by omega]
/-- Between two places of a chain there is no match. -/
theorem chain_skip {t : List Nat} {i x : Nat} (hi : i ≤ t.length) (hx : x ≤ i) {D' : Nat} (h1 : i - x ≤ D') (h2 : D' ≤ i - lastOf t x (hs t i)) : bs5 t i D' = bs5 t i (i - x) := by
  refine bs5_skip h1 (fun d a b => ?_)
  apply Classical.byContradiction
  intro hn
  have hl := lastOf_le t (hs t i) x
  have h5 := ml5_hs (t := t) (i := i) (d := d) (by omega) hi (by omega)
  exact lastOf_gap (t := t) (n := hs t i) (q := i - d) (m := x) (by omega) (by omega) h5.2 h5.1
theorem bs5_le (t : List Nat) (i : Nat) : ∀ D, (bs5 t i D).1 ≤ 258 ∧ (bs5 t i D).2 ≤ D
  | 0 => ⟨by simp [bs5], Nat.le_refl _⟩
  | D + 1 => by
    have ih := bs5_le t i D
    have := ml_le t i (D + 1)
    unfold bs5
    split
    · exact ⟨this, Nat.le_refl _⟩
    · exact ⟨ih.1, by omega⟩
end Go.Proofs.YtljfmcgeiceagaaGreat

/- Read: the tokens that bytes tell; in plain words. -/
namespace Go.Proofs.YtljfmcgeiceagaaGreat
open Go Go.RowKit
set_option linter.unusedVariables false
set_option linter.unusedSimpArgs false

theorem exp_append : ∀ (a r : List Tk) (text : List Nat), (exp text a).2 = 0 → exp text (a ++ r) = exp (exp text a).1 r
  | [], r, text, h => rfl
  | t :: a, r, text, h => by
    unfold exp at h
    split at h
    · rename_i h1
      split at h
      · simp at h
      · rename_i h2
        have ih := exp_append a r _ h
        rw [List.cons_append, exp, if_pos h1, if_neg h2, ih]
        rw [exp, if_pos h1, if_neg h2]
    · simp at h
theorem exp_snoc {ts : List Tk} {t : Tk} {T : List Nat} (h : exp [] ts = (T, 0)) (hr : rt t T.length = true) (hl : T.length + t.lit.length + t.l.toNat ≤ 4096) : exp [] (ts ++ [t]) = (addTk T t, 0) := by
  rw [exp_append ts [t] [] (by rw [h]), h]
  simp only
  rw [exp, if_pos hr, if_neg (by omega)]
  rfl
theorem exp_grows {T Z : List Nat} {r : List Tk} (h : exp T r = (Z, 0)) : T.length ≤ Z.length := by
  have := (fine_of_exp h).2
  omega

theorem num_uv {s : Rs} (h0 : s.err = 0) {v : Nat} (hv : v < 18446744073709551616) {t : List Nat} (hb : s.bs.drop s.p = Uv.uv v ++ t) : s.num = (v, s.go (Uv.uv v).length) := by
  have h1 := Uv.ru_uv t v 0 0 (by simpa using hv) (by omega) (by omega)
  unfold Rs.num
  rw [if_neg (by simp [h0]), hb, h1]
  simp
theorem go_drop {s : Rs} {xs t : List Nat} (hb : s.bs.drop s.p = xs ++ t) : (s.go xs.length).bs.drop (s.go xs.length).p = t := by
  unfold Rs.go
  simp only
  rw [← List.drop_drop, hb]
  simp
theorem take_at {s : Rs} (h0 : s.err = 0) {xs t : List Nat} (hb : s.bs.drop s.p = xs ++ t) : s.take (xs.length : Nat) = (xs, s.go xs.length) := by
  have hl := congrArg List.length hb
  rw [List.length_drop, List.length_append] at hl
  unfold Rs.take
  rw [if_neg (by simp [h0]), if_neg (by omega), if_neg (by unfold Rs.rest; omega), hb]
  simp
theorem num_got {s : Rs} (h : s.Ok) (h1 : s.num.2.err = 0) : ∃ t, s.bs.drop s.p = Uv.uv s.num.1 ++ t ∧ s.num.2 = s.go (Uv.uv s.num.1).length ∧ s.num.1 < 18446744073709551616 := by
  have h0 := Rs.num_ok h h1
  obtain ⟨v, k, x, hr, hv, h2 | h2⟩ := Rs.num_cases h h0
  · rw [h2.2.2]
    obtain ⟨v', e1, e2, e3, e4, _, _⟩ := Uv.ru_taken (s.bs.drop s.p) 0 0 (by_drop h.by_ s.p) (by omega) (by omega) (by rw [hr]; exact h2.1)
    rw [hr] at e1 e2
    simp only [Nat.zero_add, Nat.pow_zero, Nat.mul_one] at e1 e2
    subst e1 e2
    refine ⟨(s.bs.drop s.p).drop (Uv.uv v).length, ?_, rfl, hv⟩
    simp only
    conv => lhs; rw [← List.take_append_drop (Uv.uv v).length (s.bs.drop s.p), e4]
  · rw [h2.2.2] at h1
    simp only at h1
    omega
theorem num_zero {s : Rs} (h : s.Ok) (h1 : s.num.2.err ≠ 0) : s.num.1 = 0 := by
  by_cases h0 : s.err = 0
  · obtain ⟨v, k, x, hr, hv, h2 | h2⟩ := Rs.num_cases h h0
    · rw [h2.2.2] at h1
      exact absurd h0 h1
    · rw [h2.2.2]
  · rw [Rs.num_bad h0]
theorem take_got {s : Rs} {n : Nat} (h1 : 0 < (s.take (n : Nat)).1.length) : s.err = 0 ∧ (s.take (n : Nat)).1.length = n ∧ (∃ t, s.bs.drop s.p = (s.take (n : Nat)).1 ++ t) ∧ (s.take (n : Nat)).2 = s.go n := by
  unfold Rs.take at h1 ⊢
  split at h1
  · simp at h1
  rename_i a1
  rw [if_neg a1]
  split at h1
  · simp at h1
  rename_i a2
  rw [if_neg a2]
  split at h1
  · simp at h1
  rename_i a3
  rw [if_neg a3]
  simp only [Int.toNat_natCast]
  refine ⟨by simpa using a1, ?_, ⟨(s.bs.drop s.p).drop n, by rw [List.take_append_drop]⟩, trivial⟩
  unfold Rs.rest at a3
  rw [List.length_take, List.length_drop]
  omega
theorem go_go (s : Rs) (a b : Nat) : (s.go a).go b = s.go (a + b) := by unfold Rs.go; simp [Nat.add_assoc]

/-- One token, read. -/
def rdTok (s : Rs) : Tk × Rs :=
  if s.num.1 % 2 = 0 then (⟨(s.num.2.take (s.num.1 / 2 : Nat)).1, 0, 0⟩, (s.num.2.take (s.num.1 / 2 : Nat)).2)
  else if s.num.2.num.1 ≤ 2048 then (⟨[], (s.num.2.num.1 : Nat), (s.num.1 / 2 : Nat)⟩, s.num.2.num.2) else (⟨[], 0, 0⟩, s.num.2.num.2)
def rdLoop (n : Nat) : Nat → Rs → Nat → List Tk → List Tk × Int
  | 0, _, _, _ => ([], 20)
  | f + 1, s, z, ts =>
    if s.rest = 0 then (if s.err = 0 ∧ z = n then (ts, 0) else ([], 20))
    else if 4096 < s.num.1 / 2 then ([], 20)
    else if rt (rdTok s).1 z = true then
      (if n < z + (rdTok s).1.lit.length + (rdTok s).1.l.toNat then ([], 20) else rdLoop n f (rdTok s).2 (z + (rdTok s).1.lit.length + (rdTok s).1.l.toNat) (ts ++ [(rdTok s).1]))
    else ([], 20)
def rd0 (b : List Nat) : Rs := ⟨b, 0, 0, 0⟩
def rd (b : List Nat) : List Tk × Int := if 4096 < (rd0 b).num.1 then ([], 20) else rdLoop (rd0 b).num.1 (b.length + 1) (rd0 b).num.2 0 []

theorem rt_none (z : Nat) : rt ⟨[], 0, 0⟩ z = false := by
  cases h : rt ⟨[], 0, 0⟩ z with
  | false => rfl
  | true =>
    rcases rt_cases h with h1 | h1
    · simp at h1
    · simp at h1
theorem rdTok_ok {s : Rs} (h : s.Ok) : (rdTok s).2.Ok := by
  unfold rdTok
  split
  · exact h.num.1.take _
  split
  · exact h.num.1.num.1
  · exact h.num.1.num.1
theorem rdTok_by {s : Rs} (h : s.Ok) : By (rdTok s).1.lit := by
  unfold rdTok
  split
  · exact Rs.take_by h.num.1 _
  split
  · intro b hb; cases hb
  · intro b hb; cases hb
/-- What is right has been there. -/
theorem rdTok_sound {s : Rs} (h : s.Ok) {z : Nat} (hr : rt (rdTok s).1 z = true) : ∃ t, s.err = 0 ∧ s.bs.drop s.p = bt (rdTok s).1 ++ t ∧ (rdTok s).2 = s.go (bt (rdTok s).1).length := by
  unfold rdTok at hr ⊢
  split at hr
  · rename_i he
    rw [if_pos he]
    rcases rt_cases hr with h1 | h1
    · have h2 := h1.1
      simp only at h2
      obtain ⟨e0, e1, ⟨t, e2⟩, e3⟩ := take_got h2
      obtain ⟨t', n1, n2, n3⟩ := num_got h e0
      simp only
      rw [bt_lit h2]
      simp only
      rw [e1, show 2 * (s.num.1 / 2) = s.num.1 by omega]
      rw [n2] at e2 e3 ⊢
      rw [go_drop n1] at e2
      refine ⟨t, Rs.num_ok h e0, ?_, ?_⟩
      · rw [n1, e2, List.append_assoc]
      · rw [e3, go_go, List.length_append]
        rw [n2] at e1
        rw [e1]
    · have h2 := h1.2.1
      simp only at h2
      omega
  · rename_i he
    rw [if_neg he]
    split at hr
    · rename_i hd
      rw [if_pos hd]
      rcases rt_cases hr with h1 | h1
      · simp at h1
      · obtain ⟨_, h2, h3, h4, h5, _⟩ := h1
        simp only at h2 h3 h4 h5
        have e1 : s.num.2.num.2.err = 0 := by
          apply Classical.byContradiction
          intro hn
          have := num_zero h.num.1 hn
          omega
        have e0 := Rs.num_ok h.num.1 e1
        obtain ⟨t, n1, n2, n3⟩ := num_got h e0
        obtain ⟨t', m1, m2, m3⟩ := num_got h.num.1 e1
        simp only
        rw [bt_match (by simp)]
        simp only [Int.toNat_natCast]
        rw [show 2 * (s.num.1 / 2) + 1 = s.num.1 by omega]
        refine ⟨t', Rs.num_ok h e0, ?_, ?_⟩
        · rw [n2, go_drop n1] at m1
          conv => lhs; rw [n1, m1]
          rw [n2, List.append_assoc]
        · rw [m2]
          conv => lhs; rw [n2]
          rw [go_go, List.length_append, n2]
    · rename_i hd
      rw [rt_none] at hr
      exact absurd hr (by simp)
/-- What has been written is read. -/
theorem rdTok_complete {s : Rs} (h0 : s.err = 0) {t : Tk} (ht : Fine t) {u : List Nat} (hb : s.bs.drop s.p = bt t ++ u) : rdTok s = (t, s.go (bt t).length) ∧ s.num.1 / 2 ≤ 4096 := by
  have hl := ht.2
  rcases ht.cases with h1 | h1
  · rw [bt_lit h1.1, List.append_assoc] at hb
    have hn := num_uv h0 (by omega) hb
    have hd := go_drop hb
    have ht := take_at (s := s.go (Uv.uv (2 * t.lit.length)).length) h0 hd
    unfold rdTok
    rw [hn]
    simp only
    rw [if_pos (by omega), show 2 * t.lit.length / 2 = t.lit.length by omega, ht, go_go, bt_lit h1.1, List.length_append]
    refine ⟨?_, hl⟩
    obtain ⟨lit, d, l⟩ := t
    simp only at h1
    obtain ⟨_, rfl, rfl⟩ := h1
    rfl
  · have hn0 : ¬ 0 < t.lit.length := by rw [h1.1]; simp
    rw [bt_match hn0, List.append_assoc] at hb
    have hn := num_uv h0 (by omega) hb
    have hd := go_drop hb
    have hm := num_uv (s := s.go (Uv.uv (2 * t.l.toNat + 1)).length) h0 (by omega) hd
    unfold rdTok
    rw [hn]
    simp only
    rw [if_neg (by omega), hm]
    simp only
    rw [if_pos (by omega), go_go, bt_match hn0, List.length_append]
    refine ⟨?_, by omega⟩
    obtain ⟨lit, d, l⟩ := t
    simp only at h1 ⊢
    rw [h1.1, show (2 * l.toNat + 1) / 2 = l.toNat by omega, show ((d.toNat : Nat) : Int) = d by omega, show ((l.toNat : Nat) : Int) = l by omega]

theorem bt_pos (t : Tk) : 0 < (bt t).length := by
  unfold bt
  split
  · rw [List.length_append]; have := Uv.uv_pos (2 * t.lit.length); omega
  · rw [List.length_append]; have := Uv.uv_pos (2 * t.l.toNat + 1); omega
theorem go_ok {s : Rs} (h : s.Ok) (h0 : s.err = 0) {xs t : List Nat} (hb : s.bs.drop s.p = xs ++ t) : s.p + xs.length ≤ s.bs.length := by
  have hl := congrArg List.length hb
  rw [List.length_drop, List.length_append] at hl
  have := h.le
  omega

theorem rdLoop_sound (n : Nat) (hn : n ≤ 4096) : ∀ (f : Nat) (s : Rs) (z : Nat) (ts ts' : List Tk) (T : List Nat), rdLoop n f s z ts = (ts', 0) → s.Ok → exp [] ts = (T, 0) → T.length = z →
    ∃ r T', s.err = 0 ∧ ts' = ts ++ r ∧ s.bs.drop s.p = r.flatMap bt ∧ exp [] ts' = (T', 0) ∧ T'.length = n
  | 0, s, z, ts, ts', T, h, _, _, _ => by simp [rdLoop] at h
  | f + 1, s, z, ts, ts', T, h, hs, he, hT => by
    unfold rdLoop at h
    split at h
    · rename_i h1
      split at h
      · rename_i h2
        injection h with h3 _
        subst h3
        refine ⟨[], T, h2.1, by simp, ?_, he, hT.trans h2.2⟩
        unfold Rs.rest at h1
        rw [List.drop_of_length_le (by omega)]
        rfl
      · simp at h
    · split at h
      · simp at h
      · split at h
        · rename_i h1
          split at h
          · simp at h
          · rename_i h2
            obtain ⟨t, e0, e1, e2⟩ := rdTok_sound hs h1
            rw [← hT] at h1
            have hx := exp_snoc he h1 (by omega)
            obtain ⟨r, T', r0, r1, r2, r3, r4⟩ := rdLoop_sound n hn f _ _ _ _ _ h (rdTok_ok hs) hx (by rw [addTk_length]; omega)
            refine ⟨(rdTok s).1 :: r, T', e0, by rw [r1]; simp, ?_, r3, r4⟩
            rw [e2, go_drop e1] at r2
            rw [e1, r2]
            simp
        · simp at h
theorem rdLoop_complete (n : Nat) : ∀ (r : List Tk) (f : Nat) (s : Rs) (ts : List Tk) (T Z : List Nat), s.err = 0 → s.Ok → s.bs.drop s.p = r.flatMap bt → exp T r = (Z, 0) → Z.length = n → s.rest < f →
    rdLoop n f s T.length ts = (ts ++ r, 0)
  | [], 0, s, ts, T, Z, h0, hs, hb, he, hZ, hf => by omega
  | [], f + 1, s, ts, T, Z, h0, hs, hb, he, hZ, hf => by
    have hl := congrArg List.length hb
    simp only [List.length_drop, List.flatMap_nil, List.length_nil] at hl
    simp only [exp, Prod.mk.injEq, and_true] at he
    subst he
    have hr0 : s.rest = 0 := hl
    rw [rdLoop, if_pos hr0, if_pos ⟨h0, hZ⟩, List.append_nil]
  | t :: r, 0, s, ts, T, Z, h0, hs, hb, he, hZ, hf => by omega
  | t :: r, f + 1, s, ts, T, Z, h0, hs, hb, he, hZ, hf => by
    have hfine := (fine_of_exp he).1 t (List.mem_cons_self ..)
    have hb' : s.bs.drop s.p = bt t ++ r.flatMap bt := by rw [hb]; simp
    obtain ⟨e1, e2⟩ := rdTok_complete h0 hfine hb'
    have hp := bt_pos t
    have hok := go_ok hs h0 hb'
    have hrest : ¬ s.rest = 0 := by unfold Rs.rest; omega
    have he2 := he
    unfold exp at he2
    split at he2
    · rename_i h1
      split at he2
      · simp at he2
      · rename_i h2
        have hg := exp_grows he2
        rw [addTk_length, hZ] at hg
        have ih := rdLoop_complete n r f (s.go (bt t).length) (ts ++ [t]) (addTk T t) Z h0 (hs.go h0 hok) (go_drop hb') he2 hZ (by unfold Rs.rest Rs.go at *; simp only; omega)
        rw [rdLoop, if_neg hrest, if_neg (by omega), e1]
        simp only
        rw [if_pos h1, if_neg (by omega), ← addTk_length, ih]
        simp
    · simp at he2
theorem ok0 {b : List Nat} (hb : By b) (hl : b.length ≤ 140737488351232) : (rd0 b).Ok := ok_new hb hl
theorem wr_cases {ts : List Tk} {b : List Nat} (h : wr ts = (b, 0)) : ∃ T, exp [] ts = (T, 0) ∧ T.length ≤ 4096 ∧ b = blk T.length ts := by
  unfold wr at h
  split at h
  · rename_i h0
    injection h with h1 _
    exact ⟨(exp [] ts).1, by rw [← h0], exp_len ts [] (by simp), h1.symm⟩
  · rename_i h0
    injection h with _ h2
    exact absurd h2 h0
theorem rd_of_wr {b : List Nat} {ts : List Tk} (hb : By b) (hl : b.length ≤ 140737488351232) (h : wr ts = (b, 0)) : rd b = (ts, 0) := by
  obtain ⟨T, h1, h2, rfl⟩ := wr_cases h
  have hn := num_uv (s := rd0 (blk T.length ts)) rfl (v := T.length) (by omega) (t := ts.flatMap bt) rfl
  have hok := ok0 hb hl
  have hd := go_drop (s := rd0 (blk T.length ts)) (xs := Uv.uv T.length) (t := ts.flatMap bt) rfl
  have hg := go_ok hok rfl (xs := Uv.uv T.length) (t := ts.flatMap bt) rfl
  unfold rd
  rw [hn]
  simp only
  rw [if_neg (by omega)]
  have := rdLoop_complete T.length ts ((blk T.length ts).length + 1) ((rd0 (blk T.length ts)).go (Uv.uv T.length).length) [] [] T rfl (hok.go rfl hg) hd h1 rfl (by unfold Rs.rest Rs.go rd0; simp only; omega)
  simpa using this
theorem wr_of_rd {b : List Nat} {ts : List Tk} (hb : By b) (hl : b.length ≤ 140737488351232) (h : rd b = (ts, 0)) : wr ts = (b, 0) := by
  unfold rd at h
  split at h
  · simp at h
  · rename_i hn
    have hok := ok0 hb hl
    obtain ⟨r, T', h0, h1, h2, h3, h4⟩ := rdLoop_sound (rd0 b).num.1 (by omega) _ _ _ _ _ [] h hok.num.1 rfl rfl
    obtain ⟨t, n1, n2, n3⟩ := num_got hok h0
    rw [List.nil_append] at h1
    subst h1
    rw [n2, go_drop n1] at h2
    unfold wr
    rw [h3]
    simp only [if_true]
    rw [h4]
    unfold blk
    rw [← h2, ← n1]
    rfl
theorem rdLoop_code (n : Nat) : ∀ (f : Nat) (s : Rs) (z : Nat) (ts : List Tk), rdLoop n f s z ts = ([], 20) ∨ (rdLoop n f s z ts).2 = 0
  | 0, _, _, _ => .inl rfl
  | f + 1, s, z, ts => by
    unfold rdLoop
    split
    · split
      · exact .inr rfl
      · exact .inl rfl
    · split
      · exact .inl rfl
      · split
        · split
          · exact .inl rfl
          · exact rdLoop_code n f _ _ _
        · exact .inl rfl
theorem rd_code (b : List Nat) : rd b = ([], 20) ∨ ∃ ts, rd b = (ts, 0) := by
  unfold rd
  split
  · exact .inl rfl
  · rcases rdLoop_code (rd0 b).num.1 (b.length + 1) (rd0 b).num.2 0 [] with h | h
    · exact .inl h
    · exact .inr ⟨_, Prod.ext rfl h⟩
/-- The document's way. -/
def nA (b : List Nat) (q : Nat) : Option (Nat × Nat) := if (Uv.ru 0 0 (b.drop q)).2.2 = 0 ∧ (Uv.ru 0 0 (b.drop q)).2.1 ≤ 3 then some ((Uv.ru 0 0 (b.drop q)).1, q + (Uv.ru 0 0 (b.drop q)).2.1) else none
def rrLoop (b : List Nat) : Nat → Nat → List Tk → Option (List Tk)
  | 0, _, _ => none
  | f + 1, q, ts => if q < b.length then
      match nA b q with
      | none => none
      | some (h, x) =>
        if h % 2 = 0 then (if b.length - x < h / 2 then none else rrLoop b f (x + h / 2) (ts ++ [⟨(b.drop x).take (h / 2), 0, 0⟩]))
        else match nA b x with
          | none => none
          | some (d, e) => rrLoop b f e (ts ++ [⟨[], (d : Nat), (h / 2 : Nat)⟩])
    else some ts
def rrd1 (b : List Nat) : Option (List Tk) := match nA b 0 with
  | none => none
  | some (_, q) => rrLoop b (b.length + 1) q []
theorem nA_uv {b : List Nat} {q v : Nat} {t : List Nat} (hv : v < 2097152) (h : b.drop q = Uv.uv v ++ t) : nA b q = some (v, q + (Uv.uv v).length) := by
  have h1 := Uv.ru_uv t v 0 0 (by simp; omega) (by omega) (by omega)
  have h2 := Uv.uv_len_pow 2 v (by simpa using hv)
  unfold nA
  rw [h, h1]
  simp only [Nat.zero_add, Nat.pow_zero, Nat.mul_one, true_and]
  rw [if_pos h2]
theorem rrLoop_complete (b : List Nat) : ∀ (r : List Tk) (f q : Nat) (ts : List Tk), q ≤ b.length → b.drop q = r.flatMap bt → (∀ t ∈ r, Fine t) → b.length - q < f → rrLoop b f q ts = some (ts ++ r)
  | [], 0, q, ts, hq, hb, hf, h => by omega
  | [], f + 1, q, ts, hq, hb, hf, h => by
    have hl := congrArg List.length hb
    simp only [List.length_drop, List.flatMap_nil, List.length_nil] at hl
    rw [rrLoop, if_neg (by omega), List.append_nil]
  | t :: r, 0, q, ts, hq, hb, hf, h => by omega
  | t :: r, f + 1, q, ts, hq, hb, hf, h => by
    have hfine := hf t (List.mem_cons_self ..)
    have hp := bt_pos t
    have hb' : b.drop q = bt t ++ r.flatMap bt := by rw [hb]; simp
    have hl := congrArg List.length hb'
    rw [List.length_drop, List.length_append] at hl
    have hl4 := hfine.2
    rcases hfine.cases with h1 | h1
    · rw [bt_lit h1.1, List.append_assoc] at hb'
      rw [bt_lit h1.1, List.length_append] at hl
      have hx : b.drop (q + (Uv.uv (2 * t.lit.length)).length) = t.lit ++ r.flatMap bt := by rw [← List.drop_drop, hb']; simp
      have hu := Uv.uv_pos (2 * t.lit.length)
      have hy : b.drop (q + (Uv.uv (2 * t.lit.length)).length + t.lit.length) = r.flatMap bt := by rw [← List.drop_drop, hx]; simp
      have ih := rrLoop_complete b r f (q + (Uv.uv (2 * t.lit.length)).length + t.lit.length) (ts ++ [t]) (by omega) hy (fun t' ht' => hf t' (List.mem_cons_of_mem _ ht')) (by omega)
      rw [rrLoop, if_pos (by omega), nA_uv (by omega) hb']
      simp only
      rw [if_pos (by omega), show 2 * t.lit.length / 2 = t.lit.length by omega, if_neg (by omega), hx, List.take_left]
      have e : (⟨t.lit, 0, 0⟩ : Tk) = t := by
        obtain ⟨lit, d, l⟩ := t
        simp only at h1
        obtain ⟨_, rfl, rfl⟩ := h1
        rfl
      rw [e, ih]
      simp
    · have hn0 : ¬ 0 < t.lit.length := by rw [h1.1]; simp
      rw [bt_match hn0, List.append_assoc] at hb'
      rw [bt_match hn0, List.length_append] at hl
      have hx : b.drop (q + (Uv.uv (2 * t.l.toNat + 1)).length) = Uv.uv t.d.toNat ++ r.flatMap bt := by rw [← List.drop_drop, hb']; simp
      have hu := Uv.uv_pos (2 * t.l.toNat + 1)
      have hy : b.drop (q + (Uv.uv (2 * t.l.toNat + 1)).length + (Uv.uv t.d.toNat).length) = r.flatMap bt := by rw [← List.drop_drop, hx]; simp
      have ih := rrLoop_complete b r f (q + (Uv.uv (2 * t.l.toNat + 1)).length + (Uv.uv t.d.toNat).length) (ts ++ [t]) (by omega) hy (fun t' ht' => hf t' (List.mem_cons_of_mem _ ht')) (by omega)
      rw [rrLoop, if_pos (by omega), nA_uv (by omega) hb']
      simp only
      rw [if_neg (by omega), nA_uv (by omega) hx]
      simp only
      have e : (⟨[], (t.d.toNat : Nat), ((2 * t.l.toNat + 1) / 2 : Nat)⟩ : Tk) = t := by
        obtain ⟨lit, d, l⟩ := t
        simp only at h1 ⊢
        rw [h1.1, show (2 * l.toNat + 1) / 2 = l.toNat by omega, show ((d.toNat : Nat) : Int) = d by omega, show ((l.toNat : Nat) : Int) = l by omega]
      rw [e, ih]
      simp
/-- The document's way leads to the same. -/
theorem rrd_yes {b : List Nat} {ts : List Tk} (h : wr ts = (b, 0)) : rrd1 b = some ts := by
  obtain ⟨T, h1, h2, rfl⟩ := wr_cases h
  have hf := (fine_of_exp h1).1
  have e0 : (blk T.length ts).drop 0 = Uv.uv T.length ++ ts.flatMap bt := rfl
  have e1 : (blk T.length ts).drop (0 + (Uv.uv T.length).length) = ts.flatMap bt := by unfold blk; simp
  have hl : (blk T.length ts).length = (Uv.uv T.length).length + (ts.flatMap bt).length := by unfold blk; rw [List.length_append]
  unfold rrd1
  rw [nA_uv (by omega) e0]
  simp only
  have := rrLoop_complete (blk T.length ts) ts ((blk T.length ts).length + 1) (0 + (Uv.uv T.length).length) [] (by omega) e1 hf (by omega)
  simpa using this
theorem rd_none {b : List Nat} (hb : By b) (hl : b.length ≤ 140737488351232) (h : rrd1 b = none) : rd b = ([], 20) := by
  rcases rd_code b with h1 | ⟨ts, h1⟩
  · exact h1
  · rw [rrd_yes (wr_of_rd hb hl h1)] at h
    cases h
theorem rd_yes {b : List Nat} {ts : List Tk} (hb : By b) (hl : b.length ≤ 140737488351232) (h1 : wr ts = (b, 0)) : rd b = (ts, 0) := rd_of_wr hb hl h1
theorem rd_no {b : List Nat} {ts : List Tk} (hb : By b) (hl : b.length ≤ 140737488351232) (h : rrd1 b = some ts) (h1 : wr ts ≠ (b, 0)) : rd b = ([], 20) := by
  rcases rd_code b with h2 | ⟨ts', h2⟩
  · exact h2
  · have h3 := wr_of_rd hb hl h2
    have h4 := rrd_yes h3
    rw [h] at h4
    injection h4 with h4
    subst h4
    exact absurd h3 h1
end Go.Proofs.YtljfmcgeiceagaaGreat

/- Tokens in memory of their own, beside a reader. -/
namespace Go.Proofs.YtljfmcgeiceagaaGreat
open Go Go.RowKit
set_option linter.unusedVariables false
set_option linter.unusedSimpArgs false

theorem own_keptS {W W' : World} {S : Nat → Prop} {base : Nat} {e : TypeId} {size n : Nat} {v : Value} {xs : List Value} (h : W.ownsRow base e size v n xs) (hk : KeptS W W' S) (hv : ∀ q, v.ownBlock = some q → ¬ S q) : W'.ownsRow base e size v n xs := by
  refine ⟨h.1, ?_⟩
  rcases h.2 with hn | ⟨q, cap, cur, he, hb, hh, rest⟩
  · exact .inl hn
  · exact .inr ⟨q, cap, cur, he, hb, (hk.block q (Array.getElem?_eq_some_iff.1 hh).1 (hv q (by rw [he]; rfl))).trans hh, rest⟩

/-- A token's own bytes. -/
def OwnTk (W : World) (base : Nat) (x : TkV) : Prop := W.ownsRow base 5 1 (.slice x.A x.lit.length x.c) x.lit.length (b8 x.lit)
def PlTk (x : TkV) : Prop := By x.lit ∧ x.lit.length ≤ 140737488351232 ∧ (-9223372036854775808 ≤ x.d ∧ x.d ≤ 9223372036854775807) ∧ -9223372036854775808 ≤ x.l ∧ x.l ≤ 9223372036854775807
theorem OwnTk.lt {W : World} {base : Nat} {x : TkV} (h : OwnTk W base x) {a : Addr} (ha : x.A = some a) : base ≤ a.block ∧ a.block < W.heap.size := by
  obtain ⟨A', c', hv, _, _, hb⟩ := own_shape h
  injection hv with h1
  exact hb a (h1.symm.trans ha)
theorem OwnTk.ok {W : World} {base : Nat} {x : TkV} (h : OwnTk W base x) (p : PlTk x) : x.Ok W := by
  obtain ⟨A', c', hv, h1, h2, _⟩ := own_shape h
  injection hv with _ _ h3
  subst h3
  exact ⟨h1, h2, rd_own h, p.1, p.2.1, p.2.2.1, p.2.2.2⟩

/-- Tokens, each with its bytes in memory of its own. -/
structure Ts (W : World) (B : Nat) (v : Value) (N : Nat) (l : List TkV) : Prop where
  row : W.ownsRow B 125 3 v N (tkCells l)
  lit : ∀ x ∈ l, OwnTk W B x
  pl : ∀ x ∈ l, PlTk x
  pw : l.Pairwise (fun x y => ∀ a b : Addr, x.A = some a → y.A = some b → a.block < b.block)
  off : ∀ x ∈ l, ∀ a : Addr, x.A = some a → v.ownBlock ≠ some a.block
theorem Ts.nil (W : World) (B : Nat) : Ts W B (.slice none 0 0) 0 [] := ⟨World.ownsRow_nil _ _ _ _, (fun x h => by cases h), (fun x h => by cases h), List.Pairwise.nil, (fun x h => by cases h)⟩
theorem Ts.keptS {W W' : World} {S : Nat → Prop} {B N : Nat} {v : Value} {l : List TkV} (h : Ts W B v N l) (hk : KeptS W W' S) (hv : ∀ q, v.ownBlock = some q → ¬ S q) (hl : ∀ x ∈ l, ∀ a : Addr, x.A = some a → ¬ S a.block) : Ts W' B v N l := by
  refine ⟨own_keptS h.row hk hv, fun x hx => ?_, h.pl, h.pw, h.off⟩
  refine own_keptS (h.lit x hx) hk (fun q hq => ?_)
  cases ha : x.A with
  | none => rw [ha] at hq; simp [Value.ownBlock] at hq
  | some a =>
    rw [ha] at hq
    simp only [Value.ownBlock, Option.some.injEq] at hq
    subst hq
    exact hl x hx a ha
theorem Ts.below {W W' : World} {B N : Nat} {v : Value} {l : List TkV} (h : Ts W B v N l) (hb : Below W.heap.size W W') : Ts W' B v N l := h.keptS (KeptS.of_below hb (fun _ => False)) (fun _ _ h => h) (fun _ _ _ _ h => h)
theorem Ts.mono {W : World} {B B' N : Nat} {v : Value} {l : List TkV} (h : Ts W B v N l) (hb : B' ≤ B) : Ts W B' v N l := ⟨own_mono h.row hb, fun x hx => own_mono (h.lit x hx) hb, h.pl, h.pw, h.off⟩
theorem Ts.len {W : World} {B N : Nat} {v : Value} {l : List TkV} (h : Ts W B v N l) : l.length = N := by
  have := h.row.1
  rw [tkCells_length] at this
  omega
theorem Ts.ok {W : World} {B N : Nat} {v : Value} {l : List TkV} (h : Ts W B v N l) : ∀ x ∈ l, x.Ok W := fun x hx => (h.lit x hx).ok (h.pl x hx)
theorem Ts.rd {W : World} {B N c : Nat} {A : Option Addr} {l : List TkV} (h : Ts W B (.slice A N c) N l) : Rd W A (tkCells l) := rd_own h.row
/-- One more. -/
theorem Ts.push {W W' : World} {B N bb : Nat} {v v' : Value} {l : List TkV} {y : TkV} (h : Ts W B v N l) (hb : ∀ x ∈ l, ∀ a : Addr, x.A = some a → a.block < bb) (hv : ∀ q, v.ownBlock = some q → q < bb) (hy : OwnTk W bb y) (hB : B ≤ bb) (hpl : PlTk y)
    (hrow : W'.ownsRow B 125 3 v' (N + 1) (tkCells (l ++ [y]))) (hg : W.grownBy W' v.ownBlock) (hn : v'.ownBlock = v.ownBlock ∨ ∃ k, v'.ownBlock = some k ∧ W.heap.size ≤ k) : Ts W' B v' (N + 1) (l ++ [y]) := by
  have key : ∀ (bx : Nat) (x : TkV), OwnTk W bx x → (∀ a : Addr, x.A = some a → v.ownBlock ≠ some a.block) → OwnTk W' bx x := by
    intro bx x hx ho
    refine hx.kept hg ?_
    cases ha : x.A with
    | none => exact .inl rfl
    | some a => exact .inr (fun e => ho a ha e.symm)
  have hyo : ∀ a : Addr, y.A = some a → v.ownBlock ≠ some a.block := by
    intro a ha e
    have h1 := (hy.lt ha).1
    have h2 := hv _ e
    omega
  refine ⟨hrow, ?_, ?_, ?_, ?_⟩
  · intro x hx
    rcases List.mem_append.1 hx with hx | hx
    · exact key B x (h.lit x hx) (h.off x hx)
    · rw [List.mem_singleton] at hx
      subst hx
      exact own_mono (key bb _ hy hyo) hB
  · intro x hx
    rcases List.mem_append.1 hx with hx | hx
    · exact h.pl x hx
    · rw [List.mem_singleton] at hx
      subst hx
      exact hpl
  · rw [List.pairwise_append]
    refine ⟨h.pw, List.pairwise_singleton _ _, fun x hx y' hy' => ?_⟩
    rw [List.mem_singleton] at hy'
    subst hy'
    intro a b ha hb'
    have h1 := hb x hx a ha
    have h2 := (hy.lt hb').1
    omega
  · intro x hx a ha e
    rcases hn with hn | ⟨k, hn, hk⟩
    · rw [hn] at e
      rcases List.mem_append.1 hx with hx | hx
      · exact h.off x hx a ha e
      · rw [List.mem_singleton] at hx
        subst hx
        exact hyo a ha e
    · rw [hn] at e
      injection e with e
      have h1 : a.block < W.heap.size := by
        rcases List.mem_append.1 hx with hx | hx
        · exact ((h.lit x hx).lt ha).2
        · rw [List.mem_singleton] at hx
          subst hx
          exact (hy.lt ha).2
      omega

/-- A reader and tokens. -/
structure RT (base : Nat) (w0 W : World) (g : Nat) (rv : Value) (s : Rs) (B : Nat) (v : Value) (N : Nat) (l : List TkV) : Prop where
  rd : Rdr base W 88 Rs.cells g rv s
  gB : g < B
  rvB : ∀ q, rv.ownBlock = some q → q < B
  ts : Ts W B v N l
  bel : Below base w0 W
  BW : B ≤ W.heap.size
  bB : base ≤ B
section
variable {base : Nat} {w0 W W' : World} {g : Nat} {rv : Value} {s s' : Rs} {B : Nat} {v : Value} {N : Nat} {l : List TkV}
theorem RT.tsB (h : RT base w0 W g rv s B v N l) : (∀ q, v.ownBlock = some q → B ≤ q ∧ q < W.heap.size) ∧ (∀ x ∈ l, ∀ a : Addr, x.A = some a → B ≤ a.block ∧ a.block < W.heap.size) := ⟨h.ts.row.lt, fun x hx a ha => (h.ts.lit x hx).lt ha⟩
theorem RT.turned (h : RT base w0 W g rv s B v N l) (ht : Turned base W 88 Rs.cells g rv s' W') : RT base w0 W' g rv s' B v N l := by
  have hgB := h.gB
  refine ⟨ht.rd, h.gB, h.rvB, h.ts.keptS ht.kept (fun q hq e => ?_) (fun x hx a ha e => ?_), h.bel.trans (ht.kept.below (fun q hq => ?_) (Nat.le_trans h.bB h.BW)), Nat.le_trans h.BW ht.kept.size, h.bB⟩
  · have := (h.tsB.1 q hq).1; omega
  · have := (h.tsB.2 x hx a ha).1; omega
  · rw [hq]; exact h.rd.gb
theorem RT.below (h : RT base w0 W g rv s B v N l) (hb : Below W.heap.size W W') : RT base w0 W' g rv s B v N l := ⟨h.rd.below hb, h.gB, h.rvB, h.ts.below hb, h.bel.trans (hb.mono (Nat.le_trans h.bB h.BW)), Nat.le_trans h.BW hb.size, h.bB⟩
/-- And a token in its block. -/
structure RTB (base : Nat) (w0 W : World) (g : Nat) (rv : Value) (s : Rs) (B : Nat) (v : Value) (N : Nat) (l : List TkV) (b : Nat) (x : TkV) : Prop where
  rt : RT base w0 W g rv s B v N l
  bt : Bt W b x
  own : OwnTk W (b + 1) x
  bB : B ≤ b
  vb : ∀ q, v.ownBlock = some q → q < b
  lb : ∀ y ∈ l, ∀ a : Addr, y.A = some a → a.block < b
theorem RT.box (h : RT base w0 W g rv s B v N l) : RTB base w0 (W.alloc (.cells #[.slice none 0 0, .int .i64 0, .int .i64 0] 125)) g rv s B v N l W.heap.size tkZero :=
  ⟨h.below ((Below.refl _ _).alloc (Nat.le_refl _) _), Bt.new W tkZero, World.ownsRow_nil _ _ _ _, h.BW, fun q hq => (h.tsB.1 q hq).2, fun x hx a ha => (h.tsB.2 x hx a ha).2⟩
variable {b : Nat} {x : TkV}
theorem RTB.below (h : RTB base w0 W g rv s B v N l b x) (hb : Below W.heap.size W W') : RTB base w0 W' g rv s B v N l b x := ⟨h.rt.below hb, h.bt.below hb h.bt.lt, own_below h.own hb, h.bB, h.vb, h.lb⟩
theorem RTB.turned (h : RTB base w0 W g rv s B v N l b x) (ht : Turned base W 88 Rs.cells g rv s' W') : RTB base w0 W' g rv s' B v N l b x := by
  have h1 := h.rt.gB
  have h2 := h.bB
  refine ⟨h.rt.turned ht, (ht.kept.block b h.bt.lt (by omega)).trans h.bt, own_keptS h.own ht.kept (fun q hq e => ?_), h.bB, h.vb, h.lb⟩
  have := (h.own.lt (a := ⟨q, 0, none⟩) ?_).1
  · simp only at this; omega
  · obtain ⟨A', c', hv, _⟩ := own_shape h.own
    rcases h.own.2 with ⟨hn, _⟩ | ⟨g', cap, cur, he, _⟩
    · rw [hn] at hq; simp [Value.ownBlock] at hq
    · rw [he] at hq
      simp only [Value.ownBlock, Option.some.injEq] at hq
      injection he with he
      rw [he, hq]
theorem RTB.store (h : RTB base w0 W g rv s B v N l b x) (hk : KeptS W W' (fun q => q = b)) {y : TkV} (hbt : Bt W' b y) (hy : OwnTk W (b + 1) y) : RTB base w0 W' g rv s B v N l b y := by
  have h1 := h.rt.gB
  have h2 := h.bB
  refine ⟨⟨h.rt.rd.keptS hk (by omega) (fun q hq => by have := h.rt.rvB q hq; omega), h.rt.gB, h.rt.rvB, h.rt.ts.keptS hk (fun q hq => by have := h.vb q hq; omega) (fun x hx a ha => by have := h.lb x hx a ha; omega), h.rt.bel.trans (hk.below (fun q hq => ?_) (Nat.le_trans h.rt.bB h.rt.BW)), Nat.le_trans h.rt.BW hk.size, h.rt.bB⟩, hbt, own_keptS hy hk (fun q hq e => ?_), h.bB, h.vb, h.lb⟩
  · rw [hq]; exact Nat.le_trans h.rt.bB h.bB
  · have := (World.ownsRow.lt hy q hq).1
    omega
theorem RTB.lit (h : RTB base w0 W g rv s B v N l b tkZero) {A : Option Addr} {c : Nat} {lit : List Nat} (hy : W.ownsRow (b + 1) 5 1 (.slice A lit.length c) lit.length (b8 lit)) : RTB base w0 (W.setCell ⟨b, 0, none⟩ (.slice A lit.length c)) g rv s B v N l b ⟨A, c, lit, 0, 0⟩ := by
  refine h.store (kept1_set W b 0 _) ?_ hy
  have := heap_setCell_same W b 0 _ _ (.slice A lit.length c) h.bt
  exact this
theorem RTB.dl (h : RTB base w0 W g rv s B v N l b tkZero) (d' l' : Int) : RTB base w0 ((W.setCell ⟨b, 2, none⟩ (.int .i64 l')).setCell ⟨b, 1, none⟩ (.int .i64 d')) g rv s B v N l b ⟨none, 0, [], d', l'⟩ := by
  refine h.store ((kept1_set W b 2 _).trans (kept1_set _ b 1 _) (fun q hq => .inl hq)) ?_ (World.ownsRow_nil _ _ _ _)
  have h1 := heap_setCell_same W b 2 _ _ (.int .i64 l') h.bt
  exact heap_setCell_same _ b 1 _ _ (.int .i64 d') h1
theorem RTB.push (h : RTB base w0 W g rv s B v N l b x) (hpl : PlTk x) {v' : Value} (hrow : W'.ownsRow B 125 3 v' (N + 1) (tkCells (l ++ [x]))) (hg : W.grownBy W' v.ownBlock) (hn : v'.ownBlock = v.ownBlock ∨ ∃ k, v'.ownBlock = some k ∧ W.heap.size ≤ k) : RT base w0 W' g rv s B v' (N + 1) (l ++ [x]) := by
  have h2 := h.bB
  have hk : KeptS W W' (fun q => v.ownBlock = some q) := KeptS.of_grown hg (fun q hq => hq)
  refine ⟨h.rt.rd.keptS hk (fun e => ?_) (fun q hq e => ?_), h.rt.gB, h.rt.rvB, h.rt.ts.push (bb := b + 1) (fun x hx a ha => Nat.lt_succ_of_lt (h.lb x hx a ha)) (fun q hq => Nat.lt_succ_of_lt (h.vb q hq)) h.own (by omega) hpl hrow hg hn, h.rt.bel.trans (below_of_grown hg (Nat.le_trans h.rt.bB h.rt.BW) (fun q hq => ?_)), Nat.le_trans h.rt.BW hg.size, h.rt.bB⟩
  · have := (h.rt.tsB.1 g e).1; have := h.rt.gB; omega
  · have := (h.rt.tsB.1 q e).1; have := h.rt.rvB q hq; omega
  · exact Nat.le_trans h.rt.bB (h.rt.tsB.1 q hq).1
end
/-- What a reader leaves: tokens of the call's own, and a code. -/
def AnsT (w : World) (q : List Tk × Int) (e : Ending) (w' : World) : Prop :=
  ∃ A c N l, e = .returned (.tuple #[.slice A N c, .int .i64 q.2]) ∧ toks l = q.1 ∧ Ts w' w.heap.size (.slice A N c) N l ∧ Below w.heap.size w w'
theorem ansT_some (w W : World) (q : List Tk × Int) (A : Option Addr) (c N : Nat) (l : List TkV) (z : Int) (hq : q = (toks l, z)) (ht : Ts W w.heap.size (.slice A N c) N l) (hb : Below w.heap.size w W) : AnsT w q (.returned (.tuple #[.slice A N c, .int .i64 z])) W := by
  subst hq
  exact ⟨A, c, N, l, rfl, rfl, ht, hb⟩
theorem ansT_none (w W : World) (q : List Tk × Int) (z : Int) (hq : q = ([], z)) (hb : Below w.heap.size w W) : AnsT w q (.returned (.tuple #[.slice none 0 0, .int .i64 z])) W := by
  subst hq
  exact ⟨none, 0, 0, [], rfl, rfl, Ts.nil _ _, hb⟩
end Go.Proofs.YtljfmcgeiceagaaGreat

/- Read, the program's. -/
namespace Go.Proofs.YtljfmcgeiceagaaGreat
open Go Go.RowKit
set_option linter.unusedVariables false
set_option linter.unusedSimpArgs false

theorem rdLoop_end {n f z : Nat} {s : Rs} {ts : List Tk} (h : s.rest = 0) (h1 : s.err = 0) (hz : z = n) : rdLoop n (f + 1) s z ts = (ts, 0) := by rw [rdLoop, if_pos h, if_pos ⟨h1, hz⟩]
theorem rdLoop_bad {n f z : Nat} {s : Rs} {ts : List Tk} (h : s.rest = 0) (h1 : ¬ (s.err = 0 ∧ z = n)) : rdLoop n (f + 1) s z ts = ([], 20) := by rw [rdLoop, if_pos h, if_neg h1]
theorem rdLoop_long {n f z : Nat} {s : Rs} {ts : List Tk} (h : ¬ s.rest = 0) (h1 : 4096 < s.num.1 / 2) : rdLoop n (f + 1) s z ts = ([], 20) := by rw [rdLoop, if_neg h, if_pos h1]
theorem rdLoop_wrong {n f z : Nat} {s : Rs} {ts : List Tk} (h : ¬ s.rest = 0) (h1 : ¬ 4096 < s.num.1 / 2) {t : Tk} (ht : (rdTok s).1 = t) (h2 : rt t z = false) : rdLoop n (f + 1) s z ts = ([], 20) := by rw [rdLoop, if_neg h, if_neg h1, ht, if_neg (by simp [h2])]
theorem rdLoop_over {n f z : Nat} {s : Rs} {ts : List Tk} (h : ¬ s.rest = 0) (h1 : ¬ 4096 < s.num.1 / 2) {t : Tk} (ht : (rdTok s).1 = t) (h2 : rt t z = true) (h3 : n < z + t.lit.length + t.l.toNat) : rdLoop n (f + 1) s z ts = ([], 20) := by rw [rdLoop, if_neg h, if_neg h1, ht, if_pos h2, if_pos h3]
theorem rdLoop_next {n f z : Nat} {s s' : Rs} {ts : List Tk} (h : ¬ s.rest = 0) (h1 : ¬ 4096 < s.num.1 / 2) {t : Tk} (ht : rdTok s = (t, s')) (h2 : rt t z = true) (h3 : ¬ n < z + t.lit.length + t.l.toNat) {z' : Nat} (hz : z' = z + t.lit.length + t.l.toNat) : rdLoop n (f + 1) s z ts = rdLoop n f s' z' (ts ++ [t]) := by subst hz; rw [rdLoop, if_neg h, if_neg h1, ht, if_pos h2, if_neg h3]

theorem run_field0 (x y : Int) (W : World) : (Instr.field 59 (.agg #[.int .i64 x, .int .i64 y]) 0).run Tryz.prog W = .ok (.int .i64 x) W := by kernel_rfl
theorem toks_snoc (l : List TkV) (y : TkV) : toks (l ++ [y]) = toks l ++ [y.tk] := by simp [toks]
theorem Bt.thaw {W : World} {g : Nat} {x : TkV} (h : Bt W g x) : W.frozen? ⟨g, 0, none⟩ = false ∧ W.frozen? ⟨g, 1, none⟩ = false ∧ W.frozen? ⟨g, 2, none⟩ = false := by
  unfold Bt at h
  refine ⟨?_, ?_, ?_⟩ <;> simp [World.frozen?, h]
theorem Rs.failAt_rest (s : Rs) (e : Int) (q : Nat) : (s.failAt e q).rest ≤ s.rest := by
  unfold Rs.failAt
  split
  · exact Nat.le_refl _
  · unfold Rs.rest; simp
theorem Rs.take_rest (s : Rs) (n : Int) : (s.take n).2.rest ≤ s.rest ∧ (s.take n).1.length ≤ s.rest := by
  unfold Rs.take
  split
  · exact ⟨Nat.le_refl _, by simp⟩
  split
  · exact ⟨s.failAt_rest _ _, by simp⟩
  split
  · exact ⟨s.failAt_rest _ _, by simp⟩
  · refine ⟨by unfold Rs.rest Rs.go; simp only; omega, ?_⟩
    rw [List.length_take, List.length_drop]
    unfold Rs.rest
    omega
theorem Rs.num_rest {s : Rs} (h : s.Ok) : s.num.2.rest ≤ s.rest ∧ (s.rest ≠ 0 → s.num.2.rest < s.rest) := by
  by_cases h0 : s.err = 0
  · obtain ⟨v, k, x, hr, hv, h1 | h1⟩ := Rs.num_cases h h0
    · have hk : 0 < k := by
        obtain ⟨v', e1, e2, _⟩ := Uv.ru_taken (s.bs.drop s.p) 0 0 (by_drop h.by_ s.p) (by omega) (by omega) (by rw [hr]; exact h1.1)
        rw [hr] at e2
        simp only at e2
        have := Uv.uv_pos v'
        omega
      rw [h1.2.2]
      unfold Rs.rest Rs.go
      simp only
      omega
    · rw [h1.2.2]
      unfold Rs.rest
      simp only
      omega
  · rw [Rs.num_bad h0]
    have := h.bad h0
    unfold Rs.rest
    exact ⟨Nat.le_refl _, fun h => by omega⟩
theorem rdTok_rest {s : Rs} (h : s.Ok) (h0 : ¬ s.rest = 0) : (rdTok s).2.rest < s.rest ∧ (rdTok s).1.lit.length ≤ s.rest := by
  have h1 := (Rs.num_rest h).2 h0
  unfold rdTok
  split
  · have := Rs.take_rest s.num.2 (s.num.1 / 2 : Nat)
    simp only
    omega
  · have := (Rs.num_rest h.num.1).1
    split
    · simp only [List.length_nil]; omega
    · simp only [List.length_nil]; omega

set_option maxHeartbeats 2000000 in
set_option maxRecDepth 100000 in
theorem read_is (A : Option Addr) (n c : Nat) (bs : List Nat) (w : World) (hr : Rd w A (b8 bs)) (hn : bs.length = n) (hby : By bs) (hl : n ≤ 140737488351232) :
    Calls Tryz.prog 109 #[.slice A n c] w (AnsT w (rd bs)) := by
  have P1 := Lib.hid (newReader_is A n c bs w hr hn hby hl)
  have HOK := ok0 hby (by omega)
  have hnum := HOK.num
  obtain ⟨⟨m, s1⟩, hm⟩ : ∃ q, q = (rd0 bs).num := ⟨_, rfl⟩
  have HM := Lib.hid hm.symm
  obtain ⟨q, hq⟩ : ∃ q, q = rd bs := ⟨_, rfl⟩
  have HQ : Hid (q = if 4096 < m then ([], 20) else rdLoop m (n + 1) s1 0 []) := Lib.hid (by rw [hq]; unfold rd; rw [← hm, hn])
  rw [← hm] at hnum
  have hm64 := hnum.2.1
  simp only at hm64
  have HS1 : Hid (s1.rest < n + 1) := Lib.hid (by have := hnum.2.2; simp only at this; unfold Rs.rest; rw [this]; unfold rd0; simp only; omega)
  rw [← hq]
  clear hr hn hby hq hm hnum HOK
  go_enter Tryz.func109, Tryz.ntmps109
  go_wp2_with fail
  refine P1.out.mono ?_
  rintro e w1 ⟨g, rv, rfl, hrd1, hb1⟩
  have HR1 : Hid (RT w.heap.size w w1 g rv (rd0 bs) w1.heap.size (.slice none 0 0) 0 []) := Lib.hid ⟨hrd1, hrd1.lt, fun q hq => (hrd1.own.lt q hq).2, Ts.nil _ _, hb1, Nat.le_refl _, hb1.size⟩
  clear P1 hrd1 hb1
  go_wp2_with fail
  refine (uv_r w.heap.size g rv _ w1 HR1.out.rd).mono ?_
  rw [HM.out]
  rintro e w2 ⟨rfl, ht2⟩
  have HR2 := Lib.hid (HR1.out.turned ht2)
  clear ht2 HR1
  obtain ⟨B, hB⟩ : ∃ B, B = w1.heap.size := ⟨_, rfl⟩
  rw [← hB] at HR2
  clear hB
  simp only
  by_cases hlong : 4096 < m
  · have HQ2 : Hid (q = ([], 20)) := Lib.hid (by rw [HQ.out, if_pos hlong])
    go_wp2_with fail
    go_ret2
    exact ansT_none _ _ _ _ HQ2.out HR2.out.bel
  · have HQ2 : Hid (q = rdLoop m (n + 1) s1 0 []) := Lib.hid (by rw [HQ.out, if_neg hlong])
    clear HQ
    go_wp2_with fail
    go_loopw [6, 7] (fun v i wr => ∃ (N z f : Nat) (s : Rs) (l : List TkV), i = .int .i64 z ∧ z ≤ m ∧ N ≤ z ∧ Hid (q = rdLoop m f s z (toks l)) ∧ Hid (s.rest < f) ∧ Hid (RT w.heap.size w wr g rv s B v N l)) (fun _ i _ => m - (intOf i).toNat)
    case atStart => exact ⟨0, 0, n + 1, s1, [], rfl, Nat.zero_le _, Nat.zero_le _, HQ2, HS1, HR2⟩
    case round =>
      clear HQ2 HS1 HR2 HM
      obtain ⟨N, z, f, s, l, rfl, hz, hN, HQ3, HF, HR3⟩ := hrel
      obtain ⟨f, rfl⟩ : ∃ f', f = f' + 1 := ⟨f - 1, by have := HF.out; omega⟩
      obtain ⟨A9, c9, rfl, _⟩ := own_shape HR3.out.ts.row
      have HRS := Lib.hid (show s.rest ≤ 140737488351232 by have := HR3.out.rd.ok.sz; unfold Rs.rest; omega)
      go_wp2_with fail
      refine (rest_is w.heap.size g rv s wr HR3.out.rd).mono ?_
      rintro e w3 ⟨rfl, d3, rfl⟩
      have HR4 := Lib.hid (HR3.out.below (below_drewN (Below.refl _ _) d3))
      clear HR3
      by_cases h0 : s.rest = 0
      · by_cases he : s.err = 0
        · have hfin : s.fin.1 = 0 := by
            unfold Rs.fin
            unfold Rs.rest at h0
            rw [if_neg (by simp [he]), if_neg (by omega)]
          go_wp2_with fail
          refine (end_r w.heap.size g rv s _ HR4.out.rd).mono ?_
          rw [hfin]
          rintro e w4 ⟨rfl, hb4⟩
          have HR5 := Lib.hid (HR4.out.below hb4)
          have hfld := fun W => run_field0 0 ((s.fin.2 : Nat) : Int) W
          clear hb4
          by_cases hzm : z = m
          · have HE : Hid (q = (toks l, 0)) := Lib.hid (HQ3.out.trans (rdLoop_end h0 he hzm))
            have hne : ((z : Int) != (m : Int)) = false := by rw [bne_eq_false_iff_eq]; omega
            clear hzm
            go_wp2_with fail
            go_ret2
            exact ansT_some _ _ _ A9 c9 N l _ HE.out (HR5.out.ts.mono HR5.out.bB) HR5.out.bel
          · have HE : Hid (q = ([], 20)) := Lib.hid (HQ3.out.trans (rdLoop_bad h0 (fun h => hzm h.2)))
            have hne : ((z : Int) != (m : Int)) = true := by rw [bne_iff_ne]; omega
            clear hzm
            go_wp2_with fail
            go_ret2
            exact ansT_none _ _ _ _ HE.out HR5.out.bel
        · have hfin : s.fin.1 = s.err := by
            unfold Rs.fin
            rw [if_pos (by simpa using he)]
          have HE : Hid (q = ([], 20)) := Lib.hid (HQ3.out.trans (rdLoop_bad h0 (fun h => he h.1)))
          have hne : ((s.err : Int) != 0) = true := by rw [bne_iff_ne]; exact he
          go_wp2_with fail
          refine (end_r w.heap.size g rv s _ HR4.out.rd).mono ?_
          rw [hfin]
          rintro e w4 ⟨rfl, hb4⟩
          have HR5 := Lib.hid (HR4.out.below hb4)
          have hfld := fun W => run_field0 s.err ((s.fin.2 : Nat) : Int) W
          clear hb4
          go_wp2_with fail
          go_ret2
          exact ansT_none _ _ _ _ HE.out HR5.out.bel
      · have hu64 := HR4.out.rd.ok.num.2.1
        have HBS := Lib.hid HR4.out.rd.ok.num.2.2
        have HTB := Lib.hid (rdTok_by HR4.out.rd.ok)
        have HTR := Lib.hid (rdTok_rest HR4.out.rd.ok h0)
        obtain ⟨⟨u, s5⟩, hu⟩ : ∃ p, p = s.num := ⟨_, rfl⟩
        have HU1 := Lib.hid hu.symm
        rw [← hu] at hu64 HBS
        simp only at hu64 HBS
        go_wp2_with fail
        refine (uv_r w.heap.size g rv s _ HR4.out.rd).mono ?_
        rw [← hu]
        simp only
        rintro e w5 ⟨rfl, ht5⟩
        have HR5 := Lib.hid (HR4.out.turned ht5)
        clear hu ht5
        by_cases hlong1 : 4096 < u / 2
        · have HE : Hid (q = ([], 20)) := Lib.hid (HQ3.out.trans (rdLoop_long h0 (by rw [HU1.out]; exact hlong1)))
          have hl3 : (4096 : Int) < (u : Int) / 2 := by omega
          go_wp2_with fail
          go_ret2
          exact ansT_none _ _ _ _ HE.out HR5.out.bel
        · have hlong2 : ¬ 4096 < s.num.1 / 2 := by rw [HU1.out]; exact hlong1
          have HX := Lib.hid HR5.out.box
          have hl3 : ¬ (4096 : Int) < (u : Int) / 2 := by omega
          by_cases hm2 : u % 2 = 0
          · have hm3 : (u : Int) % 2 = 0 := by omega
            have PW := Lib.hid (fun W h => raw_r w.heap.size g rv s5 ((u / 2 : Nat) : Int) W h)
            unfold Rawed at PW
            rw [show ((u / 2 : Nat) : Int) = (u : Int) / 2 by omega] at PW
            obtain ⟨⟨lit, s6⟩, hs6⟩ : ∃ p, p = s5.take ((u : Int) / 2) := ⟨_, rfl⟩
            have HT6 : Hid (rdTok s = (⟨lit, 0, 0⟩, s6)) := Lib.hid (by unfold rdTok; rw [HU1.out]; simp only; rw [if_pos hm2, show ((u / 2 : Nat) : Int) = (u : Int) / 2 by omega, ← hs6])
            rw [← hs6] at PW
            simp only at PW
            clear hs6
            have HU : Hid (rdTok s = (⟨lit, 0, 0⟩, s6)) := HT6
            have HBY : Hid (By lit) := Lib.hid (by have h := HTB.out; rw [HT6.out] at h; exact h)
            have HLS : Hid (lit.length ≤ 140737488351232) := Lib.hid (by have h := HTR.out.2; rw [HT6.out] at h; have := HRS.out; simp only at h; omega)
            have HSR : Hid (s6.rest < f) := Lib.hid (by have h := HTR.out.1; rw [HT6.out] at h; have := HF.out; simp only at h; omega)
            go_wp2_with fail
            refine (PW.out _ HX.out.rt.rd).mono ?_
            rintro e w6 ⟨A6, c6, rfl, ho6, ht6⟩
            have HX6 := Lib.hid (HX.out.turned ht6)
            obtain ⟨c0, c1, c2⟩ := HX6.out.bt.facts
            obtain ⟨f0, f1, f2⟩ := HX6.out.bt.thaw
            have HX7 := Lib.hid (HX6.out.lit (own_mono ho6 (by simp)))
            have hls := HLS.out
            clear ho6 ht6 HX
            simp only [tkZero] at c0 c1 c2
            have HPL : Hid (PlTk ⟨A6, c6, lit, 0, 0⟩) := Lib.hid ⟨HBY.out, by have := HLS.out; simp only; omega, by simp only; omega, by simp only; omega⟩
            obtain ⟨b, hb⟩ : ∃ b, b = rt ⟨lit, 0, 0⟩ z := ⟨_, rfl⟩
            have HBV := Lib.hid hb.symm
            have PR := Lib.hid (fun W => right_is ⟨A6, c6, lit, 0, 0⟩ z W (by omega) (by simp only; omega) (by simp only; omega) (by have := HLS.out; simp only; omega))
            simp only [TkV.val, TkV.tk] at PR
            rw [← hb] at PR
            clear hb
            go_wp2_with fail
            refine (PR.out _).mono ?_
            rintro e w8 ⟨rfl, hb8⟩
            have HX8 := Lib.hid (HX7.out.below hb8)
            clear hb8 c0 c1 c2 f0 f1 f2
            obtain ⟨c0, c1, c2⟩ := HX8.out.bt.facts
            simp only at c0 c1 c2
            rcases b with _ | _
            · have HE : Hid (q = ([], 20)) := Lib.hid (HQ3.out.trans (rdLoop_wrong h0 hlong2 (by rw [HT6.out]) HBV.out))
              go_wp2_with fail
              go_ret2
              exact ansT_none _ _ _ _ HE.out HX8.out.rt.bel
            · have HRC := Lib.hid (rt_cases HBV.out)
              have hl258 : 0 ≤ 0 ∧ 0 ≤ 258 ∧ 1 ≤ (lit.length : Int) + (0 : Int) := by
                rcases HRC.out with h | h
                · have e1 : (0 : Int) = 0 := h.2.2
                  have e2 : 0 < lit.length := h.1
                  try simp only [List.length_nil] at e2
                  omega
                · have e1 : (5 : Int) ≤ 0 := h.2.1
                  have e2 : (0 : Int) ≤ 258 := h.2.2.1
                  omega
              have HLN : Hid ((0 : Int) = (((0 : Int).toNat : Nat) : Int)) := Lib.hid (by omega)
              by_cases hov : (m : Int) < (z : Int) + ((lit.length : Int) + (0 : Int))
              · have HE : Hid (q = ([], 20)) := Lib.hid (HQ3.out.trans (rdLoop_over h0 hlong2 (by rw [HT6.out]) HBV.out (by simp only [List.length_nil]; omega)))
                go_wp2_with fail
                go_ret2
                exact ansT_none _ _ _ _ HE.out HX8.out.rt.bel
              · have HE := Lib.hid (HQ3.out.trans (rdLoop_next h0 hlong2 (HT6.out) HBV.out (by simp only [List.length_nil]; omega) (z' := z + lit.length) (by simp only [List.length_nil]; omega)))
                have HBW := Lib.hid HX8.out.rt.BW
                go_wp2_with (at_builtin; go_loud ((refine pushT w8 rfl (.tmp 61) (.tmp 63) (by rfl) B (.slice A9 N c9) N l (by rfl) HX8.out.rt.ts.row ⟨A6, c6, lit, 0, 0⟩ w8.heap.size (by rfl) (by rfl) (by omega) HBW.out ?_); intro v9 w9 ho9 hg9 hn9; have HR9 := Lib.hid (HX8.out.push HPL.out ho9 hg9 hn9); clear ho9 hg9 hn9))
                go_roundw
                case rel => exact ⟨N + 1, z + lit.length, f, _, _, by go_num, by omega, by omega, Lib.hid (by rw [toks_snoc]; exact HE.out), HSR, HR9⟩
                case measure => simp [intOf]; omega
          · have hm3 : ¬ (u : Int) % 2 = 0 := by omega
            have hd64 := HR5.out.rd.ok.num.2.1
            have PW := Lib.hid (fun W h => uv_r w.heap.size g rv s5 W h)
            unfold Gave at PW
            obtain ⟨⟨d, s6⟩, hs6⟩ : ∃ p, p = s5.num := ⟨_, rfl⟩
            rw [← hs6] at PW hd64
            simp only at PW hd64
            have HD6 := Lib.hid hs6.symm
            clear hs6
            by_cases hd2 : d ≤ 2048
            · have HT6 : Hid (rdTok s = (⟨[], (d : Int), (u : Int) / 2⟩, s6)) := Lib.hid (by unfold rdTok; rw [HU1.out]; simp only; rw [if_neg hm2, HD6.out]; simp only; rw [if_pos hd2, show ((u / 2 : Nat) : Int) = (u : Int) / 2 by omega])
              have HBY : Hid (By ([] : List Nat)) := Lib.hid (fun b hb => by cases hb)
              have HLS : Hid (([] : List Nat).length ≤ 140737488351232) := Lib.hid (by simp)
              have HSR : Hid (s6.rest < f) := Lib.hid (by have h := HTR.out.1; rw [HT6.out] at h; have := HF.out; simp only at h; omega)
              go_wp2_with fail
              refine (PW.out _ HX.out.rt.rd).mono ?_
              rintro e w6 ⟨rfl, ht6⟩
              have HX6 := Lib.hid (HX.out.turned ht6)
              obtain ⟨c0, c1, c2⟩ := HX6.out.bt.facts
              obtain ⟨f0, f1, f2⟩ := HX6.out.bt.thaw
              have HX7 := Lib.hid (HX6.out.dl (d : Int) ((u : Int) / 2))
              clear ht6 HX
              simp only [tkZero] at c0 c1 c2
              have HPL : Hid (PlTk ⟨none, 0, [], (d : Int), ((u : Int) / 2)⟩) := Lib.hid ⟨HBY.out, by have := HLS.out; simp only; omega, by simp only; omega, by simp only; omega⟩
              obtain ⟨b, hb⟩ : ∃ b, b = rt ⟨[], (d : Int), ((u : Int) / 2)⟩ z := ⟨_, rfl⟩
              have HBV := Lib.hid hb.symm
              have PR := Lib.hid (fun W => right_is ⟨none, 0, [], (d : Int), ((u : Int) / 2)⟩ z W (by omega) (by simp only; omega) (by simp only; omega) (by have := HLS.out; simp only; omega))
              simp only [TkV.val, TkV.tk] at PR
              rw [← hb] at PR
              clear hb
              go_wp2_with fail
              refine (PR.out _).mono ?_
              rintro e w8 ⟨rfl, hb8⟩
              have HX8 := Lib.hid (HX7.out.below hb8)
              clear hb8 c0 c1 c2 f0 f1 f2
              obtain ⟨c0, c1, c2⟩ := HX8.out.bt.facts
              simp only at c0 c1 c2
              rcases b with _ | _
              · have HE : Hid (q = ([], 20)) := Lib.hid (HQ3.out.trans (rdLoop_wrong h0 hlong2 (by rw [HT6.out]) HBV.out))
                go_wp2_with fail
                go_ret2
                exact ansT_none _ _ _ _ HE.out HX8.out.rt.bel
              · have HRC := Lib.hid (rt_cases HBV.out)
                have hl258 : 0 ≤ ((u : Int) / 2) ∧ ((u : Int) / 2) ≤ 258 ∧ 1 ≤ 0 + (((u : Int) / 2) : Int) := by
                  rcases HRC.out with h | h
                  · have e1 : (((u : Int) / 2) : Int) = 0 := h.2.2
                    have e2 : 0 < [].length := h.1
                    try simp only [List.length_nil] at e2
                    omega
                  · have e1 : (5 : Int) ≤ ((u : Int) / 2) := h.2.1
                    have e2 : (((u : Int) / 2) : Int) ≤ 258 := h.2.2.1
                    omega
                have HLN : Hid ((((u : Int) / 2) : Int) = (((((u : Int) / 2) : Int).toNat : Nat) : Int)) := Lib.hid (by omega)
                by_cases hov : (m : Int) < (z : Int) + (0 + (((u : Int) / 2) : Int))
                · have HE : Hid (q = ([], 20)) := Lib.hid (HQ3.out.trans (rdLoop_over h0 hlong2 (by rw [HT6.out]) HBV.out (by simp only [List.length_nil]; omega)))
                  go_wp2_with fail
                  go_ret2
                  exact ansT_none _ _ _ _ HE.out HX8.out.rt.bel
                · have HE := Lib.hid (HQ3.out.trans (rdLoop_next h0 hlong2 (HT6.out) HBV.out (by simp only [List.length_nil]; omega) (z' := z + u / 2) (by simp only [List.length_nil]; omega)))
                  have HBW := Lib.hid HX8.out.rt.BW
                  go_wp2_with (at_builtin; go_loud ((refine pushT w8 rfl (.tmp 61) (.tmp 63) (by rfl) B (.slice A9 N c9) N l (by rfl) HX8.out.rt.ts.row ⟨none, 0, [], (d : Int), ((u : Int) / 2)⟩ w8.heap.size (by rfl) (by rfl) (by omega) HBW.out ?_); intro v9 w9 ho9 hg9 hn9; have HR9 := Lib.hid (HX8.out.push HPL.out ho9 hg9 hn9); clear ho9 hg9 hn9))
                  go_roundw
                  case rel => exact ⟨N + 1, z + u / 2, f, _, _, by go_num, by omega, by omega, Lib.hid (by rw [toks_snoc]; exact HE.out), HSR, HR9⟩
                  case measure => simp [intOf]; omega
            · have HT6 : Hid (rdTok s = (⟨[], 0, 0⟩, s6)) := Lib.hid (by unfold rdTok; rw [HU1.out]; simp only; rw [if_neg hm2, HD6.out]; simp only; rw [if_neg hd2])
              have hd3 : ¬ (d : Int) ≤ 2048 := by omega
              go_wp2_with fail
              refine (PW.out _ HX.out.rt.rd).mono ?_
              rintro e w6 ⟨rfl, ht6⟩
              have HX6 := Lib.hid (HX.out.turned ht6)
              obtain ⟨c0, c1, c2⟩ := HX6.out.bt.facts
              clear ht6 HX
              simp only [tkZero] at c0 c1 c2
              have PR := Lib.hid (fun W => right_is tkZero z W (by omega) (by simp only [tkZero]; omega) (by simp only [tkZero]; omega) (by simp [tkZero]))
              simp only [tkZero, TkV.val, TkV.tk] at PR
              rw [rt_none] at PR
              have HE : Hid (q = ([], 20)) := Lib.hid (HQ3.out.trans (rdLoop_wrong h0 hlong2 (by rw [HT6.out]) (rt_none z)))
              go_wp2_with fail
              refine (PR.out _).mono ?_
              rintro e w8 ⟨rfl, hb8⟩
              have HX8 := Lib.hid (HX6.out.below hb8)
              go_wp2_with fail
              go_ret2
              exact ansT_none _ _ _ _ HE.out HX8.out.rt.bel
end Go.Proofs.YtljfmcgeiceagaaGreat

/- numberAt, the document's (printed by gen_sqrnum.py). -/
namespace Go.Proofs.YtljfmcgeiceagaaGreat
open Go Go.RowKit
set_option linter.unusedVariables false
set_option linter.unusedSimpArgs false

def nAt (b : List Nat) (q : Nat) : Nat × Nat × Bool := match nA b q with
  | none => (0, q, false)
  | some (v, x) => (v, x, true)
theorem nAt_none {b : List Nat} {q k v : Nat} {r : List Nat} {x : Nat} (h : Uv.ru 0 0 (b.drop q) = Uv.ru k v r) (h1 : Uv.ru k v r = (0, 0, x)) (hx : x ≠ 0) : nAt b q = (0, q, false) := by
  have e : nA b q = none := by
    unfold nA
    rw [h, h1, if_neg (by simp [hx])]
  unfold nAt
  rw [e]
theorem nAt_some {b : List Nat} {q k v : Nat} {r : List Nat} {v' k' : Nat} (h : Uv.ru 0 0 (b.drop q) = Uv.ru k v r) (h1 : Uv.ru k v r = (v', k', 0)) (hk : k' ≤ 3) : nAt b q = (v', q + k', true) := by
  have e : nA b q = some (v', q + k') := by
    unfold nA
    rw [h, h1, if_pos ⟨rfl, hk⟩]
  unfold nAt
  rw [e]
theorem nAt_far {b : List Nat} {q v : Nat} {r : List Nat} (h : Uv.ru 0 0 (b.drop q) = Uv.ru 3 v r) (hr : By r) (hv : v < 2097152) : nAt b q = (0, q, false) := by
  have e : nA b q = none := by
    unfold nA
    rw [h]
    rcases Uv.ru_err r 3 v with h1 | ⟨_, _, h1⟩
    · obtain ⟨v', _, h2, _⟩ := Uv.ru_taken r 3 v hr (by omega) (by simpa using hv) h1
      have := Uv.uv_pos v'
      rw [if_neg (by omega)]
    · rw [if_neg (by omega)]
  unfold nAt
  rw [e]
theorem ru_val {b : List Nat} (hb : By b) : ∀ {i a : Nat}, a < 128 ^ i → i ≤ 3 → (Uv.ru i a b).2.2 = 0 → (Uv.ru i a b).2.1 ≤ 3 → (Uv.ru i a b).1 < 2097152 := by
  induction b with
  | nil => intro i a ha hi h; simp [Uv.ru] at h
  | cons c r ih =>
    intro i a ha hi h h3
    have hr : By r := fun x hx => hb x (List.mem_cons_of_mem _ hx)
    simp only [Uv.ru] at h h3 ⊢
    by_cases h1 : i = 9 ∧ c ≠ 1
    · rw [if_pos h1] at h; simp at h
    · rw [if_neg h1] at h h3 ⊢
      by_cases h2 : 0 < i ∧ c = 0
      · rw [if_pos h2] at h; simp at h
      · rw [if_neg h2] at h h3 ⊢
        have hs : a + c % 128 * 128 ^ i < 128 ^ (i + 1) := by
          have h4 : c % 128 * 128 ^ i ≤ 127 * 128 ^ i := Nat.mul_le_mul_right _ (by omega)
          rw [Nat.pow_succ]
          omega
        by_cases h5 : c < 128
        · rw [if_pos h5] at h3 ⊢
          simp only at h3 ⊢
          have h6 : (128 : Nat) ^ (i + 1) ≤ 128 ^ 3 := Nat.pow_le_pow_right (by omega) h3
          have h7 : (128 : Nat) ^ 3 = 2097152 := by decide
          omega
        · rw [if_neg h5] at h h3 ⊢
          by_cases hi3 : i = 3
          · exfalso
            subst hi3
            obtain ⟨v', _, e2, _⟩ := Uv.ru_taken r (3 + 1) _ hr (by omega) hs h
            have := Uv.uv_pos v'
            omega
          · exact ih hr hs (by omega) h h3
theorem nAt_le {b : List Nat} {q : Nat} (hb : By b) (hq : q ≤ b.length) : (nAt b q).1 < 2097152 ∧ q ≤ (nAt b q).2.1 ∧ (nAt b q).2.1 ≤ b.length ∧ ((nAt b q).2.2 = true → q < (nAt b q).2.1) := by
  unfold nAt nA
  split
  · simp; exact hq
  · rename_i v x h
    split at h
    · rename_i h1
      injection h with h
      injection h with h2 h3
      obtain ⟨v', e1, e2, e3, e4, _, _⟩ := Uv.ru_taken (b.drop q) 0 0 (by_drop hb q) (by omega) (by omega) h1.1
      simp only [Nat.zero_add, Nat.pow_zero, Nat.mul_one] at e1 e2
      rw [List.length_drop] at e3
      have hp := Uv.uv_pos v'
      have h4 := h1.2
      have h5 := ru_val (by_drop hb q) (i := 0) (a := 0) (by omega) (by omega) h1.1 h1.2
      simp only
      refine ⟨by omega, by omega, by omega, fun _ => by omega⟩
    · simp at h

set_option maxHeartbeats 1000000 in
set_option maxRecDepth 100000 in
theorem numberAt_is (A : Option Addr) (n c at_ : Nat) (bs : List Nat) (w : World) (hr : Rd w A (b8 bs)) (hn : bs.length = n) (hby : By bs) (hl : n ≤ 140737488351232) (ha : at_ ≤ n) :
    Calls Tryz.prog 123 #[.slice A n c, .int .i64 (at_ : Int)] w fun e w' => e = .returned (.tuple #[.int .i64 ((nAt bs at_).1 : Int), .int .i64 ((nAt bs at_).2.1 : Int), .bool (nAt bs at_).2.2]) ∧ ∃ m, w' = w.drewN m := by
  have HR := Lib.hid hr
  have HN := Lib.hid hn
  have HY := Lib.hid hby
  obtain ⟨q, hq⟩ : ∃ q, q = nAt bs at_ := ⟨_, rfl⟩
  have HQ := Lib.hid hq
  rw [← hq]
  clear hr hn hby hq
  go_enter Tryz.func123, Tryz.ntmps123
  go_wp2
  go_loopw [7, 8, 9] (fun v u i wr => ∃ (k y j : Nat), k ≤ 3 ∧ v = .int .i64 y ∧ u = .int .i64 ((128 ^ k : Nat) : Int) ∧ i = .int .i64 k ∧ y < 128 ^ k ∧ at_ + k ≤ n ∧ Hid (Uv.ru 0 0 (bs.drop at_) = Uv.ru k y (bs.drop (at_ + k))) ∧ wr = w.drewN j) (fun _ _ i _ => 3 - (intOf i).toNat)
  case atStart => exact ⟨0, 0, 0, by omega, rfl, rfl, rfl, by simp, ha, Lib.hid rfl, rfl⟩
  case round =>
    obtain ⟨k, y, j, hk, rfl, rfl, rfl, hy, hkn, HU, rfl⟩ := hrel
    rcases (show k = 0 ∨ k = 1 ∨ k = 2 ∨ k = 3 by omega) with rfl | rfl | rfl | rfl
    · rw [show ((128 ^ 0 : Nat) : Int) = 1 from rfl]
      have hy2 : y = 0 := by simpa using hy
      subst hy2
      clear hy
      simp only [Nat.add_zero] at hkn
      clear HU
      have HU : Hid (Uv.ru 0 0 (bs.drop at_) = Uv.ru 0 0 (bs.drop at_)) := Lib.hid rfl
      by_cases hend : at_ < n
      · obtain ⟨x, hx, hx8, hd⟩ := HY.out.get (k := at_) (by rw [HN.out]; exact hend)
        obtain ⟨g, off, rfl, hg, hc⟩ := HR.out.at_ hx
        have HD := Lib.hid hd
        clear hx hd
        by_cases hx1 : x < 128
        · have HE : Hid (q = (x, at_ + 1, true)) := Lib.hid (by rw [HQ.out]; refine (nAt_some HU.out (by rw [HD.out, Uv.ru, if_neg (by omega), if_neg (by omega), if_pos hx1, Nat.mod_eq_of_lt hx1]) (by omega)).trans (by simp))
          go_wp2
          all_goals
            go_ret3
            exact ⟨by rw [HE.out]; go_num, _, rfl⟩
        · have HU2 : Hid (Uv.ru 0 0 (bs.drop at_) = Uv.ru (0 + 1) (x - 128) (bs.drop (at_ + (0 + 1)))) := Lib.hid (by rw [HD.out, Uv.ru, if_neg (by omega), if_neg (by omega), if_neg hx1, show x % 128 = x - 128 by omega, show 0 + (x - 128) * 128 ^ 0 = x - 128 by simp])
          go_wp2
          go_roundw
          case rel => exact ⟨0 + 1, x - 128, _, by omega, by go_num, by go_num, by go_num, by omega, by omega, HU2, rfl⟩
          case measure => simp [intOf]
      · have HE : Hid (q = (0, at_, false)) := Lib.hid (by rw [HQ.out]; exact nAt_none (x := 10) HU.out (by rw [List.drop_of_length_le (by rw [HN.out]; omega), Uv.ru]) (by omega))
        go_wp2
        go_ret3
        exact ⟨by rw [HE.out]; rfl, _, rfl⟩
    · rw [show ((128 ^ 1 : Nat) : Int) = 128 from rfl]
      have hy2 : y < 128 := hy
      clear hy
      by_cases hend : at_ + 1 < n
      · obtain ⟨x, hx, hx8, hd⟩ := HY.out.get (k := at_ + 1) (by rw [HN.out]; exact hend)
        obtain ⟨g, off, rfl, hg, hc⟩ := HR.out.at_ hx
        have HD := Lib.hid hd
        clear hx hd
        by_cases hx1 : x < 128
        · by_cases hx0 : x = 0
          · have HE : Hid (q = (0, at_, false)) := Lib.hid (by rw [HQ.out]; exact nAt_none (x := 11) HU.out (by rw [HD.out, Uv.ru, if_neg (by omega), if_pos (by omega)]) (by omega))
            subst hx0
            go_wp2
            go_ret3
            exact ⟨by rw [HE.out]; rfl, _, rfl⟩
          · have HE : Hid (q = (y + x * 128, at_ + 1 + 1, true)) := Lib.hid (by rw [HQ.out]; refine (nAt_some HU.out (by rw [HD.out, Uv.ru, if_neg (by omega), if_neg (by omega), if_pos hx1, Nat.mod_eq_of_lt hx1]) (by omega)).trans (by simp [Nat.add_assoc]))
            go_wp2
            go_ret3
            exact ⟨by rw [HE.out]; go_num, _, rfl⟩
        · have HU2 : Hid (Uv.ru 0 0 (bs.drop at_) = Uv.ru (1 + 1) (y + (x - 128) * 128) (bs.drop (at_ + (1 + 1)))) := Lib.hid (by rw [HU.out, HD.out, Uv.ru, if_neg (by omega), if_neg (by omega), if_neg hx1, show x % 128 = x - 128 by omega])
          go_wp2
          go_roundw
          case rel => exact ⟨1 + 1, y + (x - 128) * 128, _, by omega, by go_num, by go_num, by go_num, by omega, by omega, HU2, rfl⟩
          case measure => simp [intOf]
      · have HE : Hid (q = (0, at_, false)) := Lib.hid (by rw [HQ.out]; exact nAt_none (x := 10) HU.out (by rw [List.drop_of_length_le (by rw [HN.out]; omega), Uv.ru]) (by omega))
        go_wp2
        go_ret3
        exact ⟨by rw [HE.out]; rfl, _, rfl⟩
    · rw [show ((128 ^ 2 : Nat) : Int) = 16384 from rfl]
      have hy2 : y < 16384 := hy
      clear hy
      by_cases hend : at_ + 2 < n
      · obtain ⟨x, hx, hx8, hd⟩ := HY.out.get (k := at_ + 2) (by rw [HN.out]; exact hend)
        obtain ⟨g, off, rfl, hg, hc⟩ := HR.out.at_ hx
        have HD := Lib.hid hd
        clear hx hd
        by_cases hx1 : x < 128
        · by_cases hx0 : x = 0
          · have HE : Hid (q = (0, at_, false)) := Lib.hid (by rw [HQ.out]; exact nAt_none (x := 11) HU.out (by rw [HD.out, Uv.ru, if_neg (by omega), if_pos (by omega)]) (by omega))
            subst hx0
            go_wp2
            go_ret3
            exact ⟨by rw [HE.out]; rfl, _, rfl⟩
          · have HE : Hid (q = (y + x * 16384, at_ + 2 + 1, true)) := Lib.hid (by rw [HQ.out]; refine (nAt_some HU.out (by rw [HD.out, Uv.ru, if_neg (by omega), if_neg (by omega), if_pos hx1, Nat.mod_eq_of_lt hx1]) (by omega)).trans (by simp [Nat.add_assoc]))
            go_wp2
            go_ret3
            exact ⟨by rw [HE.out]; go_num, _, rfl⟩
        · have HU2 : Hid (Uv.ru 0 0 (bs.drop at_) = Uv.ru (2 + 1) (y + (x - 128) * 16384) (bs.drop (at_ + (2 + 1)))) := Lib.hid (by rw [HU.out, HD.out, Uv.ru, if_neg (by omega), if_neg (by omega), if_neg hx1, show x % 128 = x - 128 by omega])
          go_wp2
          go_roundw
          case rel => exact ⟨2 + 1, y + (x - 128) * 16384, _, by omega, by go_num, by go_num, by go_num, by omega, by omega, HU2, rfl⟩
          case measure => simp [intOf]
      · have HE : Hid (q = (0, at_, false)) := Lib.hid (by rw [HQ.out]; exact nAt_none (x := 10) HU.out (by rw [List.drop_of_length_le (by rw [HN.out]; omega), Uv.ru]) (by omega))
        go_wp2
        go_ret3
        exact ⟨by rw [HE.out]; rfl, _, rfl⟩
    · have HE : Hid (q = (0, at_, false)) := Lib.hid (by rw [HQ.out]; exact nAt_far HU.out (by_drop HY.out _) (by simpa using hy))
      go_wp2
      go_ret3
      exact ⟨by rw [HE.out]; rfl, _, rfl⟩
end Go.Proofs.YtljfmcgeiceagaaGreat

/- Read, the document's. -/
namespace Go.Proofs.YtljfmcgeiceagaaGreat
open Go Go.RowKit
set_option linter.unusedVariables false
set_option linter.unusedSimpArgs false

theorem nA_none {b : List Nat} {q v x : Nat} (h : nAt b q = (v, x, false)) : nA b q = none := by
  unfold nAt at h
  cases e : nA b q with
  | none => rfl
  | some p => rw [e] at h; simp at h
theorem nA_some {b : List Nat} {q v x : Nat} (h : nAt b q = (v, x, true)) : nA b q = some (v, x) := by
  unfold nAt at h
  cases e : nA b q with
  | none => rw [e] at h; simp at h
  | some p => rw [e] at h; simp only [Prod.mk.injEq, and_true] at h; rw [← h.1, ← h.2]
section
variable {b : List Nat} {f q v x d e : Nat} {ts : List Tk}
theorem rr_end (h : b.length ≤ q) : rrLoop b (f + 1) q ts = some ts := by rw [rrLoop, if_neg (by omega)]
theorem rr_bad (h : q < b.length) (h1 : nAt b q = (v, x, false)) : rrLoop b (f + 1) q ts = none := by rw [rrLoop, if_pos h, nA_none h1]
theorem rr_short (h : q < b.length) (h1 : nAt b q = (v, x, true)) (h2 : v % 2 = 0) (h3 : b.length - x < v / 2) : rrLoop b (f + 1) q ts = none := by
  rw [rrLoop, if_pos h, nA_some h1]
  simp only
  rw [if_pos h2, if_pos h3]
theorem rr_lit (h : q < b.length) (h1 : nAt b q = (v, x, true)) (h2 : v % 2 = 0) (h3 : ¬ b.length - x < v / 2) {t : Tk} (ht : t = ⟨(b.drop x).take (v / 2), 0, 0⟩) : rrLoop b (f + 1) q ts = rrLoop b f (x + v / 2) (ts ++ [t]) := by
  subst ht
  rw [rrLoop, if_pos h, nA_some h1]
  simp only
  rw [if_pos h2, if_neg h3]
theorem rr_bad2 (h : q < b.length) (h1 : nAt b q = (v, x, true)) (h2 : ¬ v % 2 = 0) (h3 : nAt b x = (d, e, false)) : rrLoop b (f + 1) q ts = none := by
  rw [rrLoop, if_pos h, nA_some h1]
  simp only
  rw [if_neg h2, nA_none h3]
theorem rr_match (h : q < b.length) (h1 : nAt b q = (v, x, true)) (h2 : ¬ v % 2 = 0) (h3 : nAt b x = (d, e, true)) {t : Tk} (ht : t = ⟨[], (d : Nat), (v / 2 : Nat)⟩) : rrLoop b (f + 1) q ts = rrLoop b f e (ts ++ [t]) := by
  subst ht
  rw [rrLoop, if_pos h, nA_some h1]
  simp only
  rw [if_neg h2, nA_some h3]
theorem rrd_bad (h : nAt b 0 = (v, x, false)) : rrd1 b = none := by unfold rrd1; rw [nA_none h]
theorem rrd_go (h : nAt b 0 = (v, x, true)) : rrd1 b = rrLoop b (b.length + 1) x [] := by unfold rrd1; rw [nA_some h]
end
theorem toks_push (l : List TkV) (y : TkV) : toks (l ++ [y]) = toks l ++ [y.tk] := by simp [toks]

set_option maxHeartbeats 4000000 in
set_option maxRecDepth 100000 in
theorem rread_is (A : Option Addr) (n c : Nat) (bs : List Nat) (w : World) (hr : Rd w A (b8 bs)) (hn : bs.length = n) (hby : By bs) (hl : n ≤ 3000000000000) :
    Calls Tryz.prog 113 #[.slice A n c] w (AnsT w (rd bs)) := by
  have HNA : Hid (∀ (x : Nat) (W : World), Below w.heap.size w W → x ≤ n → Calls Tryz.prog 123 #[.slice A n c, .int .i64 (x : Int)] W fun e w' => e = .returned (.tuple #[.int .i64 ((nAt bs x).1 : Int), .int .i64 ((nAt bs x).2.1 : Int), .bool (nAt bs x).2.2]) ∧ ∃ m, w' = W.drewN m) :=
    Lib.hid (fun x W hb hx => numberAt_is A n c x bs W (hr.below hb) hn hby (by omega) hx)
  have HLE : Hid (∀ x, x ≤ n → (nAt bs x).1 < 2097152 ∧ x ≤ (nAt bs x).2.1 ∧ (nAt bs x).2.1 ≤ n ∧ ((nAt bs x).2.2 = true → x < (nAt bs x).2.1)) := Lib.hid (fun x hx => by rw [← hn]; exact nAt_le hby (by rw [hn]; exact hx))
  have HR := Lib.hid hr
  have HN := Lib.hid hn
  have HY := Lib.hid hby
  have HNO : Hid (rrd1 bs = none → rd bs = ([], 20)) := Lib.hid (rd_none hby (by omega))
  have HYES : Hid (∀ ts, wr ts = (bs, 0) → rd bs = (ts, 0)) := Lib.hid (fun ts h => rd_yes hby (by omega) h)
  have HBAD : Hid (∀ ts, rrd1 bs = some ts → wr ts ≠ (bs, 0) → rd bs = ([], 20)) := Lib.hid (fun ts h h1 => rd_no hby (by omega) h h1)
  obtain ⟨q, hq⟩ : ∃ q, q = rd bs := ⟨_, rfl⟩
  rw [← hq] at HNO HYES HBAD ⊢
  clear hr hn hby hq
  obtain ⟨p0, hp0⟩ : ∃ p, p = nAt bs 0 := ⟨_, rfl⟩
  have P0 := Lib.hid (HNA.out 0 w (Below.refl _ _) (Nat.zero_le _))
  have hL0 := HLE.out 0 (Nat.zero_le _)
  rw [← hp0] at P0 hL0
  rw [show ((0 : Nat) : Int) = 0 from rfl] at P0
  have H0 := Lib.hid hp0.symm
  clear hp0
  obtain ⟨v0, q0, b0⟩ := p0
  simp only at P0 hL0
  have hq0 : q0 ≤ n := hL0.2.2.1
  clear hL0
  rcases b0 with _ | _
  · have HE : Hid (q = ([], 20)) := Lib.hid (HNO.out (rrd_bad H0.out))
    go_enter Tryz.func113, Tryz.ntmps113
    go_wp2_with fail
    refine P0.out.mono ?_
    rintro e w1 ⟨rfl, d1, rfl⟩
    go_wp2_with fail
    go_ret2
    exact ansT_none _ _ _ _ HE.out (below_drewN (Below.refl _ _) d1)
  · have HG : Hid (rrd1 bs = rrLoop bs (n + 1) q0 []) := Lib.hid (by rw [rrd_go H0.out, HN.out])
    obtain ⟨R, hR⟩ : ∃ R, R = rrd1 bs := ⟨_, rfl⟩
    rw [← hR] at HNO HBAD HG
    clear hR H0
    go_enter Tryz.func113, Tryz.ntmps113
    go_wp2_with fail
    refine P0.out.mono ?_
    rintro e w1 ⟨rfl, d1, rfl⟩
    have HB1 := Lib.hid (below_drewN (Below.refl w.heap.size w) d1)
    clear P0
    go_wp2_with fail
    go_loopw [5, 7] (fun i v wr => ∃ (N q1 f : Nat) (l : List TkV), i = .int .i64 q1 ∧ q1 ≤ n ∧ N ≤ q1 ∧ n - q1 < f ∧ Hid (R = rrLoop bs f q1 (toks l)) ∧ Hid (Ts wr w.heap.size v N l) ∧ Hid (Below w.heap.size w wr)) (fun i _ _ => n - (intOf i).toNat)
    case atStart => exact ⟨0, q0, n + 1, [], rfl, hq0, Nat.zero_le _, by omega, HG, Lib.hid (Ts.nil _ _), HB1⟩
    case round =>
      clear HG HB1 hq0
      obtain ⟨N, q1, f, l, rfl, hq1, hN, hf, HQ, HT, HB⟩ := hrel
      have hsz := HB.out.size
      obtain ⟨f, rfl⟩ : ∃ f', f = f' + 1 := ⟨f - 1, by omega⟩
      obtain ⟨A9, c9, rfl, _⟩ := own_shape HT.out.row
      by_cases hlt : q1 < n
      · have HLT : Hid (q1 < bs.length) := Lib.hid (by rw [HN.out]; exact hlt)
        obtain ⟨p1, hp1⟩ : ∃ p, p = nAt bs q1 := ⟨_, rfl⟩
        have P1 := Lib.hid (HNA.out q1 wr HB.out hq1)
        have hL1 := HLE.out q1 hq1
        rw [← hp1] at P1 hL1
        have H1 := Lib.hid hp1.symm
        clear hp1
        obtain ⟨v1, x1, b1⟩ := p1
        simp only at P1 hL1
        obtain ⟨hv1, hx1, hx2, hx3⟩ := hL1
        rcases b1 with _ | _
        · have HE : Hid (q = ([], 20)) := Lib.hid (HNO.out (HQ.out.trans (rr_bad HLT.out H1.out)))
          clear hx3
          go_wp2_with fail
          refine P1.out.mono ?_
          rintro e w2 ⟨rfl, d2, rfl⟩
          go_wp2_with fail
          go_ret2
          exact ansT_none _ _ _ _ HE.out (below_drewN HB.out d2)
        · have hx4 : q1 < x1 := hx3 rfl
          clear hx3
          by_cases hm : v1 % 2 = 0
          · have hm3 : ((v1 : Int) % 2 == 0) = true := by rw [beq_iff_eq]; omega
            by_cases hs : n - x1 < v1 / 2
            · have HE : Hid (q = ([], 20)) := Lib.hid (HNO.out (HQ.out.trans (rr_short HLT.out H1.out hm (by rw [HN.out]; exact hs))))
              have hs3 : (n : Int) - (x1 : Int) < (v1 : Int) / 2 := by omega
              go_wp2_with fail
              refine P1.out.mono ?_
              rintro e w2 ⟨rfl, d2, rfl⟩
              go_wp2_with fail
              go_ret2
              exact ansT_none _ _ _ _ HE.out (below_drewN HB.out d2)
            · obtain ⟨m, hmm⟩ : ∃ m, m = v1 / 2 := ⟨_, rfl⟩
              have hmi : (v1 : Int) / 2 = (m : Int) := by omega
              have hxm : x1 + m ≤ n := by omega
              obtain ⟨L, hL⟩ : ∃ L, L = (bs.drop x1).take m := ⟨_, rfl⟩
              have hLl : L.length = m := by rw [hL, List.length_take, List.length_drop, HN.out]; omega
              have HLL := Lib.hid hLl
              have HLB : Hid (By L) := Lib.hid (by rw [hL]; exact (HY.out.drop x1).take m)
              have HNX : Hid (rrLoop bs (f + 1) q1 (toks l) = rrLoop bs f (x1 + m) (toks l ++ [⟨L, 0, 0⟩])) := Lib.hid (by rw [rr_lit HLT.out H1.out hm (by rw [HN.out]; exact hs) rfl, ← hmm, ← hL])
              have HLG : Hid (∀ (j z : Nat), bs[x1 + j]? = some z → j < m → L.take (j + 1) = L.take j ++ [z]) := Lib.hid (fun j z hz hj => by
                have : L[j]? = some z := by rw [hL, List.getElem?_take, if_pos hj, List.getElem?_drop]; exact hz
                have := take_push this []
                simpa using this)
              have hs3 : ¬ (n : Int) - (x1 : Int) < (m : Int) := by omega
              have HMI := Lib.hid hmi
              have hm4 : m ≤ 1048576 := by omega
              clear hL hLl hmm hs
              go_wp2_with fail
              refine P1.out.mono ?_
              rintro e w2 ⟨rfl, d2, rfl⟩
              have HT2 := Lib.hid (HT.out.below (below_drewN (Below.refl _ _) d2))
              have HB2 := Lib.hid (below_drewN HB.out d2)
              clear HT HB P1
              obtain ⟨wo, hwo⟩ : ∃ wo : World, wo = wr.drewN d2 := ⟨_, rfl⟩
              have hszo : w.heap.size ≤ wo.heap.size := by rw [hwo]; simpa using hsz
              rw [← hwo] at HT2 HB2 ⊢
              clear hwo
              go_wp2_with fail
              go_loopw [12, 13] (fun v i wi => ∃ (j : Nat), j ≤ m ∧ i = .int .i64 j ∧ Hid (wi.ownsRow wo.heap.size 5 1 v j (b8 (L.take j))) ∧ Hid (Below wo.heap.size wo wi)) (fun _ i _ => m - (intOf i).toNat)
              case atStart => exact ⟨0, Nat.zero_le _, rfl, Lib.hid (World.ownsRow_nil _ _ _ _), Lib.hid (Below.refl _ _)⟩
              case round =>
                obtain ⟨j, hj, rfl, HO, HBj⟩ := hrel
                have hszj := HBj.out.size
                by_cases hjl : j < m
                · obtain ⟨z, hz⟩ : ∃ z, bs[x1 + j]? = some z := ⟨_, List.getElem?_eq_getElem (by rw [HN.out]; omega)⟩
                  obtain ⟨gx, ox, rfl, hgx, hcx⟩ := HR.out.at_ hz
                  replace hcx := ((HB2.out.trans (HBj.out.mono hszo)).cell (p := ⟨gx, ox + (x1 + j), none⟩) hgx).trans hcx
                  have HTP := Lib.hid (HLG.out j z hz hjl)
                  have j0 : (0 : Int) ≤ (x1 : Int) + (j : Int) := by omega
                  have j1 : (x1 : Int) + (j : Int) < (n : Int) := by omega
                  clear hz
                  go_wp2_with (at_builtin; go_loud ((refine push8 wr (by rfl) (.tmp 56) (.tmp 63) (by rfl) wo.heap.size _ j (L.take j) (by rfl) HO.out _ z rfl (by rfl) (by omega) (by omega) ?_); intro v2 w2 hown2 hg2 hn2; have HO2 := Lib.hid hown2; have HBB2 := Lib.hid (HBj.out.trans (below_of_grown hg2 (by omega) (fun k hk => (HO.out.lt k hk).1))); clear hown2 hg2 hn2))
                  go_roundw
                  case rel => exact ⟨j + 1, by omega, by go_num, Lib.hid (by rw [HTP.out]; exact HO2.out), HBB2⟩
                  case measure => simp [intOf]; omega
                · have hje : j = m := by omega
                  have HOE : Hid (wr.ownsRow wo.heap.size 5 1 u12 L.length (b8 L)) := Lib.hid (by have h := HO.out; rw [List.take_of_length_le (by rw [HLL.out]; omega)] at h; rw [HLL.out, ← hje]; exact h)
                  obtain ⟨A7, c7, rfl, hsh⟩ := own_shape HOE.out
                  have HYO : Hid (OwnTk wr wo.heap.size ⟨A7, c7, L, 0, 0⟩) := HOE
                  have HPL : Hid (PlTk ⟨A7, c7, L, 0, 0⟩) := Lib.hid ⟨HLB.out, by simp only; rw [HLL.out]; omega, by simp only; omega, by simp only; omega⟩
                  have HT3 := Lib.hid (HT2.out.below HBj.out)
                  have HVB : Hid ((∀ x ∈ l, ∀ a : Addr, x.A = some a → a.block < wo.heap.size) ∧ ∀ q, (Value.slice A9 N c9).ownBlock = some q → q < wo.heap.size) := Lib.hid ⟨fun x hx a ha => ((HT2.out.lit x hx).lt ha).2, fun q hq => (HT2.out.row.lt q hq).2⟩
                  have HB3 := Lib.hid (HB2.out.trans (HBj.out.mono hszo))
                  subst hje
                  clear HO hsh HT2
                  go_wp2_with (at_builtin; go_loud ((refine pushT wr rfl (.tmp 65) (.tmp 68) (by rfl) w.heap.size (.slice A9 N c9) N l (by rfl) HT3.out.row ⟨A7, c7, L, 0, 0⟩ wr.heap.size (by rfl) (by rfl) (by omega) (by omega) ?_); intro v9 w9 ho9 hg9 hn9; have HB9 := Lib.hid (HB3.out.trans (below_of_grown hg9 (by omega) (fun k hk => (HT3.out.row.lt k hk).1))); have HT9 := Lib.hid (HT3.out.push (bb := wo.heap.size) HVB.out.1 HVB.out.2 HYO.out hszo HPL.out ho9 hg9 hn9); clear ho9 hg9 hn9))
                  go_roundw
                  case rel => exact ⟨N + 1, x1 + j, f, _, by go_num, by omega, by omega, by omega, Lib.hid (by rw [toks_push]; exact HQ.out.trans HNX.out), HT9, HB9⟩
                  case measure => simp [intOf]; omega
          · have hm3 : ¬ (v1 : Int) % 2 = 0 := by omega
            obtain ⟨p2, hp2⟩ : ∃ p, p = nAt bs x1 := ⟨_, rfl⟩
            have P2 := Lib.hid (fun W h => HNA.out x1 W h hx2)
            have hL2 := HLE.out x1 hx2
            rw [← hp2] at P2 hL2
            have H2 := Lib.hid hp2.symm
            clear hp2
            obtain ⟨v2, x2, b2⟩ := p2
            simp only at P2 hL2
            obtain ⟨hv2, hy1, hy2, hy3⟩ := hL2
            clear hy3
            go_wp2_with fail
            refine P1.out.mono ?_
            rintro e w2 ⟨rfl, d2, rfl⟩
            have HT2 := Lib.hid (HT.out.below (below_drewN (Below.refl _ _) d2))
            have HB2 := Lib.hid (below_drewN HB.out d2)
            clear HT HB P1
            rcases b2 with _ | _
            · have HE : Hid (q = ([], 20)) := Lib.hid (HNO.out (HQ.out.trans (rr_bad2 HLT.out H1.out hm H2.out)))
              go_wp2_with fail
              refine (P2.out _ HB2.out).mono ?_
              rintro e w3 ⟨rfl, d3, rfl⟩
              go_wp2_with fail
              go_ret2
              exact ansT_none _ _ _ _ HE.out (by have h := below_drewN HB2.out d3; rwa [World.drewN_drewN] at h)
            · have HNX := Lib.hid (rr_match (f := f) (ts := toks l) HLT.out H1.out hm H2.out (t := ⟨[], (v2 : Int), (v1 : Int) / 2⟩) (by simp only [Tk.mk.injEq, true_and]; omega))
              go_wp2_with fail
              refine (P2.out _ HB2.out).mono ?_
              rintro e w3 ⟨rfl, d3, rfl⟩
              have HT3 := Lib.hid (HT2.out.below (below_drewN (Below.refl _ _) d3))
              have HB3 := Lib.hid (below_drewN HB2.out d3)
              clear HT2 HB2
              obtain ⟨wo, hwo⟩ : ∃ wo : World, wo = (wr.drewN d2).drewN d3 := ⟨_, rfl⟩
              have hszo : w.heap.size ≤ wo.heap.size := by rw [hwo]; simpa using hsz
              rw [← hwo] at HT3 HB3 ⊢
              clear hwo
              have HYO : Hid (OwnTk wo wo.heap.size ⟨none, 0, [], (v2 : Int), (v1 : Int) / 2⟩) := Lib.hid (World.ownsRow_nil _ _ _ _)
              have HPL : Hid (PlTk ⟨none, 0, [], (v2 : Int), (v1 : Int) / 2⟩) := Lib.hid ⟨(fun b hb => by cases hb), by simp, by simp only; omega, by simp only; omega⟩
              have HVB : Hid ((∀ x ∈ l, ∀ a : Addr, x.A = some a → a.block < wo.heap.size) ∧ ∀ q, (Value.slice A9 N c9).ownBlock = some q → q < wo.heap.size) := Lib.hid ⟨fun x hx a ha => ((HT3.out.lit x hx).lt ha).2, fun q hq => (HT3.out.row.lt q hq).2⟩
              go_wp2_with (at_builtin; go_loud ((refine pushT wo rfl (.tmp 82) (.tmp 87) (by rfl) w.heap.size (.slice A9 N c9) N l (by rfl) HT3.out.row ⟨none, 0, [], (v2 : Int), (v1 : Int) / 2⟩ wo.heap.size (by rfl) (by rfl) (by omega) (by omega) ?_); intro v9 w9 ho9 hg9 hn9; have HB9 := Lib.hid (HB3.out.trans (below_of_grown hg9 (by omega) (fun k hk => (HT3.out.row.lt k hk).1))); have HT9 := Lib.hid (HT3.out.push (bb := wo.heap.size) HVB.out.1 HVB.out.2 HYO.out hszo HPL.out ho9 hg9 hn9); clear ho9 hg9 hn9))
              go_roundw
              case rel => exact ⟨N + 1, x2, f, _, by go_num, by omega, by omega, by omega, Lib.hid (by rw [toks_push]; exact HQ.out.trans HNX.out), HT9, HB9⟩
              case measure => simp [intOf]; omega
      · have HRS : Hid (R = some (toks l)) := Lib.hid (HQ.out.trans (rr_end (by rw [HN.out]; omega)))
        have PW := Lib.hid (rwrite_is A9 N c9 l wr HT.out.rd HT.out.len HT.out.ok (by omega))
        have HWL := Lib.hid (sp_wr_len (toks l))
        obtain ⟨⟨Y, z⟩, hY⟩ : ∃ y, y = Go.Proofs.YtljfmcgeiceagaaGreat.wr (toks l) := ⟨_, rfl⟩
        rw [← hY] at PW HWL
        simp only at PW HWL
        have HW := Lib.hid hY.symm
        clear hY HQ
        go_wp2_with fail
        refine PW.out.mono ?_
        rintro e w2 ⟨A2, c2, rfl, ho2, hb2⟩
        have HT2 := Lib.hid (HT.out.below hb2)
        have HO2 := Lib.hid (rd_own ho2)
        have HB2 := Lib.hid (HB.out.trans (hb2.mono hsz))
        simp only at HO2
        clear ho2 hb2 PW HT HB
        by_cases hz : z = 0
        · subst hz
          have hYl := HWL.out
          by_cases hYb : Y = bs
          · have HE : Hid (q = (toks l, 0)) := Lib.hid (HYES.out _ (by rw [HW.out, hYb]))
            have PS := Lib.hid (rsame_yes A2 A Y.length n c2 c Y bs w2 HO2.out (HR.out.below HB2.out) rfl HN.out (by omega) (by omega) hYb)
            clear hYb
            go_wp2_with fail
            refine PS.out.mono ?_
            rintro e w3 ⟨rfl, d3, rfl⟩
            go_wp2_with fail
            go_ret2
            exact ansT_some _ _ _ A9 c9 N l _ HE.out (HT2.out.below (below_drewN (Below.refl _ _) d3)) (below_drewN HB2.out d3)
          · have HE : Hid (q = ([], 20)) := Lib.hid (HBAD.out _ HRS.out (by rw [HW.out]; intro h; injection h with h _; exact hYb h))
            have PS := Lib.hid (rsame_no A2 A Y.length n c2 c Y bs w2 HO2.out (HR.out.below HB2.out) rfl HN.out (by omega) (by omega) hYb)
            clear hYb
            go_wp2_with fail
            refine PS.out.mono ?_
            rintro e w3 ⟨rfl, d3, rfl⟩
            go_wp2_with fail
            go_ret2
            exact ansT_none _ _ _ _ HE.out (below_drewN HB2.out d3)
        · have HE : Hid (q = ([], 20)) := Lib.hid (HBAD.out _ HRS.out (by rw [HW.out]; intro h; injection h with _ h; exact hz h))
          have hne : ((z : Int) != 0) = true := by rw [bne_iff_ne]; exact hz
          clear hz
          go_wp2_with fail
          go_ret2
          exact ansT_none _ _ _ _ HE.out HB2.out
end Go.Proofs.YtljfmcgeiceagaaGreat

/- Appends that tell what becomes of the old row; tokens whose bytes are written over. -/
namespace Go.Proofs.YtljfmcgeiceagaaGreat
open Go Go.RowKit
set_option linter.unusedVariables false
set_option linter.unusedSimpArgs false


/-- What is asked of tokens' places. -/
theorem map_A_set (l : List TkV) (i : Nat) (x y : TkV) (hi : l[i]? = some x) (hA : y.A = x.A) : (l.set i y).map (·.A) = l.map (·.A) := by
  apply List.ext_getElem?
  intro j
  rw [List.getElem?_map, List.getElem?_map, List.getElem?_set]
  split
  · rename_i h
    subst h
    rw [hi]
    split <;> simp [hA, (List.getElem?_eq_some_iff.1 hi).1]
    rename_i h2
    exact absurd (List.getElem?_eq_some_iff.1 hi).1 h2
  · rfl
theorem tkCells_same (l : List TkV) (i : Nat) (x y : TkV) (hi : l[i]? = some x) (hc : y.cells = x.cells) : tkCells (l.set i y) = tkCells l := by
  unfold tkCells
  rw [List.flatMap_def, List.flatMap_def]
  congr 1
  apply List.ext_getElem?
  intro j
  rw [List.getElem?_map, List.getElem?_map, List.getElem?_set]
  split
  · rename_i h
    subst h
    rw [hi]
    split
    · simp [hc]
    · rename_i h2
      exact absurd (List.getElem?_eq_some_iff.1 hi).1 h2
  · rfl
section
variable {W : World} {B N : Nat} {v : Value} {l : List TkV}
theorem Ts.ne (h : Ts W B v N l) {i j : Nat} {x y : TkV} (hi : l[i]? = some x) (hj : l[j]? = some y) (hne : i ≠ j) {a b : Addr} (ha : x.A = some a) (hb : y.A = some b) : a.block ≠ b.block := by
  have hp := List.pairwise_iff_getElem.1 h.pw
  obtain ⟨h1, rfl⟩ := List.getElem?_eq_some_iff.1 hi
  obtain ⟨h2, rfl⟩ := List.getElem?_eq_some_iff.1 hj
  rcases Nat.lt_or_ge i j with h3 | h3
  · have := hp i j h1 h2 h3 a b ha hb; omega
  · have := hp j i h2 h1 (by omega) b a hb ha; omega
theorem Ts.store (h : Ts W B v N l) {i : Nat} {x : TkV} (hi : l[i]? = some x) {g : Nat} (hA : x.A = some ⟨g, 0, none⟩) {k z : Nat} (hz : z < 256) {zi : Int} (hzi : zi = (z : Int)) :
    Ts (W.setCell ⟨g, k, none⟩ (.int .u8 zi)) B v N (l.set i ⟨x.A, x.c, x.lit.set k z, x.d, x.l⟩) := by
  subst hzi
  have hx := h.lit x (List.mem_of_getElem? hi)
  have hx' := hx
  unfold OwnTk at hx'
  rw [hA] at hx'
  have hst := hx'.stored k (.int .u8 (z : Int))
  have hpl := h.pl x (List.mem_of_getElem? hi)
  have hle : ∀ {j : Nat} {y : TkV}, (l.set i ⟨x.A, x.c, x.lit.set k z, x.d, x.l⟩)[j]? = some y → (j = i ∧ y = ⟨x.A, x.c, x.lit.set k z, x.d, x.l⟩) ∨ (j ≠ i ∧ l[j]? = some y) := by
    intro j y hy
    rw [List.getElem?_set] at hy
    split at hy
    · rename_i h1
      subst h1
      split at hy
      · injection hy with hy
        exact .inl ⟨rfl, hy.symm⟩
      · cases hy
    · rename_i h1
      exact .inr ⟨fun e => h1 e.symm, hy⟩
  refine ⟨?_, ?_, ?_, ?_, ?_⟩
  · rw [tkCells_same l i x _ hi (by simp [TkV.cells])]
    refine h.row.kept hst.2 ?_
    right
    exact fun e => h.off x (List.mem_of_getElem? hi) _ hA e
  · intro y hy
    obtain ⟨j, hj⟩ := List.getElem?_of_mem hy
    rcases hle hj with ⟨_, rfl⟩ | ⟨hne, hj'⟩
    · unfold OwnTk
      simp only
      rw [hA, List.length_set]
      have := hst.1
      rw [b8_set''] at this
      exact this
    · refine (h.lit y (List.mem_of_getElem? hj')).kept hst.2 ?_
      cases ha : y.A with
      | none => exact .inl rfl
      | some a =>
        right
        intro e
        simp only [Value.ownBlock, Option.some.injEq] at e
        exact h.ne hj' hi hne ha hA e
  · intro y hy
    obtain ⟨j, hj⟩ := List.getElem?_of_mem hy
    rcases hle hj with ⟨_, rfl⟩ | ⟨hne, hj'⟩
    · refine ⟨?_, by simp only [List.length_set]; exact hpl.2.1, hpl.2.2⟩
      intro b hb
      rcases List.mem_or_eq_of_mem_set hb with hb | rfl
      · exact hpl.1 b hb
      · exact hz
    · exact h.pl y (List.mem_of_getElem? hj')
  · have h1 := h.pw
    have e1 : ∀ l : List TkV, l.Pairwise (fun x y => ∀ a b : Addr, x.A = some a → y.A = some b → a.block < b.block) ↔ (l.map (·.A)).Pairwise (fun x y => ∀ a b : Addr, x = some a → y = some b → a.block < b.block) := fun l => by rw [List.pairwise_map]
    rw [e1, map_A_set l i x ⟨x.A, x.c, x.lit.set k z, x.d, x.l⟩ hi rfl, ← e1]
    exact h1
  · intro y hy
    obtain ⟨j, hj⟩ := List.getElem?_of_mem hy
    rcases hle hj with ⟨_, rfl⟩ | ⟨hne, hj'⟩
    · exact h.off x (List.mem_of_getElem? hi)
    · exact h.off y (List.mem_of_getElem? hj')
end
end Go.Proofs.YtljfmcgeiceagaaGreat
