/- The pieces of a text, found from the left: in plain words. -/
import Derived.Test.YtljfmcgeiceagaaS1
import Derived.Test.YtljfmcgeiceagaaF1
namespace Go.Proofs.Ytljfmcgeiceagaa
open Go Go.RowKit
set_option linter.unusedVariables false
set_option linter.unusedSimpArgs false

/-- How long a match from the place i at the distance d is. -/
def mlF (t : List Nat) (i d : Nat) : Nat → Nat → Nat
  | 0, n => n
  | f + 1, n => if i + n < t.length ∧ t.getD (i + n) 0 = t.getD (i + n - d) 0 then mlF t i d f (n + 1) else n
def ml (t : List Nat) (i d : Nat) : Nat := mlF t i d 258 0

theorem mlF_ge (t : List Nat) (i d : Nat) : ∀ f n, n ≤ mlF t i d f n
  | 0, n => Nat.le_refl _
  | f + 1, n => by
    unfold mlF
    split
    · exact Nat.le_trans (Nat.le_succ n) (mlF_ge t i d f (n + 1))
    · exact Nat.le_refl _
theorem mlF_le (t : List Nat) (i d : Nat) : ∀ f n, mlF t i d f n ≤ n + f
  | 0, n => Nat.le_refl _
  | f + 1, n => by
    unfold mlF
    split
    · have := mlF_le t i d f (n + 1); omega
    · omega
theorem mlF_len (t : List Nat) (i d : Nat) : ∀ f n, i + n ≤ t.length → i + mlF t i d f n ≤ t.length
  | 0, n, h => h
  | f + 1, n, h => by
    unfold mlF
    split
    · rename_i h1; exact mlF_len t i d f (n + 1) (by omega)
    · exact h
theorem mlF_eq (t : List Nat) (i d : Nat) : ∀ f n k, n ≤ k → k < mlF t i d f n → t.getD (i + k) 0 = t.getD (i + k - d) 0
  | 0, n, k, h, h' => by simp only [mlF] at h'; omega
  | f + 1, n, k, h, h' => by
    unfold mlF at h'
    split at h'
    · rename_i h1
      rcases Nat.eq_or_lt_of_le h with rfl | h2
      · exact h1.2
      · exact mlF_eq t i d f (n + 1) k h2 h'
    · omega
theorem mlF_max (t : List Nat) (i d : Nat) : ∀ f n m, m ≤ n + f → i + m ≤ t.length → n ≤ m → (∀ k, n ≤ k → k < m → t.getD (i + k) 0 = t.getD (i + k - d) 0) → m ≤ mlF t i d f n
  | 0, n, m, h, _, h2, _ => by simp only [mlF]; omega
  | f + 1, n, m, h, h1, h2, h3 => by
    unfold mlF
    rcases Nat.eq_or_lt_of_le h2 with rfl | h4
    · split
      · exact Nat.le_trans (Nat.le_succ n) (mlF_ge t i d f (n + 1))
      · exact Nat.le_refl _
    · rw [if_pos ⟨by omega, h3 n (Nat.le_refl _) h4⟩]
      exact mlF_max t i d f (n + 1) m (by omega) h1 h4 (fun k a b => h3 k (by omega) b)
theorem ml_le (t : List Nat) (i d : Nat) : ml t i d ≤ 258 := by have := mlF_le t i d 258 0; unfold ml; omega
theorem ml_len {t : List Nat} {i : Nat} (d : Nat) (h : i ≤ t.length) : i + ml t i d ≤ t.length := mlF_len t i d 258 0 (by omega)
theorem ml_eq {t : List Nat} {i d k : Nat} (h : k < ml t i d) : t.getD (i + k) 0 = t.getD (i + k - d) 0 := mlF_eq t i d 258 0 k (Nat.zero_le _) h
theorem ml_max {t : List Nat} {i d m : Nat} (h : m ≤ 258) (h1 : i + m ≤ t.length) (h2 : ∀ k, k < m → t.getD (i + k) 0 = t.getD (i + k - d) 0) : m ≤ ml t i d :=
  mlF_max t i d 258 0 m (by omega) h1 (Nat.zero_le _) (fun k _ b => h2 k b)

/-- The longest match at distances up to D, the nearest of them. -/
def bst (t : List Nat) (i : Nat) : Nat → Nat × Nat
  | 0 => (0, 0)
  | d + 1 => if (bst t i d).1 < ml t i (d + 1) then (ml t i (d + 1), d + 1) else bst t i d
def best (t : List Nat) (i : Nat) : Nat × Nat := if (bst t i (min i 2048)).1 < 5 then (0, 0) else bst t i (min i 2048)

theorem bst_most (t : List Nat) (i : Nat) : ∀ D d, 1 ≤ d → d ≤ D → ml t i d ≤ (bst t i D).1
  | 0, d, h, h1 => by omega
  | D + 1, d, h, h1 => by
    unfold bst
    rcases Nat.eq_or_lt_of_le h1 with rfl | h2
    · split
      · exact Nat.le_refl _
      · omega
    · have := bst_most t i D d h (by omega)
      split
      · simp only; omega
      · exact this
theorem bst_at (t : List Nat) (i : Nat) : ∀ D, bst t i D = (0, 0) ∨ ∃ d, bst t i D = (ml t i d, d) ∧ 1 ≤ d ∧ d ≤ D ∧ 0 < ml t i d ∧ ∀ d', 1 ≤ d' → d' < d → ml t i d' < ml t i d
  | 0 => .inl rfl
  | D + 1 => by
    have hm := bst_most t i D
    unfold bst
    split
    · rename_i h
      refine .inr ⟨D + 1, rfl, by omega, Nat.le_refl _, by omega, fun d' h1 h2 => ?_⟩
      have := hm d' h1 (by omega)
      omega
    · rcases bst_at t i D with h | ⟨d, h1, h2, h3, h4, h5⟩
      · exact .inl h
      · exact .inr ⟨d, h1, h2, by omega, h4, h5⟩
theorem bst_stop {t : List Nat} {i D D' : Nat} (hi : i ≤ t.length) (h : (bst t i D).1 = 258 ∨ i + (bst t i D).1 = t.length) (hD : D ≤ D') : bst t i D' = bst t i D := by
  induction D' with
  | zero => rw [show D = 0 by omega]
  | succ n ih =>
    rcases Nat.eq_or_lt_of_le hD with rfl | h2
    · rfl
    · have e := ih (by omega)
      have h3 := ml_le t i (n + 1)
      have h4 := ml_len (n + 1) hi
      rw [bst, e, if_neg (by omega)]

/-- What is the best match, in words. -/
theorem best_is (t : List Nat) (i : Nat) (hi : i ≤ t.length) : (best t i = (0, 0) ∧ ∀ d, 1 ≤ d → d ≤ i → d ≤ 2048 → ml t i d < 5) ∨
    ∃ n d, best t i = (n, d) ∧ 5 ≤ n ∧ n ≤ 258 ∧ 1 ≤ d ∧ d ≤ i ∧ d ≤ 2048 ∧ i + n ≤ t.length ∧ ml t i d = n ∧ (∀ d', 1 ≤ d' → d' ≤ i → d' ≤ 2048 → ml t i d' ≤ n) ∧ ∀ d', 1 ≤ d' → d' < d → ml t i d' < n := by
  have hm := bst_most t i (min i 2048)
  unfold best
  split
  · rename_i h
    exact .inl ⟨rfl, fun d h1 h2 h3 => by have := hm d h1 (by omega); omega⟩
  · rename_i h
    rcases bst_at t i (min i 2048) with h0 | ⟨d, h1, h2, h3, h4, h5⟩
    · rw [h0] at h; simp at h
    · rw [h1] at h hm ⊢
      have := ml_le t i d
      have := ml_len d hi
      exact .inr ⟨ml t i d, d, rfl, by omega, by omega, h2, by omega, by omega, by omega, rfl, fun d' a b c => hm d' a (by omega), h5⟩
theorem best_none {t : List Nat} {i : Nat} (hi : i ≤ t.length) (h : ∀ d, 1 ≤ d → d ≤ i → d ≤ 2048 → ml t i d < 5) : best t i = (0, 0) := by
  rcases best_is t i hi with h1 | ⟨n, d, _, h2, h3, h4, h5, h6, h7, h8, _⟩
  · exact h1.1
  · have := h d h4 h5 h6; omega
theorem best_some {t : List Nat} {i d : Nat} (hi : i ≤ t.length) (h1 : 1 ≤ d) (h2 : d ≤ i) (h3 : d ≤ 2048) (h5 : 5 ≤ ml t i d) (h6 : ∀ d', 1 ≤ d' → d' ≤ i → d' ≤ 2048 → ml t i d' ≤ ml t i d) (h7 : ∀ d', 1 ≤ d' → d' < d → ml t i d' < ml t i d) : best t i = (ml t i d, d) := by
  rcases best_is t i hi with h8 | ⟨n, d', e, b2, b3, b4, b5, b6, b7, b8, b9, b10⟩
  · have := h8.2 d h1 h2 h3; omega
  · have a1 := b9 d h1 h2 h3
    have a2 := h6 d' b4 b5 b6
    rcases Nat.lt_trichotomy d d' with h | h | h
    · have := b10 d h1 h; omega
    · rw [e, ← h, ← b8, ← h]
    · have := h7 d' b4 h; omega

/-- The pieces from a place on; lit: what has been gathered. -/
def flush (lit : List Nat) : List Tk := if lit = [] then [] else [⟨lit, 0, 0⟩]
def tok (t : List Nat) : Nat → Nat → List Nat → List Tk
  | 0, i, lit => flush lit
  | f + 1, i, lit => if i < t.length then (if (best t i).1 = 0 then tok t f (i + 1) (lit ++ [t.getD i 0]) else flush lit ++ ⟨[], ((best t i).2 : Nat), ((best t i).1 : Nat)⟩ :: tok t f (i + (best t i).1) []) else flush lit
def tokens (t : List Nat) : List Tk := tok t t.length 0 []

theorem tok_end {t : List Nat} {i : Nat} (h : t.length ≤ i) (f : Nat) (lit : List Nat) : tok t f i lit = flush lit := by
  cases f with
  | zero => rfl
  | succ f => rw [tok, if_neg (by omega)]
theorem tok_lit {t : List Nat} {i : Nat} (h : i < t.length) (h1 : (best t i).1 = 0) (f : Nat) (lit : List Nat) : tok t (f + 1) i lit = tok t f (i + 1) (lit ++ [t.getD i 0]) := by
  rw [tok, if_pos h, if_pos h1]
theorem tok_match {t : List Nat} {i : Nat} (h : i < t.length) (h1 : (best t i).1 ≠ 0) (f : Nat) (lit : List Nat) : tok t (f + 1) i lit = flush lit ++ ⟨[], ((best t i).2 : Nat), ((best t i).1 : Nat)⟩ :: tok t f (i + (best t i).1) [] := by
  rw [tok, if_pos h, if_neg h1]
theorem tok_fuel (t : List Nat) : ∀ f f' i lit, t.length ≤ i + f → t.length ≤ i + f' → tok t f i lit = tok t f' i lit
  | 0, f', i, lit, h, h' => by rw [tok_end (by omega), tok_end (by omega)]
  | f + 1, 0, i, lit, h, h' => by rw [tok_end (by omega), tok_end (by omega)]
  | f + 1, f' + 1, i, lit, h, h' => by
    by_cases hi : i < t.length
    · by_cases hb : (best t i).1 = 0
      · rw [tok_lit hi hb, tok_lit hi hb]
        exact tok_fuel t f f' _ _ (by omega) (by omega)
      · rw [tok_match hi hb, tok_match hi hb, tok_fuel t f f' _ _ (by omega) (by omega)]
    · rw [tok_end (by omega), tok_end (by omega)]

theorem rt_lit {lit : List Nat} (h : lit ≠ []) (n : Nat) : rt ⟨lit, 0, 0⟩ n = true := by
  have h0 : 0 < lit.length := by cases lit with | nil => exact absurd rfl h | cons => simp
  unfold rt
  simp only
  rw [if_pos h0]
  rfl
theorem exp_flush {text lit : List Nat} (h : text.length + lit.length ≤ 4096) (r : List Tk) : exp text (flush lit ++ r) = exp (text ++ lit) r := by
  unfold flush
  split
  · rename_i h0; subst h0; simp
  · rename_i h0
    rw [List.singleton_append, exp, if_pos (rt_lit h0 _), if_neg (by simp; omega)]
    rfl
theorem copy_take {t : List Nat} {i d n : Nat} (hd : 1 ≤ d) (hdi : d ≤ i) (hi : i + n ≤ t.length) (h : ∀ k, k < n → t.getD (i + k) 0 = t.getD (i + k - d) 0) : ∀ k, k ≤ n → copyN (t.take i) d k = t.take (i + k)
  | 0, _ => by simp [copyN]
  | k + 1, hk => by
    have ih := copy_take hd hdi hi h k (by omega)
    rw [copyN, ih, addOne, List.length_take, Nat.min_eq_left (by omega)]
    have e := h k (by omega)
    have hl : i + k < t.length := by omega
    rw [show i + (k + 1) = (i + k) + 1 by omega, List.take_succ_eq_append_getElem hl]
    congr 2
    have h1 : (t.take (i + k)).getD (i + k - d) 0 = t.getD (i + k - d) 0 := by
      simp only [List.getD_eq_getElem?_getD, List.getElem?_take]
      rw [if_pos (by omega)]
    rw [h1, ← e, List.getD_eq_getElem?_getD, List.getElem?_eq_getElem hl]
    rfl
theorem exp_tok {t : List Nat} (h : t.length ≤ 4096) : ∀ f i text lit, t.length ≤ i + f → i ≤ t.length → text ++ lit = t.take i → exp text (tok t f i lit) = (t, 0)
  | f, i, text, lit, hf, hi, he => by
    have hl : text.length + lit.length = i := by
      have := congrArg List.length he
      rw [List.length_append, List.length_take] at this
      omega
    by_cases hlt : i < t.length
    · cases f with
      | zero => omega
      | succ f =>
        by_cases hb : (best t i).1 = 0
        · rw [tok_lit hlt hb]
          refine exp_tok h f (i + 1) text _ (by omega) hlt ?_
          rw [← List.append_assoc, he, List.take_succ_eq_append_getElem hlt, List.getD_eq_getElem?_getD, List.getElem?_eq_getElem hlt]
          rfl
        · rw [tok_match hlt hb, exp_flush (by omega), he]
          rcases best_is t i hi with hn | ⟨n, d, e, b1, b2, b3, b4, b5, b6, b7, _⟩
          · rw [hn.1] at hb; exact absurd rfl hb
          · rw [e]
            simp only
            have hlen : (t.take i).length = i := by rw [List.length_take]; omega
            have hrt : rt ⟨[], (d : Int), (n : Int)⟩ (t.take i).length = true := by
              unfold rt
              simp only [List.length_nil, Nat.lt_irrefl, if_false, decide_eq_true_eq]
              omega
            have hadd : addTk (t.take i) ⟨[], (d : Int), (n : Int)⟩ = t.take (i + n) := by
              unfold addTk
              simp only [List.append_nil, Int.toNat_natCast]
              exact copy_take b3 b4 b6 (fun k hk => ml_eq (by rw [b7]; exact hk)) n (Nat.le_refl _)
            rw [exp, if_pos hrt, if_neg (by simp; omega), hadd]
            exact exp_tok h f (i + n) _ [] (by omega) b6 (by simp)
    · rw [tok_end (by omega)]
      have := exp_flush (r := []) (text := text) (lit := lit) (by omega)
      rw [List.append_nil] at this
      rw [this, he, List.take_of_length_le (by omega)]
      rfl
/-- What a text's own pieces add up to. -/
theorem exp_tokens {t : List Nat} (h : t.length ≤ 4096) : exp [] (tokens t) = (t, 0) := exp_tok h _ _ _ _ (by omega) (by omega) (by simp)

/-- The number of five bytes. -/
def hsF (t : List Nat) (p : Nat) : Nat → Nat
  | 0 => 0
  | k + 1 => (hsF t p k * 31 + t.getD (p + k) 0) % 4294967296
def hs (t : List Nat) (p : Nat) : Nat := hsF t p 5 % 1024
theorem hsF_eq {t : List Nat} {p q : Nat} : ∀ {k : Nat}, (∀ j, j < k → t.getD (p + j) 0 = t.getD (q + j) 0) → hsF t p k = hsF t q k
  | 0, _ => rfl
  | k + 1, h => by rw [hsF, hsF, hsF_eq (fun j hj => h j (by omega)), h k (by omega)]
theorem hs_eq {t : List Nat} {p q : Nat} (h : ∀ j, j < 5 → t.getD (p + j) 0 = t.getD (q + j) 0) : hs t p = hs t q := by unfold hs; rw [hsF_eq h]
theorem hs_lt (t : List Nat) (p : Nat) : hs t p < 1024 := Nat.mod_lt _ (by omega)

/-- The place (and 1) at which a number came last, of the places below m; 0: none. -/
def lastOf (t : List Nat) : Nat → Nat → Nat
  | 0, n => 0
  | m + 1, n => if m + 5 ≤ t.length ∧ hs t m = n then m + 1 else lastOf t m n
theorem lastOf_le (t : List Nat) (n : Nat) : ∀ m, lastOf t m n ≤ m
  | 0 => Nat.le_refl _
  | m + 1 => by
    unfold lastOf
    split
    · exact Nat.le_refl _
    · exact Nat.le_trans (lastOf_le t n m) (Nat.le_succ m)
theorem lastOf_pos {t : List Nat} {n p : Nat} : ∀ {m}, lastOf t m n = p + 1 → p < m ∧ p + 5 ≤ t.length ∧ hs t p = n
  | 0, h => by simp [lastOf] at h
  | m + 1, h => by
    unfold lastOf at h
    split at h
    · rename_i h1
      have : m = p := by omega
      subst this
      exact ⟨by omega, h1.1, h1.2⟩
    · have := lastOf_pos h
      exact ⟨by omega, this.2⟩
theorem lastOf_gap {t : List Nat} {n q : Nat} : ∀ {m}, lastOf t m n ≤ q → q < m → q + 5 ≤ t.length → hs t q ≠ n
  | 0, _, h, _ => by omega
  | m + 1, h, h1, h2 => by
    unfold lastOf at h
    split at h
    · omega
    · rename_i h3
      rcases Nat.eq_or_lt_of_le (Nat.lt_succ_iff.1 h1) with rfl | h4
      · exact fun e => h3 ⟨h2, e⟩
      · exact lastOf_gap h h4 h2

/-- The best match, of those that are matches. -/
def bs5 (t : List Nat) (i : Nat) : Nat → Nat × Nat
  | 0 => (0, 0)
  | d + 1 => if 5 ≤ ml t i (d + 1) ∧ (bs5 t i d).1 < ml t i (d + 1) then (ml t i (d + 1), d + 1) else bs5 t i d
theorem bs5_bst (t : List Nat) (i : Nat) : ∀ D, bs5 t i D = if (bst t i D).1 < 5 then (0, 0) else bst t i D
  | 0 => rfl
  | D + 1 => by
    have ih := bs5_bst t i D
    unfold bs5 bst
    rw [ih]
    by_cases h : (bst t i D).1 < 5
    · rw [if_pos h]
      by_cases h1 : (bst t i D).1 < ml t i (D + 1)
      · rw [if_pos h1]
        by_cases h2 : 5 ≤ ml t i (D + 1)
        · rw [if_pos ⟨h2, by simp only; omega⟩, if_neg (by simp only; omega)]
        · rw [if_neg (fun h => h2 h.1), if_pos (by simp only; omega)]
      · rw [if_neg h1, if_pos h, if_neg (by simp only; omega)]
    · rw [if_neg h]
      by_cases h1 : (bst t i D).1 < ml t i (D + 1)
      · rw [if_pos h1, if_pos ⟨by omega, h1⟩, if_neg (by simp only; omega)]
      · rw [if_neg h1, if_neg (fun h => h1 h.2), if_neg h]
theorem bs5_best (t : List Nat) (i : Nat) : bs5 t i (min i 2048) = best t i := bs5_bst t i _
theorem bs5_skip {t : List Nat} {i D : Nat} : ∀ {D'}, D ≤ D' → (∀ d, D < d → d ≤ D' → ml t i d < 5) → bs5 t i D' = bs5 t i D
  | 0, h, _ => by rw [show D = 0 by omega]
  | D' + 1, h, h1 => by
    rcases Nat.eq_or_lt_of_le h with rfl | h2
    · rfl
    · have := h1 (D' + 1) h2 (Nat.le_refl _)
      rw [bs5, if_neg (by omega)]
      exact bs5_skip (by omega) (fun d a b => h1 d a (by omega))
theorem bs5_full {t : List Nat} {i D : Nat} (h : (bs5 t i D).1 = 258) : ∀ {D'}, D ≤ D' → bs5 t i D' = bs5 t i D
  | 0, hD => by rw [show D = 0 by omega]
  | D' + 1, hD => by
    rcases Nat.eq_or_lt_of_le hD with rfl | h2
    · rfl
    · have e := bs5_full h (D' := D') (by omega)
      have := ml_le t i (D' + 1)
      rw [bs5, e, if_neg (by omega)]
theorem ml5_hs {t : List Nat} {i d : Nat} (h : 5 ≤ ml t i d) (hi : i ≤ t.length) (hd : d ≤ i) : hs t (i - d) = hs t i ∧ i - d + 5 ≤ t.length := by
  have := ml_len d hi
  refine ⟨hs_eq (fun j hj => ?_), by omega⟩
  rw [ml_eq (show j < ml t i d by omega), show i + j - d = i - d + j by omega]
/-- Between two places of a chain there is no match. -/
theorem chain_skip {t : List Nat} {i x : Nat} (hi : i ≤ t.length) (hx : x ≤ i) {D' : Nat} (h1 : i - x ≤ D') (h2 : D' ≤ i - lastOf t x (hs t i)) : bs5 t i D' = bs5 t i (i - x) := by
  refine bs5_skip h1 (fun d a b => ?_)
  apply Classical.byContradiction
  intro hn
  have hl := lastOf_le t (hs t i) x
  have h5 := ml5_hs (t := t) (i := i) (d := d) (by omega) hi (by omega)
  exact lastOf_gap (t := t) (n := hs t i) (q := i - d) (m := x) (by omega) (by omega) h5.2 h5.1
theorem bs5_le (t : List Nat) (i : Nat) : ∀ D, (bs5 t i D).1 ≤ 258 ∧ (bs5 t i D).2 ≤ D
  | 0 => ⟨by simp [bs5], Nat.le_refl _⟩
  | D + 1 => by
    have ih := bs5_le t i D
    have := ml_le t i (D + 1)
    unfold bs5
    split
    · exact ⟨this, Nat.le_refl _⟩
    · exact ⟨ih.1, by omega⟩
end Go.Proofs.Ytljfmcgeiceagaa
