/- The tokens of one byte, many times. -/
import Derived.Test.YtmdpncjffikmiaaSqPt
namespace Go.Proofs.Ytmdpncjffikmiaa
open Go Go.RowKit
set_option linter.unusedVariables false
set_option linter.unusedSimpArgs false

theorem rep_getD {n i c : Nat} (h : i < n) : (List.replicate n c).getD i 0 = c := by
  rw [List.getD_eq_getElem?_getD, List.getElem?_replicate, if_pos h]; rfl
theorem rep_ml {n c i d : Nat} (hd : 1 ≤ d) (hi : d ≤ i) (hin : i ≤ n) : ml (List.replicate n c) i d = min 258 (n - i) := by
  apply Nat.le_antisymm
  · have h1 := ml_le (List.replicate n c) i d
    have h2 := ml_len (t := List.replicate n c) d (by rw [List.length_replicate]; exact hin)
    rw [List.length_replicate] at h2
    omega
  · refine ml_max (by omega) (by rw [List.length_replicate]; omega) (fun k hk => ?_)
    rw [rep_getD (by omega), rep_getD (by omega)]
theorem rep_best0 {n c i : Nat} (hin : i ≤ n) (h : i = 0 ∨ n < i + 5) : best (List.replicate n c) i = (0, 0) := by
  refine best_none (by rw [List.length_replicate]; exact hin) (fun d h1 h2 _ => ?_)
  rw [rep_ml h1 h2 hin]
  omega
theorem rep_best {n c i : Nat} (h0 : 1 ≤ i) (h : i + 5 ≤ n) : best (List.replicate n c) i = (min 258 (n - i), 1) := by
  have e := rep_ml (n := n) (c := c) (i := i) (d := 1) (by omega) h0 (by omega)
  rw [← e]
  refine best_some (by rw [List.length_replicate]; omega) (by omega) h0 (by omega) (by rw [e]; omega) (fun d h1 h2 _ => ?_) (fun d h1 h2 => by omega)
  rw [rep_ml h1 h2 (by omega), e]
  exact Nat.le_refl _
/-- What is told of so many bytes that are left. -/
def runF (c : Nat) : Nat → Nat → List Tk
  | 0, _ => []
  | f + 1, m => if m < 5 then flush (List.replicate m c) else ⟨[], 1, ((min 258 m : Nat) : Int)⟩ :: runF c f (m - min 258 m)
theorem rep_sub (n c i b : Nat) (hi : i ≤ n) : ((List.replicate n c).take i).drop b = List.replicate (i - b) c := by
  rw [List.take_replicate, List.drop_replicate, Nat.min_eq_left hi]
theorem rep_tail {n c : Nat} : ∀ f i b, n ≤ i + f → b ≤ i → i ≤ n → n < b + 5 → tok (List.replicate n c) f i (List.replicate (i - b) c) = flush (List.replicate (n - b) c)
  | f, i, b, hf, hb, hi, h5 => by
    by_cases hlt : i < n
    · cases f with
      | zero => omega
      | succ f =>
        have hs := tok_step (f := f) (b := b) (i := i) (n := n) (bs := List.replicate n c) (by simp) hlt hb (by rw [rep_best0 hi (.inr (by omega))])
        rw [rep_sub n c i b hi, rep_sub n c (i + 1) b hlt] at hs
        rw [hs]
        exact rep_tail f (i + 1) b (by omega) (by omega) hlt h5
    · rw [tok_end (by rw [List.length_replicate]; omega), show i = n by omega]
theorem rep_tok {n c : Nat} : ∀ f i, 1 ≤ i → i ≤ n → n ≤ i + f → ∀ g, n - i < g → tok (List.replicate n c) f i [] = runF c g (n - i)
  | f, i, h0, hi, hf, g, hg => by
    obtain ⟨g, rfl⟩ : ∃ g', g = g' + 1 := ⟨g - 1, by omega⟩
    by_cases h5 : n - i < 5
    · have := rep_tail (n := n) (c := c) f i i hf (Nat.le_refl _) hi (by omega)
      rw [Nat.sub_self] at this
      rw [runF, if_pos h5]
      exact this
    · cases f with
      | zero => omega
      | succ f =>
        have hb := rep_best (n := n) (c := c) (i := i) h0 (by omega)
        rw [runF, if_neg h5, tok_match (by rw [List.length_replicate]; omega) (by rw [hb]; simp only; omega), hb]
        simp only [flush, if_true, List.nil_append]
        congr 1
        rw [rep_tok f (i + min 258 (n - i)) (by omega) (by omega) (by omega) g (by omega)]
        congr 1
        omega
theorem rep_tokens {n c : Nat} (h6 : 6 ≤ n) : tokens (List.replicate n c) = ⟨[c], 0, 0⟩ :: runF c n (n - 1) := by
  unfold tokens
  rw [List.length_replicate]
  obtain ⟨f, rfl⟩ : ∃ f, n = f + 2 := ⟨n - 2, by omega⟩
  have hs := tok_step (f := f + 1) (b := 0) (i := 0) (n := f + 2) (bs := List.replicate (f + 2) c) (by simp) (by omega) (Nat.le_refl _) (by rw [rep_best0 (by omega) (.inl rfl)])
  rw [rep_sub _ c 0 0 (by omega), rep_sub _ c (0 + 1) 0 (by omega)] at hs
  have e0 : List.replicate (0 - 0) c = [] := rfl
  have e1 : List.replicate (0 + 1 - 0) c = [c] := rfl
  rw [e0, e1] at hs
  rw [show f + 2 = f + 1 + 1 from rfl] at hs ⊢
  rw [hs]
  have hb := rep_best (n := f + 1 + 1) (c := c) (i := 0 + 1) (by omega) (by omega)
  rw [tok_match (by rw [List.length_replicate]; omega) (by rw [hb]; simp only; omega), hb]
  simp only [flush, List.cons_ne_nil, if_false, List.singleton_append]
  congr 1
  rw [show f + 1 + 1 - 1 = f + 1 from rfl, runF, if_neg (by omega)]
  congr 1
  rw [rep_tok f (0 + 1 + min 258 (f + 1)) (by omega) (by omega) (by omega) (f + 1) (by omega)]
  congr 1
  omega
theorem rep_small {n c : Nat} (h0 : 0 < n) (h6 : n < 6) : tokens (List.replicate n c) = [⟨List.replicate n c, 0, 0⟩] := by
  have hb : ∀ i, i ≤ (List.replicate n c).length → (best (List.replicate n c) i).1 = 0 := by
    intro i hi
    rw [List.length_replicate] at hi
    rw [rep_best0 hi (by omega)]
  have := tok_none hb n 0 (by rw [List.length_replicate]; omega) (Nat.zero_le _)
  unfold tokens
  rw [List.length_replicate]
  rw [List.take_zero] at this
  rw [this, flush_one (by simpa using h0)]
theorem rep_by {n c : Nat} (hc : c < 256) : By (List.replicate n c) := fun b hb => by rw [List.eq_of_mem_replicate hb]; exact hc
theorem runF_zero (c f : Nat) : runF c f 0 = [] := by
  cases f with
  | zero => rfl
  | succ f => rw [runF, if_pos (by omega)]; rfl
/-- One token of what is left. -/
theorem runF_next {c f m : Nat} {x : Tk} {r : List Tk} (hf : m < f) (h : runF c f m = x :: r) :
    (m < 5 ∧ 0 < m ∧ x = ⟨List.replicate m c, 0, 0⟩ ∧ r = []) ∨ (5 ≤ m ∧ x = ⟨[], 1, ((min 258 m : Nat) : Int)⟩ ∧ ∃ f', r = runF c f' (m - min 258 m) ∧ m - min 258 m < f') := by
  obtain ⟨f, rfl⟩ : ∃ g, f = g + 1 := ⟨f - 1, by omega⟩
  rw [runF] at h
  by_cases h5 : m < 5
  · rw [if_pos h5] at h
    by_cases h0 : m = 0
    · subst h0
      simp [flush] at h
    · rw [flush_one (by simp; omega)] at h
      injection h with h1 h2
      exact .inl ⟨h5, by omega, h1.symm, h2.symm⟩
  · rw [if_neg h5] at h
    injection h with h1 h2
    exact .inr ⟨by omega, h1.symm, f, h2.symm, by omega⟩
theorem runF_end {c f m : Nat} (hf : m < f) (h : runF c f m = []) : m = 0 := by
  obtain ⟨f, rfl⟩ : ∃ g, f = g + 1 := ⟨f - 1, by omega⟩
  rw [runF] at h
  by_cases h5 : m < 5
  · rw [if_pos h5] at h
    apply Classical.byContradiction
    intro h0
    rw [flush_one (by simp; omega)] at h
    cases h
  · rw [if_neg h5] at h
    cases h
theorem enc_rep {n c : Nat} (hn : n ≤ 4096) : enc (List.replicate n c) = (blk n (tokens (List.replicate n c)), 0) := by
  rw [enc_short (by rw [List.length_replicate]; omega), List.length_replicate]
theorem blk_rep6 {n c : Nat} (h6 : 6 ≤ n) : (blk n (tokens (List.replicate n c))).length = (Uv.uv n).length + 2 + ((runF c n (n - 1)).flatMap bt).length := by
  rw [rep_tokens h6]
  unfold blk
  rw [List.length_append, List.flatMap_cons, List.length_append, bt_lit (by simp)]
  have : (Uv.uv (2 * [c].length)).length = 1 := uv1 (by simp)
  rw [List.length_append, this]
  simp
  omega
theorem blk_rep1 {n c : Nat} (h0 : 0 < n) (h6 : n < 6) : (blk n (tokens (List.replicate n c))).length = n + 2 := by
  rw [rep_small h0 h6]
  unfold blk
  rw [List.length_append, List.flatMap_cons, List.flatMap_nil, List.append_nil, bt_lit (by simpa using h0), List.length_append, uv1 (by omega), uv1 (by simp; omega)]
  simp
  omega
theorem bt_run {m : Nat} (h : m ≤ 258) : (bt ⟨[], 1, ((m : Nat) : Int)⟩).length = (Uv.uv (2 * m + 1)).length + 1 := by
  rw [bt_match (by simp), List.length_append]
  have : (Uv.uv (1 : Int).toNat).length = 1 := uv1 (by omega)
  rw [this]
  simp
theorem bt_rest {m c : Nat} (h0 : 0 < m) (h5 : m < 5) : (bt ⟨List.replicate m c, 0, 0⟩).length = 1 + m := by
  rw [bt_lit (by simpa using h0), List.length_append, uv1 (by simp; omega)]
  simp
end Go.Proofs.Ytmdpncjffikmiaa
