/- numberAt, the document's (printed by gen_sqrnum.py). -/
import Derived.Test.YtljfmcgeiceagaaSqRdP
namespace Go.Proofs.Ytljfmcgeiceagaa
open Go Go.RowKit
set_option linter.unusedVariables false
set_option linter.unusedSimpArgs false

def nAt (b : List Nat) (q : Nat) : Nat × Nat × Bool := match nA b q with
  | none => (0, q, false)
  | some (v, x) => (v, x, true)
theorem nAt_none {b : List Nat} {q k v : Nat} {r : List Nat} {x : Nat} (h : Uv.ru 0 0 (b.drop q) = Uv.ru k v r) (h1 : Uv.ru k v r = (0, 0, x)) (hx : x ≠ 0) : nAt b q = (0, q, false) := by
  have e : nA b q = none := by
    unfold nA
    rw [h, h1, if_neg (by simp [hx])]
  unfold nAt
  rw [e]
theorem nAt_some {b : List Nat} {q k v : Nat} {r : List Nat} {v' k' : Nat} (h : Uv.ru 0 0 (b.drop q) = Uv.ru k v r) (h1 : Uv.ru k v r = (v', k', 0)) (hk : k' ≤ 3) : nAt b q = (v', q + k', true) := by
  have e : nA b q = some (v', q + k') := by
    unfold nA
    rw [h, h1, if_pos ⟨rfl, hk⟩]
  unfold nAt
  rw [e]
theorem nAt_far {b : List Nat} {q v : Nat} {r : List Nat} (h : Uv.ru 0 0 (b.drop q) = Uv.ru 3 v r) (hr : By r) (hv : v < 2097152) : nAt b q = (0, q, false) := by
  have e : nA b q = none := by
    unfold nA
    rw [h]
    rcases Uv.ru_err r 3 v with h1 | ⟨_, _, h1⟩
    · obtain ⟨v', _, h2, _⟩ := Uv.ru_taken r 3 v hr (by omega) (by simpa using hv) h1
      have := Uv.uv_pos v'
      rw [if_neg (by omega)]
    · rw [if_neg (by omega)]
  unfold nAt
  rw [e]
theorem ru_val {b : List Nat} (hb : By b) : ∀ {i a : Nat}, a < 128 ^ i → i ≤ 3 → (Uv.ru i a b).2.2 = 0 → (Uv.ru i a b).2.1 ≤ 3 → (Uv.ru i a b).1 < 2097152 := by
  induction b with
  | nil => intro i a ha hi h; simp [Uv.ru] at h
  | cons c r ih =>
    intro i a ha hi h h3
    have hr : By r := fun x hx => hb x (List.mem_cons_of_mem _ hx)
    simp only [Uv.ru] at h h3 ⊢
    by_cases h1 : i = 9 ∧ c ≠ 1
    · rw [if_pos h1] at h; simp at h
    · rw [if_neg h1] at h h3 ⊢
      by_cases h2 : 0 < i ∧ c = 0
      · rw [if_pos h2] at h; simp at h
      · rw [if_neg h2] at h h3 ⊢
        have hs : a + c % 128 * 128 ^ i < 128 ^ (i + 1) := by
          have h4 : c % 128 * 128 ^ i ≤ 127 * 128 ^ i := Nat.mul_le_mul_right _ (by omega)
          rw [Nat.pow_succ]
          omega
        by_cases h5 : c < 128
        · rw [if_pos h5] at h3 ⊢
          simp only at h3 ⊢
          have h6 : (128 : Nat) ^ (i + 1) ≤ 128 ^ 3 := Nat.pow_le_pow_right (by omega) h3
          have h7 : (128 : Nat) ^ 3 = 2097152 := by decide
          omega
        · rw [if_neg h5] at h h3 ⊢
          by_cases hi3 : i = 3
          · exfalso
            subst hi3
            obtain ⟨v', _, e2, _⟩ := Uv.ru_taken r (3 + 1) _ hr (by omega) hs h
            have := Uv.uv_pos v'
            omega
          · exact ih hr hs (by omega) h h3
theorem nAt_le {b : List Nat} {q : Nat} (hb : By b) (hq : q ≤ b.length) : (nAt b q).1 < 2097152 ∧ q ≤ (nAt b q).2.1 ∧ (nAt b q).2.1 ≤ b.length ∧ ((nAt b q).2.2 = true → q < (nAt b q).2.1) := by
  unfold nAt nA
  split
  · simp; exact hq
  · rename_i v x h
    split at h
    · rename_i h1
      injection h with h
      injection h with h2 h3
      obtain ⟨v', e1, e2, e3, e4, _, _⟩ := Uv.ru_taken (b.drop q) 0 0 (by_drop hb q) (by omega) (by omega) h1.1
      simp only [Nat.zero_add, Nat.pow_zero, Nat.mul_one] at e1 e2
      rw [List.length_drop] at e3
      have hp := Uv.uv_pos v'
      have h4 := h1.2
      have h5 := ru_val (by_drop hb q) (i := 0) (a := 0) (by omega) (by omega) h1.1 h1.2
      simp only
      refine ⟨by omega, by omega, by omega, fun _ => by omega⟩
    · simp at h

end Go.Proofs.Ytljfmcgeiceagaa
