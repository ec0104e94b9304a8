/- What stands above all texts that begin with one: plain lists of bytes; and how far a letter reaches. -/
import Derived.Test.YtfgjlplfpjfnoaaOctCmp
import Derived.Laws.RangeAny
namespace Go.Proofs.Ytfgjlplfpjfnoaa
open Go Go.RowKit

/-- How many bytes there are up to the last one that is not 255. -/
def lst : List Nat → Nat
  | [] => 0
  | x :: r => if lst r = 0 then (if x = 255 then 0 else 1) else lst r + 1

theorem lst_le : ∀ l : List Nat, lst l ≤ l.length := by
  intro l
  induction l with
  | nil => simp [lst]
  | cons x r ih => simp only [lst, List.length_cons]; split <;> (try split) <;> omega

theorem lst_snoc : ∀ (l : List Nat) (x : Nat), lst (l ++ [x]) = if x = 255 then lst l else l.length + 1 := by
  intro l
  induction l with
  | nil => intro x; simp [lst]
  | cons y r ih =>
    intro x
    simp only [List.cons_append, lst, ih, List.length_cons]
    by_cases h : x = 255
    · simp [h]
    · simp [h]

theorem lst_take_succ (l : List Nat) (k x : Nat) (h : l[k]? = some x) : lst (l.take (k + 1)) = if x = 255 then lst (l.take k) else k + 1 := by
  have hk : k < l.length := (List.getElem?_eq_some_iff.1 h).1
  have hx : l[k] = x := (List.getElem?_eq_some_iff.1 h).2
  rw [List.take_succ_eq_append_getElem hk, lst_snoc, hx]
  simp [Nat.min_eq_left (Nat.le_of_lt hk)]

theorem lst_spec : ∀ l : List Nat, 0 < lst l → ∃ x, l[lst l - 1]? = some x ∧ x ≠ 255 := by
  intro l
  induction l with
  | nil => simp [lst]
  | cons x r ih =>
    intro h
    simp only [lst] at h ⊢
    by_cases h0 : lst r = 0
    · rw [if_pos h0] at h ⊢
      by_cases hx : x = 255
      · rw [if_pos hx] at h; omega
      · rw [if_neg hx]; exact ⟨x, by simp, hx⟩
    · rw [if_neg h0] at h ⊢
      obtain ⟨y, hy, hne⟩ := ih (by omega)
      refine ⟨y, ?_, hne⟩
      have : lst r + 1 - 1 = (lst r - 1) + 1 := by omega
      rw [this, List.getElem?_cons_succ]
      exact hy

/-- A letter's bytes: it is not empty, it does not reach beyond the end, and its last byte, if it has more than one, is not 255. -/
theorem decode_wide (s : ByteArray) (i : Nat) (h : i < s.size) :
    1 ≤ (Utf8.decode s i).2 ∧ i + (Utf8.decode s i).2 ≤ s.size ∧ ((Utf8.decode s i).2 = 1 ∨ ∃ x, (sb s)[i + (Utf8.decode s i).2 - 1]? = some x ∧ x ≠ 255) := by
  have key : ∀ k, i + k < s.size → (s.get! (i + k)).toNat / 64 = 2 → ∃ x, (sb s)[i + k]? = some x ∧ x ≠ 255 := by
    intro k hk hc
    refine ⟨_, sb_get s (i + k) hk, ?_⟩
    have : s.get! (i + k) = s[i + k] := by
      simp [ByteArray.get!, getElem!_pos, hk]
      rfl
    rw [this] at hc
    omega
  unfold Utf8.decode
  simp only
  split
  · exact ⟨by simp, by simp; omega, .inl rfl⟩
  · split
    · rename_i hc
      simp only [Bool.and_eq_true, decide_eq_true_eq, beq_iff_eq] at hc
      split
      · exact ⟨by simp, by simp; omega, .inr (key 1 hc.2.1 hc.2.2)⟩
      · exact ⟨by simp, by simp; omega, .inl rfl⟩
    · split
      · rename_i hc
        simp only [Bool.and_eq_true, decide_eq_true_eq, beq_iff_eq] at hc
        split
        · exact ⟨by simp, by simp; omega, .inr (key 2 hc.2.1 hc.2.2)⟩
        · exact ⟨by simp, by simp; omega, .inl rfl⟩
      · split
        · rename_i hc
          simp only [Bool.and_eq_true, decide_eq_true_eq, beq_iff_eq] at hc
          split
          · exact ⟨by simp, by simp; omega, .inr (key 3 hc.2.1 hc.2.2)⟩
          · exact ⟨by simp, by simp; omega, .inl rfl⟩
        · exact ⟨by simp, by simp; omega, .inl rfl⟩

/-- The bytes of what stands above: without what is 255 at the end, and the last one raised. -/
def aft (l : List Nat) : List Nat := l.take (lst l - 1) ++ [l.getD (lst l - 1) 0 + 1]

theorem aft_by {l : List Nat} (h : By l) (h0 : 0 < lst l) : By (aft l) := by
  obtain ⟨x, hx, hne⟩ := lst_spec l h0
  unfold aft
  refine By.append (h.take _) (fun b hb => ?_)
  simp only [List.mem_singleton] at hb
  rw [List.getD_eq_getElem?_getD, hx] at hb
  have := h x (List.mem_of_getElem? hx)
  simp at hb
  omega

theorem set_last (l : List Nat) (n b : Nat) (hn : 0 < n) (hl : n ≤ l.length) : (l.take n).set (n - 1) b = l.take (n - 1) ++ [b] := by
  have e : l.take n = l.take (n - 1) ++ [l[n - 1]] := by
    have := List.take_succ_eq_append_getElem (show n - 1 < l.length by omega)
    rw [show n - 1 + 1 = n from by omega] at this
    exact this
  rw [e, List.set_append_right _ _ (by rw [List.length_take]; omega)]
  simp [Nat.min_eq_left (show n - 1 ≤ l.length by omega)]
end Go.Proofs.Ytfgjlplfpjfnoaa
