/- The order of texts: plain laws. -/
import Derived.Test.YtfgjlplfpjfnoaaAftPlain
import Derived.Laws.Strings
namespace Go.Proofs.Ytfgjlplfpjfnoaa
open Go Go.RowKit

theorem cmp_range : ∀ (a b : List Nat), cmp a b = -1 ∨ cmp a b = 0 ∨ cmp a b = 1 := by
  intro a
  induction a with
  | nil => intro b; cases b <;> simp [cmp]
  | cons x r ih =>
    intro b
    cases b with
    | nil => simp [cmp]
    | cons y t => simp only [cmp]; split <;> (try split) <;> first | exact .inl rfl | exact .inr (.inr rfl) | exact ih t

theorem cmp_swap : ∀ (a b : List Nat), cmp b a = -cmp a b := by
  intro a
  induction a with
  | nil => intro b; cases b <;> simp [cmp]
  | cons x r ih =>
    intro b
    cases b with
    | nil => simp [cmp]
    | cons y t =>
      simp only [cmp]
      by_cases h1 : x < y
      · rw [if_neg (by omega), if_pos h1, if_pos h1]; rfl
      · by_cases h2 : y < x
        · rw [if_pos h2, if_neg h1, if_pos h2]
        · rw [if_neg h2, if_neg h1, if_neg h1, if_neg h2]; exact ih t

theorem cmp_zero : ∀ (a b : List Nat), cmp a b = 0 ↔ a = b := by
  intro a
  induction a with
  | nil => intro b; cases b <;> simp [cmp]
  | cons x r ih =>
    intro b
    cases b with
    | nil => simp [cmp]
    | cons y t =>
      simp only [cmp]
      by_cases h1 : x < y
      · rw [if_pos h1]; simp; omega
      · by_cases h2 : y < x
        · rw [if_neg h1, if_pos h2]; simp; omega
        · rw [if_neg h1, if_neg h2, ih t]
          have : x = y := by omega
          simp [this]

theorem cmp_trans : ∀ (a b c : List Nat), cmp a b ≤ 0 → cmp b c ≤ 0 → cmp a c ≤ 0 := by
  intro a
  induction a with
  | nil => intro b c _ _; cases c <;> simp [cmp]
  | cons x r ih =>
    intro b c h1 h2
    cases b with
    | nil => simp [cmp] at h1
    | cons y t =>
      cases c with
      | nil => simp [cmp] at h2
      | cons z u =>
        simp only [cmp] at h1 h2 ⊢
        by_cases h3 : x < y
        · by_cases h4 : y < z
          · rw [if_pos (by omega)]; omega
          · rw [if_neg h4] at h2
            by_cases h5 : z < y
            · rw [if_pos h5] at h2; omega
            · rw [if_pos (by omega)]; omega
        · rw [if_neg h3] at h1
          by_cases h4 : y < x
          · rw [if_pos h4] at h1; omega
          · rw [if_neg h4] at h1
            by_cases h5 : y < z
            · rw [if_pos (by omega)]; omega
            · rw [if_neg h5] at h2
              by_cases h6 : z < y
              · rw [if_pos h6] at h2; omega
              · rw [if_neg h6] at h2
                rw [if_neg (by omega), if_neg (by omega)]
                exact ih t u h1 h2

theorem lst_tail : ∀ l : List Nat, l.drop (lst l) = List.replicate (l.length - lst l) 255 := by
  intro l
  induction l with
  | nil => simp [lst]
  | cons x r ih =>
    simp only [lst]
    by_cases h0 : lst r = 0
    · rw [h0] at ih
      simp only [List.drop_zero, Nat.sub_zero] at ih
      rw [if_pos h0]
      by_cases hx : x = 255
      · rw [if_pos hx, hx]
        simp only [List.drop_zero, List.length_cons, Nat.sub_zero, List.replicate_succ]
        rw [← ih]
      · rw [if_neg hx]
        simpa using ih
    · rw [if_neg h0]
      simpa using ih

/-- Against a row of 255: not below it, just where one begins so. -/
theorem cmp_full : ∀ (k : Nat) (r : List Nat), By r → (0 ≤ cmp r (List.replicate k 255) ↔ r.take k = List.replicate k 255) := by
  intro k
  induction k with
  | zero => intro r _; cases r <;> simp [cmp]
  | succ k ih =>
    intro r hr
    cases r with
    | nil => simp [cmp, List.replicate_succ]
    | cons y t =>
      have hy := hr y (by simp)
      simp only [List.replicate_succ, cmp, List.take_succ_cons, List.cons.injEq]
      by_cases h1 : y < 255
      · rw [if_pos h1]; simp; omega
      · rw [if_neg h1, if_neg (by omega), ih t (fun b hb => hr b (by simp [hb]))]
        simp; omega

theorem cmp_begin : ∀ (p a : List Nat), a.take p.length = p → 0 ≤ cmp a p := by
  intro p
  induction p with
  | nil => intro a _; cases a <;> simp [cmp]
  | cons x r ih =>
    intro a h
    cases a with
    | nil => simp at h
    | cons y t =>
      simp only [List.length_cons, List.take_succ_cons, List.cons.injEq] at h
      simp only [cmp]
      rw [if_neg (by omega), if_neg (by omega)]
      exact ih t h.2

/-- The range of the texts that begin with one. -/
theorem cmp_inside : ∀ (u : List Nat) (x k : Nat) (a : List Nat), By a → x < 255 →
    ((0 ≤ cmp a (u ++ x :: List.replicate k 255) ∧ cmp a (u ++ [x + 1]) < 0) ↔ a.take (u.length + (k + 1)) = u ++ x :: List.replicate k 255) := by
  intro u
  induction u with
  | nil =>
    intro x k a ha hx
    cases a with
    | nil => simp [cmp]
    | cons y t =>
      have ht : By t := fun b hb => ha b (by simp [hb])
      simp only [List.nil_append, List.length_nil, Nat.zero_add, List.take_succ_cons, List.cons.injEq, cmp]
      rcases Nat.lt_trichotomy y x with h | h | h
      · rw [if_pos h]; simp; omega
      · subst h
        rw [if_neg (by omega), if_neg (by omega), if_pos (by omega), cmp_full k t ht]
        simp
      · rw [if_neg (by omega), if_pos h]
        by_cases h2 : y < x + 1
        · omega
        · rw [if_neg h2]
          have hge : ¬ ((if x + 1 < y then (1 : Int) else cmp t []) < 0) := by
            split
            · omega
            · cases t <;> simp [cmp]
          constructor
          · intro ⟨_, h3⟩; exact absurd h3 hge
          · intro ⟨h3, _⟩; omega
  | cons z u ih =>
    intro x k a ha hx
    cases a with
    | nil => simp [cmp]
    | cons y t =>
      have ht : By t := fun b hb => ha b (by simp [hb])
      have e : (z :: u).length + (k + 1) = (u.length + (k + 1)) + 1 := by simp; omega
      rw [e]
      simp only [List.cons_append, List.take_succ_cons, List.cons.injEq, cmp]
      by_cases h1 : y < z
      · rw [if_pos h1, if_pos h1]; simp; omega
      · rw [if_neg h1, if_neg h1]
        by_cases h2 : z < y
        · rw [if_pos h2, if_pos h2]; simp; omega
        · rw [if_neg h2, if_neg h2, ih x k t ht hx]
          have : y = z := by omega
          simp [this]

theorem lst_parts (p : List Nat) (h : 0 < lst p) : ∃ x, p = p.take (lst p - 1) ++ x :: List.replicate (p.length - lst p) 255 ∧ p[lst p - 1]? = some x ∧ x ≠ 255 := by
  obtain ⟨x, hx, hne⟩ := lst_spec p h
  have hl := lst_le p
  refine ⟨x, ?_, hx, hne⟩
  have h1 := (List.take_append_drop (lst p - 1) p).symm
  have hk : lst p - 1 < p.length := by omega
  rw [List.drop_eq_getElem_cons hk, show lst p - 1 + 1 = lst p from by omega, lst_tail] at h1
  have hx2 : p[lst p - 1] = x := (List.getElem?_eq_some_iff.1 hx).2
  rw [hx2] at h1
  exact h1

theorem aft_inside (p a : List Nat) (hp : By p) (ha : By a) (h : 0 < lst p) : (0 ≤ cmp a p ∧ cmp a (aft p) < 0) ↔ a.take p.length = p := by
  obtain ⟨x, hx, hg, hne⟩ := lst_parts p h
  have hx255 : x < 256 := hp x (List.mem_of_getElem? hg)
  have hl := lst_le p
  have key := cmp_inside (p.take (lst p - 1)) x (p.length - lst p) a ha (by omega)
  rw [← hx] at key
  have e1 : p.take (lst p - 1) ++ [x + 1] = aft p := by
    unfold aft
    rw [List.getD_eq_getElem?_getD, hg]
    rfl
  rw [e1] at key
  have e2 : (p.take (lst p - 1)).length + (p.length - lst p + 1) = p.length := by rw [List.length_take]; omega
  rw [e2] at key
  exact key

theorem lst_zero (p : List Nat) (h : lst p = 0) : ∀ (i x : Nat), p[i]? = some x → x = 255 := by
  intro i x hi
  have ht := lst_tail p
  rw [h] at ht
  simp only [List.drop_zero] at ht
  rw [ht] at hi
  have := List.mem_of_getElem? hi
  exact (List.mem_replicate.1 this).2

theorem less_list : ∀ (a b : List UInt8), Op.bytesLess a b = decide (cmp (a.map UInt8.toNat) (b.map UInt8.toNat) < 0) := by
  intro a
  induction a with
  | nil => intro b; cases b <;> simp [Op.bytesLess, cmp]
  | cons x r ih =>
    intro b
    cases b with
    | nil => simp [Op.bytesLess, cmp]
    | cons y t =>
      simp only [Op.bytesLess, List.map_cons, cmp, ih]
      by_cases h1 : x.toNat < y.toNat
      · have : x < y := h1
        simp [this, h1]
      · have h1' : ¬ x < y := h1
        by_cases h2 : y.toNat < x.toNat
        · have hne : (x == y) = false := by
            rw [beq_eq_false_iff_ne]
            rintro rfl
            omega
          rw [if_neg h1, if_pos h2]
          simp [h1', hne]
        · have he : x = y := UInt8.toNat_inj.1 (by omega)
          subst he
          simp [h1', h1]

theorem less_eq (s t : ByteArray) : Op.bytesLess s.toList t.toList = decide (cmp (sb s) (sb t) < 0) := by
  rw [less_list, ByteArray.toList_eq, ByteArray.toList_eq]
  rfl
end Go.Proofs.Ytfgjlplfpjfnoaa
