/- The plain law of shares: the level, who gets one more, and that this is fair. -/
namespace Go.Proofs.Ythcmkjiemlfpcaa
set_option linter.unusedVariables false

/-- The lesser ones of a level and each ask, added up. -/
def capSum (l : List Int) (v : Int) : Int := (l.map (fun a => min a v)).sum
/-- How many asks are above a level. -/
def above (l : List Int) (v : Int) : Int := ((l.filter (fun a => decide (v < a))).length : Nat)

theorem capSum_cons (a : Int) (l : List Int) (v : Int) : capSum (a :: l) v = min a v + capSum l v := by simp [capSum]
theorem capSum_snoc (l : List Int) (a v : Int) : capSum (l ++ [a]) v = capSum l v + min a v := by simp [capSum]
theorem above_cons (a : Int) (l : List Int) (v : Int) : above (a :: l) v = (if v < a then 1 else 0) + above l v := by
  unfold above
  rw [List.filter_cons]
  by_cases h : v < a <;> simp [h] <;> omega
theorem above_nonneg (l : List Int) (v : Int) : 0 ≤ above l v := by unfold above; omega

theorem capSum_mono (l : List Int) {v v' : Int} (h : v ≤ v') : capSum l v ≤ capSum l v' := by
  induction l with
  | nil => simp [capSum]
  | cons a r ih => rw [capSum_cons, capSum_cons]; omega
theorem capSum_succ (l : List Int) (v : Int) : capSum l (v + 1) = capSum l v + above l v := by
  induction l with
  | nil => simp [capSum, above]
  | cons a r ih =>
    rw [capSum_cons, capSum_cons, above_cons, ih]
    by_cases h : v < a
    · rw [if_pos h]; omega
    · rw [if_neg h]; omega

/-- Every ask may be. -/
def Asks (l : List Int) : Prop := ∀ a ∈ l, 0 ≤ a ∧ a ≤ 1099511627776
theorem Asks.tail {a : Int} {l : List Int} (h : Asks (a :: l)) : Asks l := fun x hx => h x (List.mem_cons_of_mem _ hx)
theorem Asks.take {l : List Int} (h : Asks l) (n : Nat) : Asks (l.take n) := fun x hx => h x (List.mem_of_mem_take hx)

theorem capSum_bd {l : List Int} (h : Asks l) {v : Int} (hv : 0 ≤ v) : 0 ≤ capSum l v ∧ capSum l v ≤ (l.length : Int) * 1099511627776 := by
  induction l with
  | nil => simp [capSum]
  | cons a r ih =>
    have h1 := ih h.tail
    have h2 := h a (List.mem_cons_self ..)
    rw [capSum_cons, List.length_cons]
    push_cast
    omega
theorem capSum_zero {l : List Int} (h : Asks l) : capSum l 0 = 0 := by
  induction l with
  | nil => rfl
  | cons a r ih =>
    have h2 := h a (List.mem_cons_self ..)
    rw [capSum_cons, ih h.tail]
    omega
theorem capSum_top {l : List Int} (h : Asks l) {v : Int} (hv : 1099511627776 ≤ v) : capSum l v = l.sum := by
  induction l with
  | nil => rfl
  | cons a r ih =>
    have h2 := h a (List.mem_cons_self ..)
    rw [capSum_cons, ih h.tail, List.sum_cons]
    omega

/-- The level. -/
structure IsLev (total : Int) (l : List Int) (v : Int) : Prop where
  lo : 0 ≤ v
  hi : v ≤ 1099511627776
  le : capSum l v ≤ total
  top : v = 1099511627776 ∨ total < capSum l (v + 1)

theorem IsLev.unique {total : Int} {l : List Int} {v v' : Int} (h : IsLev total l v) (h' : IsLev total l v') : v = v' := by
  have key : ∀ {v v' : Int}, IsLev total l v → IsLev total l v' → ¬ v < v' := by
    intro v v' h h' hlt
    rcases h.top with ht | ht
    · have := h'.hi
      omega
    · have := capSum_mono l (show v + 1 ≤ v' by omega)
      have := h'.le
      omega
  have := key h h'
  have := key h' h
  omega

theorem lev_search {total : Int} {l : List Int} (hl : Asks l) (ht : 0 ≤ total) : ∀ (k : Nat) (v : Int), 0 ≤ v → v + k = 1099511627776 → capSum l v ≤ total → ∃ v', IsLev total l v'
  | 0, v, h0, hk, hc => ⟨v, h0, by omega, hc, .inl (by omega)⟩
  | k + 1, v, h0, hk, hc => by
    by_cases h : capSum l (v + 1) ≤ total
    · exact lev_search hl ht k (v + 1) (by omega) (by omega) h
    · exact ⟨v, h0, by omega, hc, .inr (by omega)⟩
theorem lev_exists {total : Int} {l : List Int} (hl : Asks l) (ht : 0 ≤ total) : ∃ v, IsLev total l v := by
  have : ∃ k : Nat, (0 : Int) + k = 1099511627776 := ⟨(1099511627776 : Int).toNat, by omega⟩
  obtain ⟨k, hk⟩ := this
  exact lev_search hl ht k 0 (Int.le_refl _) hk (by rw [capSum_zero hl]; exact ht)

/-- What each gets, and what is left. -/
def dist : List Int → Int → Int → List Int
  | [], _, _ => []
  | a :: r, v, left => if v < a ∧ 0 < left then (v + 1) :: dist r v (left - 1) else min a v :: dist r v left
def lft : List Int → Int → Int → Int
  | [], _, left => left
  | a :: r, v, left => if v < a ∧ 0 < left then lft r v (left - 1) else lft r v left

theorem lft_snoc (l : List Int) (a v : Int) : ∀ left, lft (l ++ [a]) v left = if v < a ∧ 0 < lft l v left then lft l v left - 1 else lft l v left := by
  induction l with
  | nil => intro left; rfl
  | cons b r ih =>
    intro left
    simp only [List.cons_append, lft]
    by_cases h : v < b ∧ 0 < left
    · simp only [if_pos h]; exact ih _
    · simp only [if_neg h]; exact ih _
theorem dist_snoc (l : List Int) (a v : Int) : ∀ left, dist (l ++ [a]) v left = dist l v left ++ [if v < a ∧ 0 < lft l v left then v + 1 else min a v] := by
  induction l with
  | nil =>
    intro left
    simp only [List.nil_append, dist, lft]
    by_cases h : v < a ∧ 0 < left
    · simp only [if_pos h]
      exact congrArg (fun x => [x]) (if_pos h).symm
    · simp only [if_neg h]
      exact congrArg (fun x => [x]) (if_neg h).symm
  | cons b r ih =>
    intro left
    simp only [List.cons_append, dist, lft]
    by_cases h : v < b ∧ 0 < left
    · simp only [if_pos h]; rw [ih]; rfl
    · simp only [if_neg h]; rw [ih]; rfl
theorem dist_length (l : List Int) (v : Int) : ∀ left, (dist l v left).length = l.length := by
  induction l with
  | nil => intro left; rfl
  | cons b r ih =>
    intro left
    simp only [dist]
    split <;> simp [ih]
theorem dist_top {l : List Int} (h : Asks l) : ∀ left, dist l 1099511627776 left = l := by
  induction l with
  | nil => intro left; rfl
  | cons a r ih =>
    intro left
    have h2 := h a (List.mem_cons_self ..)
    simp only [dist]
    rw [if_neg (by omega), ih h.tail]
    congr 1
    omega
theorem lft_bd (l : List Int) (v : Int) : ∀ left, 0 ≤ left → 0 ≤ lft l v left ∧ lft l v left ≤ left := by
  induction l with
  | nil => intro left h; exact ⟨h, Int.le_refl _⟩
  | cons a r ih =>
    intro left h
    simp only [lft]
    split
    · have := ih (left - 1) (by omega)
      omega
    · exact ih left h

/-- Each share, and what it is to its ask. -/
theorem dist_each (l : List Int) (v : Int) : ∀ (left : Int) (k : Nat) (x a : Int), (dist l v left)[k]? = some x → l[k]? = some a → (x = min a v ∨ (x = v + 1 ∧ v < a)) := by
  induction l with
  | nil => intro left k x a h; simp [dist] at h
  | cons b r ih =>
    intro left k x a h ha
    simp only [dist] at h
    cases k with
    | zero =>
      simp at ha
      subst ha
      split at h
      · rename_i hh
        simp at h
        exact .inr ⟨h.symm, hh.1⟩
      · simp at h
        exact .inl h.symm
    | succ k =>
      simp only [List.getElem?_cons_succ] at ha
      split at h
      · exact ih _ k x a (by simpa using h) ha
      · exact ih _ k x a (by simpa using h) ha
theorem dist_sum (l : List Int) (v : Int) : ∀ left, 0 ≤ left → (dist l v left).sum = capSum l v + min left (above l v) := by
  induction l with
  | nil => intro left h; simp [dist, capSum, above]; omega
  | cons a r ih =>
    intro left h
    have hn := above_nonneg r v
    simp only [dist]
    rw [capSum_cons, above_cons]
    split
    · rename_i hh
      rw [List.sum_cons, ih (left - 1) (by omega), if_pos hh.1]
      omega
    · rename_i hh
      rw [List.sum_cons, ih left h]
      by_cases hv : v < a
      · rw [if_pos hv]
        omega
      · rw [if_neg hv]
        omega

/-- Max-min fairness. -/
theorem fair_each {total : Int} {l : List Int} {v : Int} (hl : Asks l) (h : IsLev total l v) {k : Nat} {x a : Int} (hx : (dist l v (total - capSum l v))[k]? = some x) (ha : l[k]? = some a) : 0 ≤ x ∧ x ≤ a := by
  have h1 := hl a (List.mem_of_getElem? ha)
  have h2 := h.lo
  rcases dist_each l v _ k x a hx ha with e | ⟨e, e2⟩ <;> omega
theorem fair_two {total : Int} {l : List Int} {v : Int} (h : IsLev total l v) {i k : Nat} {x a y b : Int} (hx : (dist l v (total - capSum l v))[i]? = some x) (ha : l[i]? = some a)
    (hy : (dist l v (total - capSum l v))[k]? = some y) (hb : l[k]? = some b) (hlt : x < a) : y ≤ x + 1 := by
  rcases dist_each l v _ i x a hx ha with e | ⟨e, e2⟩ <;> rcases dist_each l v _ k y b hy hb with f | ⟨f, f2⟩ <;> omega
theorem fair_sum {total : Int} {l : List Int} {v : Int} (hl : Asks l) (h : IsLev total l v) : (dist l v (total - capSum l v)).sum = min total l.sum := by
  have hle := h.le
  rw [dist_sum l v _ (by omega)]
  rcases h.top with ht | ht
  · subst ht
    have h0 : above l 1099511627776 = 0 := by
      have := capSum_succ l 1099511627776
      rw [capSum_top hl (by omega), capSum_top hl (by omega)] at this
      omega
    rw [h0, capSum_top hl (Int.le_refl _)] at *
    omega
  · have h1 := capSum_succ l v
    have h2 := capSum_mono l (show v + 1 ≤ max (v + 1) 1099511627776 by omega)
    rw [capSum_top hl (show 1099511627776 ≤ max (v + 1) 1099511627776 by omega)] at h2
    omega

/-- May it be shared? -/
def shOk (total : Int) (l : List Int) : Prop := l.length ≤ 64 ∧ (0 ≤ total ∧ total ≤ 1099511627776) ∧ Asks l
end Go.Proofs.Ythcmkjiemlfpcaa
