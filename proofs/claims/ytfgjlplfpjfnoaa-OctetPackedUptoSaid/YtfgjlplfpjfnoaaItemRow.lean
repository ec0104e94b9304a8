/- Rows of items of the call's own. -/
import Derived.Test.YtfgjlplfpjfnoaaRPack
namespace Go.Proofs.Ytfgjlplfpjfnoaa
open Go Go.RowKit
set_option linter.unusedVariables false
set_option linter.unusedSimpArgs false

def stCells (l : List Stp) : List Value := l.flatMap Stp.cells
theorem stCells_append (a b : List Stp) : stCells (a ++ b) = stCells a ++ stCells b := by simp [stCells]
theorem stCells_length (l : List Stp) : (stCells l).length = l.length * 3 := by
  induction l with
  | nil => rfl
  | cons x r ih =>
    have : stCells (x :: r) = x.cells ++ stCells r := by simp [stCells]
    rw [this, List.length_append, ih]
    simp [Stp.cells]
    omega
theorem stCells_one (l : List Stp) : ∀ u ∈ stCells l, u.oneCell' = true := by
  intro u hu
  obtain ⟨x, _, hx⟩ := List.mem_flatMap.1 hu
  simp only [Stp.cells, List.mem_cons, List.not_mem_nil, or_false] at hx
  rcases hx with rfl | rfl | rfl <;> rfl
theorem stCells_get : ∀ {l : List Stp} {k : Nat} {x : Stp}, l[k]? = some x → (stCells l)[k * 3]? = some (.int .i64 x.k) ∧ (stCells l)[k * 3 + 1]? = some (.int .u64 (x.n : Int)) ∧ (stCells l)[k * 3 + 2]? = some (.string x.s)
  | [], k, x, h => by simp at h
  | y :: r, 0, x, h => by
    simp only [List.getElem?_cons_zero, Option.some.injEq] at h
    subst h
    simp [stCells, Stp.cells]
  | y :: r, k + 1, x, h => by
    have h' : r[k]? = some x := by simpa using h
    have ih := stCells_get h'
    have e : stCells (y :: r) = y.cells ++ stCells r := by simp [stCells]
    have hl : y.cells.length = 3 := rfl
    rw [e, List.getElem?_append_right (by omega), List.getElem?_append_right (by omega), List.getElem?_append_right (by omega), hl, show (k + 1) * 3 - 3 = k * 3 by omega, show (k + 1) * 3 + 1 - 3 = k * 3 + 1 by omega, show (k + 1) * 3 + 2 - 3 = k * 3 + 2 by omega]
    exact ih
theorem stCells_set : ∀ {l : List Stp} {k : Nat} {x : Stp} (m : Nat), l[k]? = some x → (stCells l).set (k * 3 + 1) (.int .u64 (m : Int)) = stCells (l.set k ⟨x.k, m, x.s⟩)
  | [], k, x, m, h => by simp at h
  | y :: r, 0, x, m, h => by
    simp only [List.getElem?_cons_zero, Option.some.injEq] at h
    subst h
    simp [stCells, Stp.cells]
  | y :: r, k + 1, x, m, h => by
    have h' : r[k]? = some x := by simpa using h
    have ih := stCells_set m h'
    have e : ∀ (y : Stp) r, stCells (y :: r) = y.cells ++ stCells r := fun y r => by simp [stCells]
    have hl : y.cells.length = 3 := rfl
    rw [List.set_cons_succ, e, e, List.set_append_right _ _ (by omega), hl, show (k + 1) * 3 + 1 - 3 = k * 3 + 1 by omega, ih]

theorem RdS.of_rd {w : World} {A : Option Addr} {l : List Stp} (h : Rd w A (stCells l)) : RdS w A l := by
  intro hne
  have hn : stCells l ≠ [] := by
    intro e
    have := congrArg List.length e
    rw [stCells_length] at this
    cases l with
    | nil => exact hne rfl
    | cons => simp at this
  obtain ⟨g, off, e, hg, hc⟩ := h hn
  exact ⟨g, off, e, hg, fun k x hx => ⟨hc _ _ (stCells_get hx).1, hc _ _ (stCells_get hx).2.1, hc _ _ (stCells_get hx).2.2⟩⟩
theorem RdS.rd {w : World} {A : Option Addr} {l : List Stp} (h : RdS w A l) : Rd w A (stCells l) := by
  intro hne
  obtain ⟨g, off, e, hg, hc⟩ := h (by rintro rfl; exact hne rfl)
  refine ⟨g, off, e, hg, fun j u hu => ?_⟩
  have hj : j < l.length * 3 := by
    have := (List.getElem?_eq_some_iff.1 hu).1
    rw [stCells_length] at this
    exact this
  have hk : j / 3 < l.length := by omega
  obtain ⟨x, hx⟩ : ∃ x, l[j / 3]? = some x := ⟨_, List.getElem?_eq_getElem hk⟩
  have h1 := stCells_get hx
  have h2 := hc _ _ hx
  have hcases : j = j / 3 * 3 ∨ j = j / 3 * 3 + 1 ∨ j = j / 3 * 3 + 2 := by omega
  rcases hcases with e | e | e
  · rw [e] at hu ⊢
    rw [h1.1] at hu
    rw [h2.1]; exact hu
  · rw [e] at hu ⊢
    rw [h1.2.1] at hu
    rw [← Nat.add_assoc, h2.2.1]; exact hu
  · rw [e] at hu ⊢
    rw [h1.2.2] at hu
    rw [← Nat.add_assoc, h2.2.2]; exact hu

theorem infoItem : (Try.prog.info? 68).map (fun i => (i.zero, i.size, i.bytes)) = some (some (.agg #[.int .i64 0, .int .u64 0, .string ⟨#[]⟩]), 3, 32) := by kernel_rfl

/-- Items behind a row of the call's own. -/
theorem appI (w : World) {ops : Array Oper} {rest : List Oper} {o : Oper} {a : Act} {Q : Exit → Act → World → Prop} (hgd : o.guard = none) (s x : Operand)
    (ho : o.op = .call { callee := .builtin .append, args := #[s, x], argTypes := #[65, 65] })
    (base : Nat) (v : Value) (n : Nat) (xs : List Stp) (hs : a.eval s = v) (hown : w.ownsRow base 68 3 v n (stCells xs))
    (A : Option Addr) (m c : Nat) (news : List Stp) (hx : a.eval x = .slice A m c) (hl : news.length = m) (hr : Rd w A (stCells news))
    (hbytes : (n + m) * 32 ≤ 140737488355328) (hbase : base ≤ w.heap.size)
    (h : ∀ v' w', w'.ownsRow base 68 3 v' (n + m) (stCells (xs ++ news)) → w.grownBy w' v.ownBlock → (v'.ownBlock = v.ownBlock ∨ ∃ k, v'.ownBlock = some k ∧ w.heap.size ≤ k) → wpList Try.prog ops Q rest (a.put o.dst v') w') :
    wpList Try.prog ops Q (o :: rest) a w := by
  obtain ⟨i0, hi, hz0, hz1, hz2⟩ := info_parts infoItem
  refine wpList_app w hgd s x 65 ho base 68 i0 _ 3 32 Try.underlying65 hi hz0 hz1 hz2 rfl (by omega) v n (stCells xs) hs hown A m c (stCells news) hx (by rw [stCells_length, hl]) hr (stCells_one _) hbytes (by unfold maxLen; omega) hbase ?_
  intro v' w' h1 h2 h3
  exact h v' w' (by rw [stCells_append]; exact h1) h2 h3

theorem ownI_pre {w : World} {base n c : Nat} {A : Option Addr} {e : TypeId} {xs ys : List Stp} (h : w.ownsRow base e 3 (.slice A n c) n (stCells (xs ++ ys))) : RdS w A xs := by
  have := (rd_own h).take_ (xs.length * 3)
  rw [stCells_append, List.take_left' (stCells_length xs)] at this
  exact RdS.of_rd this

/-- One more. -/
def bump (x : Stp) : Stp := ⟨x.k, (x.n + 1) % 18446744073709551616, x.s⟩
theorem bump_ok {x : Stp} (h : x.Ok) : (bump x).Ok := ⟨h.1, by unfold bump; simp only; omega, h.2.2⟩
theorem bump_sum (l : List Stp) : stSum (l.map bump) = stSum l := by
  induction l with
  | nil => rfl
  | cons x r ih => simp only [List.map_cons, stSum, ih, bump]
end Go.Proofs.Ytfgjlplfpjfnoaa
