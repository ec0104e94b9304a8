/- Rows of finds. -/
import Derived.Test.YtjipebedibjoiaaD3
namespace Go.Proofs.Ytjipebedibjoiaa
open Go Go.RowKit
set_option linter.unusedVariables false
set_option linter.unusedSimpArgs false

def fd1 (x : Nat × Rc) : List Value := .int .i64 (x.1 : Int) :: x.2.cells
def fdCells (l : List (Nat × Rc)) : List Value := l.flatMap fd1
theorem fdCells_cons (x : Nat × Rc) (r : List (Nat × Rc)) : fdCells (x :: r) = fd1 x ++ fdCells r := by simp [fdCells]
theorem fdCells_append (a b : List (Nat × Rc)) : fdCells (a ++ b) = fdCells a ++ fdCells b := by simp [fdCells]
theorem fdCells_length (l : List (Nat × Rc)) : (fdCells l).length = l.length * 8 := by
  induction l with
  | nil => rfl
  | cons x r ih =>
    rw [fdCells_cons, List.length_append, ih]
    simp [fd1, Rc.cells]
    omega
theorem fdCells_one (l : List (Nat × Rc)) : ∀ u ∈ fdCells l, u.oneCell' = true := by
  intro u hu
  obtain ⟨x, _, hx⟩ := List.mem_flatMap.1 hu
  simp only [fd1, Rc.cells, List.mem_cons, List.not_mem_nil, or_false] at hx
  rcases hx with rfl | rfl | rfl | rfl | rfl | rfl | rfl | rfl <;> rfl
theorem fdCells_get : ∀ {l : List (Nat × Rc)} {k : Nat} {x : Nat × Rc}, l[k]? = some x → ∀ j, j < 8 → (fdCells l)[k * 8 + j]? = (fd1 x)[j]?
  | [], k, x, h, j, hj => by simp at h
  | y :: r, 0, x, h, j, hj => by
    simp only [List.getElem?_cons_zero, Option.some.injEq] at h
    subst h
    rw [fdCells_cons, Nat.zero_mul, Nat.zero_add, List.getElem?_append_left (by simp [fd1, Rc.cells]; omega)]
  | y :: r, k + 1, x, h, j, hj => by
    have h' : r[k]? = some x := by simpa using h
    have hl : (fd1 y).length = 8 := rfl
    rw [fdCells_cons, List.getElem?_append_right (by omega), hl, show (k + 1) * 8 + j - 8 = k * 8 + j by omega]
    exact fdCells_get h' j hj
theorem Rd.fd {w : World} {A : Option Addr} {l : List (Nat × Rc)} (h : Rd w A (fdCells l)) {k : Nat} {x : Nat × Rc} (hk : l[k]? = some x) :
    ∃ g off, A = some ⟨g, off, none⟩ ∧ g < w.heap.size ∧ w.cell? ⟨g, off + k * 8, none⟩ = some (.int .i64 (x.1 : Int)) ∧ w.cell? ⟨g, off + k * 8 + 1, none⟩ = some (.int .i64 x.2.k) ∧ w.cell? ⟨g, off + k * 8 + 2, none⟩ = some (.int .i64 x.2.o) ∧ w.cell? ⟨g, off + k * 8 + 3, none⟩ = some (.int .i64 x.2.t) ∧ w.cell? ⟨g, off + k * 8 + 4, none⟩ = some (.int .i64 x.2.p) ∧ w.cell? ⟨g, off + k * 8 + 5, none⟩ = some (.int .i64 x.2.s) ∧ w.cell? ⟨g, off + k * 8 + 6, none⟩ = some (.string x.2.key) ∧ w.cell? ⟨g, off + k * 8 + 7, none⟩ = some (.string x.2.val) := by
  have hne : fdCells l ≠ [] := by
    intro e
    have := fdCells_get hk 0 (by omega)
    rw [e] at this
    simp [fd1, Rc.cells] at this
  obtain ⟨g, off, hA, hg, hc⟩ := h hne
  have hj : ∀ j v, j < 8 → (fd1 x)[j]? = some v → w.cell? ⟨g, off + k * 8 + j, none⟩ = some v := fun j v h1 h2 => by
    have := hc (k * 8 + j) v ((fdCells_get hk j h1).trans h2)
    rw [← Nat.add_assoc] at this
    exact this
  exact ⟨g, off, hA, hg, hj 0 _ (by omega) rfl, hj 1 _ (by omega) rfl, hj 2 _ (by omega) rfl, hj 3 _ (by omega) rfl, hj 4 _ (by omega) rfl, hj 5 _ (by omega) rfl, hj 6 _ (by omega) rfl, hj 7 _ (by omega) rfl⟩
theorem infoFd : (Try.prog.info? 48).map (fun i => (i.zero, i.size, i.bytes)) = some (some (.agg #[.int .i64 0, .int .i64 0, .int .i64 0, .int .i64 0, .int .i64 0, .int .i64 0, .string ⟨#[]⟩, .string ⟨#[]⟩]), 8, 80) := by kernel_rfl
/-- Finds behind a row of the call's own. -/
theorem appF (w : World) {ops : Array Oper} {rest : List Oper} {o : Oper} {a : Act} {Q : Exit → Act → World → Prop} (hgd : o.guard = none) (s x : Operand)
    (ho : o.op = .call { callee := .builtin .append, args := #[s, x], argTypes := #[45, 45] })
    (base : Nat) (v : Value) (n : Nat) (xs : List Value) (hs : a.eval s = v) (hown : w.ownsRow base 48 8 v n xs)
    (A : Option Addr) (m c : Nat) (news : List Value) (hx : a.eval x = .slice A m c) (hl : news.length = m * 8) (h1c : ∀ u ∈ news, u.oneCell' = true) (hr : Rd w A news)
    (hbytes : (n + m) * 80 ≤ 140737488355328) (hbase : base ≤ w.heap.size)
    (h : ∀ v' w', w'.ownsRow base 48 8 v' (n + m) (xs ++ news) → w.grownBy w' v.ownBlock → (v'.ownBlock = v.ownBlock ∨ ∃ k, v'.ownBlock = some k ∧ w.heap.size ≤ k) → wpList Try.prog ops Q rest (a.put o.dst v') w') :
    wpList Try.prog ops Q (o :: rest) a w := by
  obtain ⟨i0, hi, hz0, hz1, hz2⟩ := info_parts infoFd
  refine wpList_app w hgd s x 45 ho base 48 i0 _ 8 80 Try.underlying45 hi hz0 hz1 hz2 rfl (by omega) v n xs hs hown A m c news hx hl hr h1c hbytes (by unfold maxLen; omega) hbase ?_
  intro v' w' h1 h2 h3
  exact h v' w' h1 h2 h3
theorem fd1_one (x : Nat × Rc) : ∀ u ∈ fd1 x, u.oneCell' = true := by
  intro u hx
  simp only [fd1, Rc.cells, List.mem_cons, List.not_mem_nil, or_false] at hx
  rcases hx with rfl | rfl | rfl | rfl | rfl | rfl | rfl | rfl <;> rfl
/-- One find, a literal slice of one. -/
theorem pushF (w : World) {ops : Array Oper} {rest : List Oper} {o : Oper} {a : Act} {Q : Exit → Act → World → Prop} (hgd : o.guard = none) (s x : Operand)
    (ho : o.op = .call { callee := .builtin .append, args := #[s, x], argTypes := #[45, 45] })
    (base : Nat) (v : Value) (n : Nat) (xs : List Value) (hs : a.eval s = v) (hown : w.ownsRow base 48 8 v n xs) (p : Nat) (y : Rc) (q : Nat) (hq : q = w.heap.size)
    (hx : a.eval x = .slice (some ⟨q, 0, none⟩) 1 1)
    (hbytes : (n + 1) * 80 ≤ 140737488355328) (hbase : base ≤ w.heap.size)
    (h : ∀ v' w', w'.ownsRow base 48 8 v' (n + 1) (xs ++ fd1 (p, y)) → w.grownBy w' v.ownBlock → (v'.ownBlock = v.ownBlock ∨ ∃ k, v'.ownBlock = some k ∧ w.heap.size ≤ k) → wpList Try.prog ops Q rest (a.put o.dst v') w') :
    wpList Try.prog ops Q (o :: rest) a (w.alloc (.cells #[.int .i64 (p : Int), .int .i64 y.k, .int .i64 y.o, .int .i64 y.t, .int .i64 y.p, .int .i64 y.s, .string y.key, .string y.val] 48)) := by
  subst hq
  have hb : Below w.heap.size w (w.alloc (.cells #[.int .i64 (p : Int), .int .i64 y.k, .int .i64 y.o, .int .i64 y.t, .int .i64 y.p, .int .i64 y.s, .string y.key, .string y.val] 48)) := (Below.refl _ _).alloc (Nat.le_refl _) _
  refine appF (w.alloc (.cells #[.int .i64 (p : Int), .int .i64 y.k, .int .i64 y.o, .int .i64 y.t, .int .i64 y.p, .int .i64 y.s, .string y.key, .string y.val] 48)) hgd s x ho base v n xs hs (hown.alloc _) (some ⟨w.heap.size, 0, none⟩) 1 1 (fd1 (p, y)) hx rfl (fd1_one _) (rd_lit w _ _) hbytes (Nat.le_trans hbase hb.size) ?_
  intro v' w' h1 h2 h3
  refine h v' w' h1 ⟨h2.os.trans hb.os, h2.tape.trans hb.tape, h2.output.trans hb.output, Nat.le_trans hb.size h2.size, fun k hk hne => (h2.block k (Nat.lt_of_lt_of_le hk hb.size) hne).trans (hb.block k hk)⟩ ?_
  rcases h3 with h3 | ⟨k, h3, hk⟩
  · exact .inl h3
  · exact .inr ⟨k, h3, Nat.le_trans hb.size hk⟩
theorem salv_few' (b : List Nat) : ∀ (d p : Nat) (acc : List (Nat × Rc)), b.length - p ≤ d → acc.length ≤ p → (salvW b p acc).length ≤ max p b.length := by
  intro d
  induction d with
  | zero => intro p acc hd h; rw [salv_end (by omega)]; omega
  | succ d ih =>
    intro p acc hd h
    by_cases hp : p < b.length
    · rcases rdec_cases (b.drop p) with ⟨x, n, e, hm, h14, _, hn, _⟩ | e | e
      · rw [salv_yes hp e (by omega)]
        have := ih (p + n) (acc ++ [(p, x)]) (by omega) (by simp; omega)
        rw [List.length_drop] at hn
        omega
      · rw [salv_no hp (by rw [e]; decide)]
        have := ih (p + 1) acc (by omega) (by omega)
        omega
      · rw [salv_no hp (by rw [e]; decide)]
        have := ih (p + 1) acc (by omega) (by omega)
        omega
    · rw [salv_end hp]; omega
theorem salv_few (b : List Nat) : (salvW b 0 []).length ≤ b.length := by have := salv_few' b _ 0 [] (Nat.le_refl _) (by simp); omega
end Go.Proofs.Ytjipebedibjoiaa
