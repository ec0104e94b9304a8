/- Rows of records; alike, spoilt. -/
import Derived.Test.YtjipebedibjoiaaD2
import Derived.Test.YtjipebedibjoiaaF1
namespace Go.Proofs.Ytjipebedibjoiaa
open Go Go.RowKit
set_option linter.unusedVariables false
set_option linter.unusedSimpArgs false

def rcCells (l : List Rc) : List Value := l.flatMap Rc.cells
theorem rcCells_cons (x : Rc) (r : List Rc) : rcCells (x :: r) = x.cells ++ rcCells r := by simp [rcCells]
theorem rcCells_append (a b : List Rc) : rcCells (a ++ b) = rcCells a ++ rcCells b := by simp [rcCells]
theorem rcCells_length (l : List Rc) : (rcCells l).length = l.length * 7 := by
  induction l with
  | nil => rfl
  | cons x r ih =>
    rw [rcCells_cons, List.length_append, ih]
    simp [Rc.cells]
    omega
theorem rcCells_one (l : List Rc) : ∀ u ∈ rcCells l, u.oneCell' = true := by
  intro u hu
  obtain ⟨x, _, hx⟩ := List.mem_flatMap.1 hu
  simp only [Rc.cells, List.mem_cons, List.not_mem_nil, or_false] at hx
  rcases hx with rfl | rfl | rfl | rfl | rfl | rfl | rfl <;> rfl
theorem rcCells_get : ∀ {l : List Rc} {k : Nat} {x : Rc}, l[k]? = some x → ∀ j, j < 7 → (rcCells l)[k * 7 + j]? = x.cells[j]?
  | [], k, x, h, j, hj => by simp at h
  | y :: r, 0, x, h, j, hj => by
    simp only [List.getElem?_cons_zero, Option.some.injEq] at h
    subst h
    rw [rcCells_cons, Nat.zero_mul, Nat.zero_add, List.getElem?_append_left (by simp [Rc.cells]; omega)]
  | y :: r, k + 1, x, h, j, hj => by
    have h' : r[k]? = some x := by simpa using h
    have hl : y.cells.length = 7 := rfl
    rw [rcCells_cons, List.getElem?_append_right (by omega), hl, show (k + 1) * 7 + j - 7 = k * 7 + j by omega]
    exact rcCells_get h' j hj
theorem rcCells_take (l : List Rc) (n : Nat) : rcCells (l.take n) = (rcCells l).take (n * 7) := by
  by_cases h : n ≤ l.length
  · have e : rcCells l = rcCells (l.take n) ++ rcCells (l.drop n) := by rw [← rcCells_append, List.take_append_drop]
    rw [e, List.take_left' (by rw [rcCells_length, List.length_take]; omega)]
  · rw [List.take_of_length_le (by omega), List.take_of_length_le (by rw [rcCells_length]; omega)]
theorem Rd.rec {w : World} {A : Option Addr} {l : List Rc} (h : Rd w A (rcCells l)) {k : Nat} {x : Rc} (hk : l[k]? = some x) :
    ∃ g off, A = some ⟨g, off, none⟩ ∧ g < w.heap.size ∧ w.cell? ⟨g, off + k * 7, none⟩ = some (.int .i64 x.k) ∧ w.cell? ⟨g, off + k * 7 + 1, none⟩ = some (.int .i64 x.o) ∧ w.cell? ⟨g, off + k * 7 + 2, none⟩ = some (.int .i64 x.t) ∧ w.cell? ⟨g, off + k * 7 + 3, none⟩ = some (.int .i64 x.p) ∧ w.cell? ⟨g, off + k * 7 + 4, none⟩ = some (.int .i64 x.s) ∧ w.cell? ⟨g, off + k * 7 + 5, none⟩ = some (.string x.key) ∧ w.cell? ⟨g, off + k * 7 + 6, none⟩ = some (.string x.val) := by
  have hne : rcCells l ≠ [] := by
    intro e
    have := rcCells_get hk 0 (by omega)
    rw [e] at this
    simp [Rc.cells] at this
  obtain ⟨g, off, hA, hg, hc⟩ := h hne
  have hj : ∀ j v, j < 7 → x.cells[j]? = some v → w.cell? ⟨g, off + k * 7 + j, none⟩ = some v := fun j v h1 h2 => by
    have := hc (k * 7 + j) v ((rcCells_get hk j h1).trans h2)
    rw [← Nat.add_assoc] at this
    exact this
  exact ⟨g, off, hA, hg, hj 0 _ (by omega) rfl, hj 1 _ (by omega) rfl, hj 2 _ (by omega) rfl, hj 3 _ (by omega) rfl, hj 4 _ (by omega) rfl, hj 5 _ (by omega) rfl, hj 6 _ (by omega) rfl⟩
theorem infoRec : (Try.prog.info? 31).map (fun i => (i.zero, i.size, i.bytes)) = some (some (.agg #[.int .i64 0, .int .i64 0, .int .i64 0, .int .i64 0, .int .i64 0, .string ⟨#[]⟩, .string ⟨#[]⟩]), 7, 72) := by kernel_rfl
/-- Records behind a row of the call's own. -/
theorem appR (w : World) {ops : Array Oper} {rest : List Oper} {o : Oper} {a : Act} {Q : Exit → Act → World → Prop} (hgd : o.guard = none) (s x : Operand)
    (ho : o.op = .call { callee := .builtin .append, args := #[s, x], argTypes := #[22, 22] })
    (base : Nat) (v : Value) (n : Nat) (xs : List Value) (hs : a.eval s = v) (hown : w.ownsRow base 31 7 v n xs)
    (A : Option Addr) (m c : Nat) (news : List Rc) (hx : a.eval x = .slice A m c) (hl : news.length = m) (hr : Rd w A (rcCells news))
    (hbytes : (n + m) * 72 ≤ 140737488355328) (hbase : base ≤ w.heap.size)
    (h : ∀ v' w', w'.ownsRow base 31 7 v' (n + m) (xs ++ rcCells news) → w.grownBy w' v.ownBlock → (v'.ownBlock = v.ownBlock ∨ ∃ k, v'.ownBlock = some k ∧ w.heap.size ≤ k) → wpList Try.prog ops Q rest (a.put o.dst v') w') :
    wpList Try.prog ops Q (o :: rest) a w := by
  obtain ⟨i0, hi, hz0, hz1, hz2⟩ := info_parts infoRec
  refine wpList_app w hgd s x 22 ho base 31 i0 _ 7 72 Try.underlying22 hi hz0 hz1 hz2 rfl (by omega) v n xs hs hown A m c (rcCells news) hx (by rw [rcCells_length, hl]) hr (rcCells_one _) hbytes (by unfold maxLen; omega) hbase ?_
  intro v' w' h1 h2 h3
  exact h v' w' h1 h2 h3
/-- One record, a literal slice of one. -/
theorem pushR (w : World) {ops : Array Oper} {rest : List Oper} {o : Oper} {a : Act} {Q : Exit → Act → World → Prop} (hgd : o.guard = none) (s x : Operand)
    (ho : o.op = .call { callee := .builtin .append, args := #[s, x], argTypes := #[22, 22] })
    (base : Nat) (v : Value) (n : Nat) (xs : List Value) (hs : a.eval s = v) (hown : w.ownsRow base 31 7 v n xs) (y : Rc) (q : Nat) (hq : q = w.heap.size)
    (hx : a.eval x = .slice (some ⟨q, 0, none⟩) 1 1)
    (hbytes : (n + 1) * 72 ≤ 140737488355328) (hbase : base ≤ w.heap.size)
    (h : ∀ v' w', w'.ownsRow base 31 7 v' (n + 1) (xs ++ y.cells) → w.grownBy w' v.ownBlock → (v'.ownBlock = v.ownBlock ∨ ∃ k, v'.ownBlock = some k ∧ w.heap.size ≤ k) → wpList Try.prog ops Q rest (a.put o.dst v') w') :
    wpList Try.prog ops Q (o :: rest) a (w.alloc (.cells #[.int .i64 y.k, .int .i64 y.o, .int .i64 y.t, .int .i64 y.p, .int .i64 y.s, .string y.key, .string y.val] 31)) := by
  subst hq
  have hb : Below w.heap.size w (w.alloc (.cells #[.int .i64 y.k, .int .i64 y.o, .int .i64 y.t, .int .i64 y.p, .int .i64 y.s, .string y.key, .string y.val] 31)) := (Below.refl _ _).alloc (Nat.le_refl _) _
  refine appR (w.alloc (.cells #[.int .i64 y.k, .int .i64 y.o, .int .i64 y.t, .int .i64 y.p, .int .i64 y.s, .string y.key, .string y.val] 31)) hgd s x ho base v n xs hs (hown.alloc _) (some ⟨w.heap.size, 0, none⟩) 1 1 [y] hx rfl (rd_lit w _ _) hbytes (Nat.le_trans hbase hb.size) ?_
  intro v' w' h1 h2 h3
  have e1 : rcCells [y] = y.cells := by simp [rcCells]
  rw [e1] at h1
  refine h v' w' h1 ⟨h2.os.trans hb.os, h2.tape.trans hb.tape, h2.output.trans hb.output, Nat.le_trans hb.size h2.size, fun k hk hne => (h2.block k (Nat.lt_of_lt_of_le hk hb.size) hne).trans (hb.block k hk)⟩ ?_
  rcases h3 with h3 | ⟨k, h3, hk⟩
  · exact .inl h3
  · exact .inr ⟨k, h3, Nat.le_trans hb.size hk⟩

set_option maxHeartbeats 1000000 in
set_option maxRecDepth 100000 in
theorem alike_yes (A B : Option Addr) (n c d : Nat) (l : List Rc) (w : World) (ha : Rd w A (rcCells l)) (hb : Rd w B (rcCells l)) (hn : l.length = n) (hl : n ≤ 2000000000000) :
    Calls Try.prog 20 #[.slice A n c, .slice B n d] w fun e w' => Looks w w' e (.bool true) := by
  have HA := Lib.hid ha
  have HB := Lib.hid hb
  have HN := Lib.hid hn
  clear ha hb hn
  have hne : ((n : Int) != (n : Int)) = false := by simp
  go_enter Try.func20, Try.ntmps20
  go_wp2
  go_loopw [5] (fun i wr => ∃ k j : Nat, k ≤ n ∧ i = .int .i64 k ∧ wr = w.drewN j) (fun i _ => n - (intOf i).toNat)
  case atStart => exact ⟨0, 0, Nat.zero_le _, rfl, rfl⟩
  case round =>
    obtain ⟨k, j, hk, rfl, rfl⟩ := hrel
    by_cases hlt : k < n
    · obtain ⟨x, hx⟩ : ∃ x, l[k]? = some x := ⟨_, List.getElem?_eq_getElem (by rw [HN.out]; exact hlt)⟩
      obtain ⟨g, off, rfl, hg, hc0, hc1, hc2, hc3, hc4, hc5, hc6⟩ := HA.out.rec hx
      obtain ⟨g', off', rfl, hg', hd0, hd1, hd2, hd3, hd4, hd5, hd6⟩ := HB.out.rec hx
      obtain ⟨xk, xo, xt, xp, xs, xkey, xval⟩ := x
      simp only at hc0 hc1 hc2 hc3 hc4 hc5 hc6 hd0 hd1 hd2 hd3 hd4 hd5 hd6
      have i0 : (0 : Int) ≤ (k : Int) := by omega
      have i1 : (k : Int) < (n : Int) := by omega
      clear hx HA HB
      go_wp2
      go_quiet (fail)
      go_wp2
      go_roundw
      case rel => exact ⟨k + 1, _, by omega, by go_num, rfl⟩
      case measure => simp [intOf]; omega
    · have hk2 : k = n := by omega
      subst hk2
      clear HA HB
      go_wp2
      go_ret
      exact ⟨rfl, _, rfl⟩

theorem own_put {w : World} {base g n c : Nat} {e : TypeId} {size : Nat} {xs : List Value} (h : w.ownsRow base e size (.slice (some ⟨g, 0, none⟩) n c) n xs) (k : Nat) (u : Value) :
    (w.setCell ⟨g, k, none⟩ u).ownsRow base e size (.slice (some ⟨g, 0, none⟩) n c) n (xs.set k u) ∧ w.grownBy (w.setCell ⟨g, k, none⟩ u) (some g) := h.stored k u
end Go.Proofs.Ytjipebedibjoiaa
