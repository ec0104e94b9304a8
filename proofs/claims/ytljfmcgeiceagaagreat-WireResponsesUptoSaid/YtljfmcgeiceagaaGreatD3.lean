/- Several texts in one: RecScP, RecRdP, RecRow, RecScan, OpenRec, OpenRecs. -/
import Derived.Test.YtljfmcgeiceagaaGreatX6
import Derived.Test.YtljfmcgeiceagaaGreatD2
import Derived.Test.YtljfmcgeiceagaaGreatF1
import Derived.BigQuiet
/- Rows of records in bytes: in plain words. -/
namespace Go.Proofs.YtljfmcgeiceagaaGreat
open Go Go.RowKit
set_option linter.unusedVariables false
set_option linter.unusedSimpArgs false

/-- What is read: a record that may be, and just its bytes. -/
theorem rdec_cases (b : List Nat) : (∃ x n, rdec b = (x, n, 0) ∧ May x ∧ 14 ≤ n ∧ n ≤ 1124 ∧ n ≤ b.length ∧ b.take n = wrap 169 (bdy x) ∧ n = (bdy x).length + 9) ∨ rdec b = (rc0, 0, 40) ∨ rdec b = (rc0, 0, 41) := by
  unfold rdec
  split
  · exact .inr (.inl rfl)
  split
  · exact .inr (.inr rfl)
  split
  · exact .inr (.inl rfl)
  split
  · exact .inr (.inr rfl)
  split
  · exact .inr (.inl rfl)
  split
  · rename_i h0 h1 h2 h3 h4 h
    obtain ⟨hc, hw⟩ := h
    have hm := chk_may hc
    have hl := congrArg List.length hw
    rw [wrap_length, List.length_take] at hl
    refine .inl ⟨_, _, rfl, hm, by omega, by omega, by omega, hw.symm, by omega⟩
  · exact .inr (.inr rfl)
theorem rdec_len (b : List Nat) : (rdec b).2.1 ≤ b.length := by
  rcases rdec_cases b with ⟨x, n, h, _, _, _, hn, _⟩ | h | h <;> rw [h]
  · exact hn
  · simp
  · simp
/-- The last one's offset. -/
def lo (l : List Rc) : Int := match l.getLast? with
  | some x => x.o
  | none => -1
theorem lo_nil : lo [] = -1 := rfl
/-- How many there may be. -/
structure Few (acc : List Rc) : Prop where
  len : (acc.length : Int) ≤ lo acc + 1
  top : lo acc < 1099511627776
theorem Few.nil : Few [] := ⟨by rw [lo_nil]; simp, by rw [lo_nil]; omega⟩
end Go.Proofs.YtljfmcgeiceagaaGreat

/- What was written is read; a part of it is torn: in plain words. -/
namespace Go.Proofs.YtljfmcgeiceagaaGreat
open Go Go.RowKit
set_option linter.unusedVariables false
set_option linter.unusedSimpArgs false

theorem headD_append {l t : List Nat} (h : 0 < l.length) : (l ++ t).headD 0 = l.headD 0 := by
  cases l with
  | nil => simp at h
  | cons a r => rfl
theorem rdec_wrap {x : Rc} (hm : May x) (t : List Nat) : rdec (wrap 169 (bdy x) ++ t) = (x, (bdy x).length + 9, 0) := by
  have hb := bdy_len hm
  have hl := wrap_length 169 (bdy x)
  obtain ⟨p0, p1, p2, p3⟩ := wrap_parts 169 (bdy x)
  have e0 : (wrap 169 (bdy x) ++ t).headD 0 = 169 := by rw [headD_append (by omega), p0]
  have e1 : ((wrap 169 (bdy x) ++ t).drop 1).take 4 = fx (bdy x).length 4 := by
    rw [List.drop_append_of_le_length (by omega), List.take_append_of_le_length (by rw [List.length_drop]; omega), p1]
  have e9 : ((wrap 169 (bdy x) ++ t).drop 9).take (bdy x).length = bdy x := by
    rw [List.drop_append_of_le_length (by omega), p3, List.take_append_of_le_length (by omega), List.take_of_length_le (by omega)]
  have et : (wrap 169 (bdy x) ++ t).take (9 + (bdy x).length) = wrap 169 (bdy x) := by
    rw [List.take_append_of_le_length (by omega), List.take_of_length_le (by omega)]
  have hlen : (wrap 169 (bdy x) ++ t).length = (bdy x).length + 9 + t.length := by rw [List.length_append, hl]
  unfold rdec
  rw [e0, e1, val_fx (by omega), e9, et, rdm_bdy hm, hlen]
  rw [if_neg (by omega), if_neg (by omega), if_neg (by omega), if_neg (by omega), if_neg (by omega), if_pos ⟨may_chk hm, rfl⟩, Nat.add_comm]
/-- A record's bytes. -/
theorem renc_of_rdec {b : List Nat} {x : Rc} {n : Nat} (h : rdec b = (x, n, 0)) : renc x = (b.take n, 0) ∧ May x ∧ n ≤ b.length := by
  rcases rdec_cases b with ⟨x', n', h', hm, _, _, hn, hw, _⟩ | h' | h'
  · rw [h] at h'
    obtain ⟨rfl, rfl, _⟩ := (by simpa using h' : x = x' ∧ n = n' ∧ True)
    exact ⟨by rw [renc, if_pos (may_chk hm), hw], hm, hn⟩
  · rw [h] at h'; simp at h'
  · rw [h] at h'; simp at h'
end Go.Proofs.YtljfmcgeiceagaaGreat

/- Rows of records; alike, spoilt. -/
namespace Go.Proofs.YtljfmcgeiceagaaGreat
open Go Go.RowKit
set_option linter.unusedVariables false
set_option linter.unusedSimpArgs false

def rcCells (l : List Rc) : List Value := l.flatMap Rc.cells
theorem rcCells_cons (x : Rc) (r : List Rc) : rcCells (x :: r) = x.cells ++ rcCells r := by simp [rcCells]
theorem rcCells_append (a b : List Rc) : rcCells (a ++ b) = rcCells a ++ rcCells b := by simp [rcCells]
theorem rcCells_length (l : List Rc) : (rcCells l).length = l.length * 7 := by
  induction l with
  | nil => rfl
  | cons x r ih =>
    rw [rcCells_cons, List.length_append, ih]
    simp [Rc.cells]
    omega
theorem rcCells_one (l : List Rc) : ∀ u ∈ rcCells l, u.oneCell' = true := by
  intro u hu
  obtain ⟨x, _, hx⟩ := List.mem_flatMap.1 hu
  simp only [Rc.cells, List.mem_cons, List.not_mem_nil, or_false] at hx
  rcases hx with rfl | rfl | rfl | rfl | rfl | rfl | rfl <;> rfl
theorem rcCells_get : ∀ {l : List Rc} {k : Nat} {x : Rc}, l[k]? = some x → ∀ j, j < 7 → (rcCells l)[k * 7 + j]? = x.cells[j]?
  | [], k, x, h, j, hj => by simp at h
  | y :: r, 0, x, h, j, hj => by
    simp only [List.getElem?_cons_zero, Option.some.injEq] at h
    subst h
    rw [rcCells_cons, Nat.zero_mul, Nat.zero_add, List.getElem?_append_left (by simp [Rc.cells]; omega)]
  | y :: r, k + 1, x, h, j, hj => by
    have h' : r[k]? = some x := by simpa using h
    have hl : y.cells.length = 7 := rfl
    rw [rcCells_cons, List.getElem?_append_right (by omega), hl, show (k + 1) * 7 + j - 7 = k * 7 + j by omega]
    exact rcCells_get h' j hj
theorem Rd.rec {w : World} {A : Option Addr} {l : List Rc} (h : Rd w A (rcCells l)) {k : Nat} {x : Rc} (hk : l[k]? = some x) :
    ∃ g off, A = some ⟨g, off, none⟩ ∧ g < w.heap.size ∧ w.cell? ⟨g, off + k * 7, none⟩ = some (.int .i64 x.k) ∧ w.cell? ⟨g, off + k * 7 + 1, none⟩ = some (.int .i64 x.o) ∧ w.cell? ⟨g, off + k * 7 + 2, none⟩ = some (.int .i64 x.t) ∧ w.cell? ⟨g, off + k * 7 + 3, none⟩ = some (.int .i64 x.p) ∧ w.cell? ⟨g, off + k * 7 + 4, none⟩ = some (.int .i64 x.s) ∧ w.cell? ⟨g, off + k * 7 + 5, none⟩ = some (.string x.key) ∧ w.cell? ⟨g, off + k * 7 + 6, none⟩ = some (.string x.val) := by
  have hne : rcCells l ≠ [] := by
    intro e
    have := rcCells_get hk 0 (by omega)
    rw [e] at this
    simp [Rc.cells] at this
  obtain ⟨g, off, hA, hg, hc⟩ := h hne
  have hj : ∀ j v, j < 7 → x.cells[j]? = some v → w.cell? ⟨g, off + k * 7 + j, none⟩ = some v := fun j v h1 h2 => by
    have := hc (k * 7 + j) v ((rcCells_get hk j h1).trans h2)
    rw [← Nat.add_assoc] at this
    exact this
  exact ⟨g, off, hA, hg, hj 0 _ (by omega) rfl, hj 1 _ (by omega) rfl, hj 2 _ (by omega) rfl, hj 3 _ (by omega) rfl, hj 4 _ (by omega) rfl, hj 5 _ (by omega) rfl, hj 6 _ (by omega) rfl⟩
theorem infoRec : (Tryz.prog.info? 43).map (fun i => (i.zero, i.size, i.bytes)) = some (some (.agg #[.int .i64 0, .int .i64 0, .int .i64 0, .int .i64 0, .int .i64 0, .string ⟨#[]⟩, .string ⟨#[]⟩]), 7, 72) := by kernel_rfl
/-- Records behind a row of the call's own. -/
theorem appR (w : World) {ops : Array Oper} {rest : List Oper} {o : Oper} {a : Act} {Q : Exit → Act → World → Prop} (hgd : o.guard = none) (s x : Operand)
    (ho : o.op = .call { callee := .builtin .append, args := #[s, x], argTypes := #[23, 23] })
    (base : Nat) (v : Value) (n : Nat) (xs : List Value) (hs : a.eval s = v) (hown : w.ownsRow base 43 7 v n xs)
    (A : Option Addr) (m c : Nat) (news : List Rc) (hx : a.eval x = .slice A m c) (hl : news.length = m) (hr : Rd w A (rcCells news))
    (hbytes : (n + m) * 72 ≤ 140737488355328) (hbase : base ≤ w.heap.size)
    (h : ∀ v' w', w'.ownsRow base 43 7 v' (n + m) (xs ++ rcCells news) → w.grownBy w' v.ownBlock → (v'.ownBlock = v.ownBlock ∨ ∃ k, v'.ownBlock = some k ∧ w.heap.size ≤ k) → wpList Tryz.prog ops Q rest (a.put o.dst v') w') :
    wpList Tryz.prog ops Q (o :: rest) a w := by
  obtain ⟨i0, hi, hz0, hz1, hz2⟩ := info_parts infoRec
  refine wpList_app w hgd s x 23 ho base 43 i0 _ 7 72 Tryz.underlying23 hi hz0 hz1 hz2 rfl (by omega) v n xs hs hown A m c (rcCells news) hx (by rw [rcCells_length, hl]) hr (rcCells_one _) hbytes (by unfold maxLen; omega) hbase ?_
  intro v' w' h1 h2 h3
  exact h v' w' h1 h2 h3
/-- One record, a literal slice of one. -/
theorem pushR (w : World) {ops : Array Oper} {rest : List Oper} {o : Oper} {a : Act} {Q : Exit → Act → World → Prop} (hgd : o.guard = none) (s x : Operand)
    (ho : o.op = .call { callee := .builtin .append, args := #[s, x], argTypes := #[23, 23] })
    (base : Nat) (v : Value) (n : Nat) (xs : List Value) (hs : a.eval s = v) (hown : w.ownsRow base 43 7 v n xs) (y : Rc) (q : Nat) (hq : q = w.heap.size)
    (hx : a.eval x = .slice (some ⟨q, 0, none⟩) 1 1)
    (hbytes : (n + 1) * 72 ≤ 140737488355328) (hbase : base ≤ w.heap.size)
    (h : ∀ v' w', w'.ownsRow base 43 7 v' (n + 1) (xs ++ y.cells) → w.grownBy w' v.ownBlock → (v'.ownBlock = v.ownBlock ∨ ∃ k, v'.ownBlock = some k ∧ w.heap.size ≤ k) → wpList Tryz.prog ops Q rest (a.put o.dst v') w') :
    wpList Tryz.prog ops Q (o :: rest) a (w.alloc (.cells #[.int .i64 y.k, .int .i64 y.o, .int .i64 y.t, .int .i64 y.p, .int .i64 y.s, .string y.key, .string y.val] 43)) := by
  subst hq
  have hb : Below w.heap.size w (w.alloc (.cells #[.int .i64 y.k, .int .i64 y.o, .int .i64 y.t, .int .i64 y.p, .int .i64 y.s, .string y.key, .string y.val] 43)) := (Below.refl _ _).alloc (Nat.le_refl _) _
  refine appR (w.alloc (.cells #[.int .i64 y.k, .int .i64 y.o, .int .i64 y.t, .int .i64 y.p, .int .i64 y.s, .string y.key, .string y.val] 43)) hgd s x ho base v n xs hs (hown.alloc _) (some ⟨w.heap.size, 0, none⟩) 1 1 [y] hx rfl (rd_lit w _ _) hbytes (Nat.le_trans hbase hb.size) ?_
  intro v' w' h1 h2 h3
  have e1 : rcCells [y] = y.cells := by simp [rcCells]
  rw [e1] at h1
  refine h v' w' h1 ⟨h2.os.trans hb.os, h2.tape.trans hb.tape, h2.output.trans hb.output, Nat.le_trans hb.size h2.size, fun k hk hne => (h2.block k (Nat.lt_of_lt_of_le hk hb.size) hne).trans (hb.block k hk)⟩ ?_
  rcases h3 with h3 | ⟨k, h3, hk⟩
  · exact .inl h3
  · exact .inr ⟨k, h3, Nat.le_trans hb.size hk⟩

end Go.Proofs.YtljfmcgeiceagaaGreat

/- Scan: the program (printed by gen_rcscan.py). -/
namespace Go.Proofs.YtljfmcgeiceagaaGreat
open Go Go.RowKit
set_option linter.unusedVariables false
set_option linter.unusedSimpArgs false

end Go.Proofs.YtljfmcgeiceagaaGreat

/- A record handed in by value, opened. -/
namespace Go.Proofs.YtljfmcgeiceagaaGreat
open Go Go.RowKit Go.ChangeShapes Go.WideShapes Go.ChangeAt
set_option linter.unusedVariables false

theorem field_int64 {H : Type} {enc : TypeId × Value → H} {w : World} {base : Nat} {spare : Nat → Bool} {held : Bool} {n : Nat} {t : TypeId} (ht : Tryz.prog.underlying t = some (.int .i64)) {c : Value} {y : Option (DataW H × List MemPlace)} {x : DataW H × List MemPlace} (hy : y = some x)
    (h : DataW.trod enc Tryz.prog w base spare held n t [c] = y) : ∃ k, c = .int .i64 k ∧ r64 k := by
  rw [hy] at h
  obtain ⟨k, h1, _, h2⟩ := DataW.trod_int ht h
  simp only [List.cons.injEq, and_true] at h1
  exact ⟨k, h1, int_of_wf_i64 h2⟩
end Go.Proofs.YtljfmcgeiceagaaGreat

/- How an argument that is a list of records is opened. -/
namespace Go.Proofs.YtljfmcgeiceagaaGreat
open Go Go.RowKit Go.ChangeShapes Go.WideShapes Go.ChangeAt Go.Deep
set_option linter.unusedVariables false
set_option linter.unusedSimpArgs false

/-- A row of records read from its cells. -/
theorem rd_recs {w : World} {g off : Nat} {l : List Rc} (hg : g < w.heap.size) (h : ∀ k x, l[k]? = some x → ∀ j v, x.cells[j]? = some v → w.cell? ⟨g, off + (k * 7 + j), none⟩ = some v) : Rd w (some ⟨g, off, none⟩) (rcCells l) := by
  intro _
  refine ⟨g, off, rfl, hg, fun q v hq => ?_⟩
  have hql : q < l.length * 7 := by rw [← rcCells_length]; exact (List.getElem?_eq_some_iff.1 hq).1
  have hx : l[q / 7]? = some (l[q / 7]'(by omega)) := List.getElem?_eq_getElem (by omega)
  have e : q = q / 7 * 7 + q % 7 := by omega
  have h7 : q % 7 < 7 := Nat.mod_lt _ (by omega)
  rw [e] at hq ⊢
  rw [rcCells_get hx _ h7] at hq
  exact h _ _ hx _ _ hq

end Go.Proofs.YtljfmcgeiceagaaGreat
