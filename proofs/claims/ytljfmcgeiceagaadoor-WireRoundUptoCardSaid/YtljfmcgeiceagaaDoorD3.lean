/- Several texts in one: RecScP, RecRdP, RecRow, RecScan, OpenRec, OpenRecs. -/
import Derived.Test.YtljfmcgeiceagaaDoorX6
import Derived.Test.YtljfmcgeiceagaaDoorD2
import Derived.Test.YtljfmcgeiceagaaDoorF1
import Derived.BigQuiet
/- Rows of records in bytes: in plain words. -/
namespace Go.Proofs.YtljfmcgeiceagaaDoor
open Go Go.RowKit
set_option linter.unusedVariables false
set_option linter.unusedSimpArgs false

/-- What is read: a record that may be, and just its bytes. -/
theorem rdec_cases (b : List Nat) : (∃ x n, rdec b = (x, n, 0) ∧ May x ∧ 14 ≤ n ∧ n ≤ 1124 ∧ n ≤ b.length ∧ b.take n = wrap 169 (bdy x) ∧ n = (bdy x).length + 9) ∨ rdec b = (rc0, 0, 40) ∨ rdec b = (rc0, 0, 41) := by
  unfold rdec
  split
  · exact .inr (.inl rfl)
  split
  · exact .inr (.inr rfl)
  split
  · exact .inr (.inl rfl)
  split
  · exact .inr (.inr rfl)
  split
  · exact .inr (.inl rfl)
  split
  · rename_i h0 h1 h2 h3 h4 h
    obtain ⟨hc, hw⟩ := h
    have hm := chk_may hc
    have hl := congrArg List.length hw
    rw [wrap_length, List.length_take] at hl
    refine .inl ⟨_, _, rfl, hm, by omega, by omega, by omega, hw.symm, by omega⟩
  · exact .inr (.inr rfl)
theorem rdec_len (b : List Nat) : (rdec b).2.1 ≤ b.length := by
  rcases rdec_cases b with ⟨x, n, h, _, _, _, hn, _⟩ | h | h <;> rw [h]
  · exact hn
  · simp
  · simp
/-- The last one's offset. -/
def lo (l : List Rc) : Int := match l.getLast? with
  | some x => x.o
  | none => -1
theorem lo_nil : lo [] = -1 := rfl
theorem lo_snoc (l : List Rc) (x : Rc) : lo (l ++ [x]) = x.o := by unfold lo; rw [List.getLast?_concat]
theorem lo_get {l : List Rc} {x : Rc} (h : l[l.length - 1]? = some x) : lo l = x.o := by
  unfold lo
  rw [List.getLast?_eq_getElem?, h]
/-- From place p on, with these found. -/
def scanW (b : List Nat) (p : Nat) (acc : List Rc) : List Rc × Nat × Nat :=
  if h : p < b.length ∧ 0 < (rdec (b.drop p)).2.1 ∧ (rdec (b.drop p)).2.2 = 0 ∧ lo acc < (rdec (b.drop p)).1.o then
    scanW b (p + (rdec (b.drop p)).2.1) (acc ++ [(rdec (b.drop p)).1])
  else (acc, p, if p < b.length then (if (rdec (b.drop p)).2.2 = 0 then 41 else (rdec (b.drop p)).2.2) else 0)
termination_by b.length - p
decreasing_by omega
theorem scan_end {b : List Nat} {p : Nat} {acc : List Rc} (h : ¬ p < b.length) : scanW b p acc = (acc, p, 0) := by
  rw [scanW, dif_neg (fun h' => h h'.1), if_neg h]
theorem scan_err {b : List Nat} {p : Nat} {acc : List Rc} {z : Nat} (h : p < b.length) (hz : (rdec (b.drop p)).2.2 = z) (h0 : z ≠ 0) : scanW b p acc = (acc, p, z) := by
  rw [scanW, dif_neg (fun h' => h0 (hz ▸ h'.2.2.1)), if_pos h, hz, if_neg h0]
theorem scan_low {b : List Nat} {p n : Nat} {acc : List Rc} {x : Rc} (h : p < b.length) (hz : rdec (b.drop p) = (x, n, 0)) (hx : x.o ≤ lo acc) : scanW b p acc = (acc, p, 41) := by
  rw [scanW, dif_neg (fun h' => by have := h'.2.2.2; rw [hz] at this; simp only at this; omega), if_pos h, hz, if_pos rfl]
theorem scan_step {b : List Nat} {p n : Nat} {acc : List Rc} {x : Rc} (h : p < b.length) (hz : rdec (b.drop p) = (x, n, 0)) (hn : 0 < n) (hx : lo acc < x.o) : scanW b p acc = scanW b (p + n) (acc ++ [x]) := by
  rw [scanW, dif_pos ⟨h, by rw [hz]; exact hn, by rw [hz], by rw [hz]; exact hx⟩, hz]
/-- How many there may be. -/
structure Few (acc : List Rc) : Prop where
  len : (acc.length : Int) ≤ lo acc + 1
  top : lo acc < 1099511627776
theorem Few.nil : Few [] := ⟨by rw [lo_nil]; simp, by rw [lo_nil]; omega⟩
theorem Few.step {acc : List Rc} {x : Rc} (h : Few acc) (hm : May x) (hx : lo acc < x.o) : Few (acc ++ [x]) :=
  ⟨by rw [lo_snoc, List.length_append]; have := h.len; simp; omega, by rw [lo_snoc]; exact hm.o.2⟩
theorem Few.most {acc : List Rc} (h : Few acc) : acc.length ≤ 1099511627776 := by have := h.len; have := h.top; omega
theorem scan_few' (b : List Nat) : ∀ (d p : Nat) (acc : List Rc), b.length - p ≤ d → Few acc → Few (scanW b p acc).1 := by
  intro d
  induction d with
  | zero => intro p acc hd h; rw [scan_end (by omega)]; exact h
  | succ d ih =>
    intro p acc hd h
    by_cases hp : p < b.length
    · rcases rdec_cases (b.drop p) with ⟨x, n, e, hm, h14, _⟩ | e | e
      · by_cases hx : lo acc < x.o
        · rw [scan_step hp e (by omega) hx]
          exact ih _ _ (by omega) (h.step hm hx)
        · rw [scan_low hp e (by omega)]; exact h
      · rw [scan_err hp (by rw [e]) (by decide)]; exact h
      · rw [scan_err hp (by rw [e]) (by decide)]; exact h
    · rw [scan_end hp]; exact h
theorem scan_few (b : List Nat) : Few (scanW b 0 []).1 := scan_few' b _ 0 [] (Nat.le_refl _) Few.nil
/-- Every whole record, wherever it stands. -/
def salvW (b : List Nat) (p : Nat) (acc : List (Nat × Rc)) : List (Nat × Rc) :=
  if p < b.length then
    if h : 0 < (rdec (b.drop p)).2.1 ∧ (rdec (b.drop p)).2.2 = 0 then salvW b (p + (rdec (b.drop p)).2.1) (acc ++ [(p, (rdec (b.drop p)).1)])
    else salvW b (p + 1) acc
  else acc
termination_by b.length - p
decreasing_by all_goals omega
theorem salv_end {b : List Nat} {p : Nat} {acc : List (Nat × Rc)} (h : ¬ p < b.length) : salvW b p acc = acc := by rw [salvW, if_neg h]
theorem salv_no {b : List Nat} {p : Nat} {acc : List (Nat × Rc)} (h : p < b.length) (hz : (rdec (b.drop p)).2.2 ≠ 0) : salvW b p acc = salvW b (p + 1) acc := by
  rw [salvW, if_pos h, dif_neg (fun h' => hz h'.2)]
theorem salv_yes {b : List Nat} {p n : Nat} {acc : List (Nat × Rc)} {x : Rc} (h : p < b.length) (hz : rdec (b.drop p) = (x, n, 0)) (hn : 0 < n) : salvW b p acc = salvW b (p + n) (acc ++ [(p, x)]) := by
  rw [salvW, if_pos h, dif_pos ⟨by rw [hz]; exact hn, by rw [hz]⟩, hz]
end Go.Proofs.YtljfmcgeiceagaaDoor

/- What was written is read; a part of it is torn: in plain words. -/
namespace Go.Proofs.YtljfmcgeiceagaaDoor
open Go Go.RowKit
set_option linter.unusedVariables false
set_option linter.unusedSimpArgs false

theorem headD_append {l t : List Nat} (h : 0 < l.length) : (l ++ t).headD 0 = l.headD 0 := by
  cases l with
  | nil => simp at h
  | cons a r => rfl
theorem rdec_wrap {x : Rc} (hm : May x) (t : List Nat) : rdec (wrap 169 (bdy x) ++ t) = (x, (bdy x).length + 9, 0) := by
  have hb := bdy_len hm
  have hl := wrap_length 169 (bdy x)
  obtain ⟨p0, p1, p2, p3⟩ := wrap_parts 169 (bdy x)
  have e0 : (wrap 169 (bdy x) ++ t).headD 0 = 169 := by rw [headD_append (by omega), p0]
  have e1 : ((wrap 169 (bdy x) ++ t).drop 1).take 4 = fx (bdy x).length 4 := by
    rw [List.drop_append_of_le_length (by omega), List.take_append_of_le_length (by rw [List.length_drop]; omega), p1]
  have e9 : ((wrap 169 (bdy x) ++ t).drop 9).take (bdy x).length = bdy x := by
    rw [List.drop_append_of_le_length (by omega), p3, List.take_append_of_le_length (by omega), List.take_of_length_le (by omega)]
  have et : (wrap 169 (bdy x) ++ t).take (9 + (bdy x).length) = wrap 169 (bdy x) := by
    rw [List.take_append_of_le_length (by omega), List.take_of_length_le (by omega)]
  have hlen : (wrap 169 (bdy x) ++ t).length = (bdy x).length + 9 + t.length := by rw [List.length_append, hl]
  unfold rdec
  rw [e0, e1, val_fx (by omega), e9, et, rdm_bdy hm, hlen]
  rw [if_neg (by omega), if_neg (by omega), if_neg (by omega), if_neg (by omega), if_neg (by omega), if_pos ⟨may_chk hm, rfl⟩, Nat.add_comm]
theorem rdec_torn {x : Rc} (hm : May x) (i : Nat) (hi : i < (bdy x).length + 9) : rdec ((wrap 169 (bdy x)).take i) = (rc0, 0, 40) := by
  have hb := bdy_len hm
  have hl := wrap_length 169 (bdy x)
  obtain ⟨p0, p1, p2, p3⟩ := wrap_parts 169 (bdy x)
  have hlen : ((wrap 169 (bdy x)).take i).length = i := by rw [List.length_take]; omega
  unfold rdec
  rw [hlen]
  by_cases h0 : i = 0
  · rw [if_pos h0]
  have e0 : ((wrap 169 (bdy x)).take i).headD 0 = 169 := by
    rw [← p0]
    cases h : wrap 169 (bdy x) with
    | nil => rw [h] at hl; simp at hl
    | cons a r =>
      obtain ⟨j, rfl⟩ : ∃ j, i = j + 1 := ⟨i - 1, by omega⟩
      rfl
  rw [if_neg h0, e0, if_neg (by omega)]
  by_cases h5 : i < 5
  · rw [if_pos h5]
  have e1 : (((wrap 169 (bdy x)).take i).drop 1).take 4 = fx (bdy x).length 4 := by
    rw [List.drop_take, List.take_take, show min 4 (i - 1) = 4 by omega, p1]
  rw [if_neg h5, e1, val_fx (by omega), if_neg (by omega), if_pos (by omega)]
/-- A record's bytes. -/
theorem renc_of_rdec {b : List Nat} {x : Rc} {n : Nat} (h : rdec b = (x, n, 0)) : renc x = (b.take n, 0) ∧ May x ∧ n ≤ b.length := by
  rcases rdec_cases b with ⟨x', n', h', hm, _, _, hn, hw, _⟩ | h' | h'
  · rw [h] at h'
    obtain ⟨rfl, rfl, _⟩ := (by simpa using h' : x = x' ∧ n = n' ∧ True)
    exact ⟨by rw [renc, if_pos (may_chk hm), hw], hm, hn⟩
  · rw [h] at h'; simp at h'
  · rw [h] at h'; simp at h'
theorem rdec_bad {b : List Nat} (h : (rdec b).2.2 ≠ 0) : (rdec b).1 = rc0 ∧ (rdec b).2.1 = 0 := by
  rcases rdec_cases b with ⟨x', n', h', _⟩ | h' | h'
  · rw [h'] at h; simp at h
  · rw [h']; exact ⟨rfl, rfl⟩
  · rw [h']; exact ⟨rfl, rfl⟩
end Go.Proofs.YtljfmcgeiceagaaDoor

/- Rows of records; alike, spoilt. -/
namespace Go.Proofs.YtljfmcgeiceagaaDoor
open Go Go.RowKit
set_option linter.unusedVariables false
set_option linter.unusedSimpArgs false

def rcCells (l : List Rc) : List Value := l.flatMap Rc.cells
theorem rcCells_cons (x : Rc) (r : List Rc) : rcCells (x :: r) = x.cells ++ rcCells r := by simp [rcCells]
theorem rcCells_append (a b : List Rc) : rcCells (a ++ b) = rcCells a ++ rcCells b := by simp [rcCells]
theorem rcCells_length (l : List Rc) : (rcCells l).length = l.length * 7 := by
  induction l with
  | nil => rfl
  | cons x r ih =>
    rw [rcCells_cons, List.length_append, ih]
    simp [Rc.cells]
    omega
theorem rcCells_one (l : List Rc) : ∀ u ∈ rcCells l, u.oneCell' = true := by
  intro u hu
  obtain ⟨x, _, hx⟩ := List.mem_flatMap.1 hu
  simp only [Rc.cells, List.mem_cons, List.not_mem_nil, or_false] at hx
  rcases hx with rfl | rfl | rfl | rfl | rfl | rfl | rfl <;> rfl
theorem rcCells_get : ∀ {l : List Rc} {k : Nat} {x : Rc}, l[k]? = some x → ∀ j, j < 7 → (rcCells l)[k * 7 + j]? = x.cells[j]?
  | [], k, x, h, j, hj => by simp at h
  | y :: r, 0, x, h, j, hj => by
    simp only [List.getElem?_cons_zero, Option.some.injEq] at h
    subst h
    rw [rcCells_cons, Nat.zero_mul, Nat.zero_add, List.getElem?_append_left (by simp [Rc.cells]; omega)]
  | y :: r, k + 1, x, h, j, hj => by
    have h' : r[k]? = some x := by simpa using h
    have hl : y.cells.length = 7 := rfl
    rw [rcCells_cons, List.getElem?_append_right (by omega), hl, show (k + 1) * 7 + j - 7 = k * 7 + j by omega]
    exact rcCells_get h' j hj
theorem rcCells_take (l : List Rc) (n : Nat) : rcCells (l.take n) = (rcCells l).take (n * 7) := by
  by_cases h : n ≤ l.length
  · have e : rcCells l = rcCells (l.take n) ++ rcCells (l.drop n) := by rw [← rcCells_append, List.take_append_drop]
    rw [e, List.take_left' (by rw [rcCells_length, List.length_take]; omega)]
  · rw [List.take_of_length_le (by omega), List.take_of_length_le (by rw [rcCells_length]; omega)]
theorem Rd.rec {w : World} {A : Option Addr} {l : List Rc} (h : Rd w A (rcCells l)) {k : Nat} {x : Rc} (hk : l[k]? = some x) :
    ∃ g off, A = some ⟨g, off, none⟩ ∧ g < w.heap.size ∧ w.cell? ⟨g, off + k * 7, none⟩ = some (.int .i64 x.k) ∧ w.cell? ⟨g, off + k * 7 + 1, none⟩ = some (.int .i64 x.o) ∧ w.cell? ⟨g, off + k * 7 + 2, none⟩ = some (.int .i64 x.t) ∧ w.cell? ⟨g, off + k * 7 + 3, none⟩ = some (.int .i64 x.p) ∧ w.cell? ⟨g, off + k * 7 + 4, none⟩ = some (.int .i64 x.s) ∧ w.cell? ⟨g, off + k * 7 + 5, none⟩ = some (.string x.key) ∧ w.cell? ⟨g, off + k * 7 + 6, none⟩ = some (.string x.val) := by
  have hne : rcCells l ≠ [] := by
    intro e
    have := rcCells_get hk 0 (by omega)
    rw [e] at this
    simp [Rc.cells] at this
  obtain ⟨g, off, hA, hg, hc⟩ := h hne
  have hj : ∀ j v, j < 7 → x.cells[j]? = some v → w.cell? ⟨g, off + k * 7 + j, none⟩ = some v := fun j v h1 h2 => by
    have := hc (k * 7 + j) v ((rcCells_get hk j h1).trans h2)
    rw [← Nat.add_assoc] at this
    exact this
  exact ⟨g, off, hA, hg, hj 0 _ (by omega) rfl, hj 1 _ (by omega) rfl, hj 2 _ (by omega) rfl, hj 3 _ (by omega) rfl, hj 4 _ (by omega) rfl, hj 5 _ (by omega) rfl, hj 6 _ (by omega) rfl⟩
theorem infoRec : (Tryd.prog.info? 90).map (fun i => (i.zero, i.size, i.bytes)) = some (some (.agg #[.int .i64 0, .int .i64 0, .int .i64 0, .int .i64 0, .int .i64 0, .string ⟨#[]⟩, .string ⟨#[]⟩]), 7, 72) := by kernel_rfl
/-- Records behind a row of the call's own. -/
theorem appR (w : World) {ops : Array Oper} {rest : List Oper} {o : Oper} {a : Act} {Q : Exit → Act → World → Prop} (hgd : o.guard = none) (s x : Operand)
    (ho : o.op = .call { callee := .builtin .append, args := #[s, x], argTypes := #[36, 36] })
    (base : Nat) (v : Value) (n : Nat) (xs : List Value) (hs : a.eval s = v) (hown : w.ownsRow base 90 7 v n xs)
    (A : Option Addr) (m c : Nat) (news : List Rc) (hx : a.eval x = .slice A m c) (hl : news.length = m) (hr : Rd w A (rcCells news))
    (hbytes : (n + m) * 72 ≤ 140737488355328) (hbase : base ≤ w.heap.size)
    (h : ∀ v' w', w'.ownsRow base 90 7 v' (n + m) (xs ++ rcCells news) → w.grownBy w' v.ownBlock → (v'.ownBlock = v.ownBlock ∨ ∃ k, v'.ownBlock = some k ∧ w.heap.size ≤ k) → wpList Tryd.prog ops Q rest (a.put o.dst v') w') :
    wpList Tryd.prog ops Q (o :: rest) a w := by
  obtain ⟨i0, hi, hz0, hz1, hz2⟩ := info_parts infoRec
  refine wpList_app w hgd s x 36 ho base 90 i0 _ 7 72 Tryd.underlying36 hi hz0 hz1 hz2 rfl (by omega) v n xs hs hown A m c (rcCells news) hx (by rw [rcCells_length, hl]) hr (rcCells_one _) hbytes (by unfold maxLen; omega) hbase ?_
  intro v' w' h1 h2 h3
  exact h v' w' h1 h2 h3
/-- One record, a literal slice of one. -/
theorem pushR (w : World) {ops : Array Oper} {rest : List Oper} {o : Oper} {a : Act} {Q : Exit → Act → World → Prop} (hgd : o.guard = none) (s x : Operand)
    (ho : o.op = .call { callee := .builtin .append, args := #[s, x], argTypes := #[36, 36] })
    (base : Nat) (v : Value) (n : Nat) (xs : List Value) (hs : a.eval s = v) (hown : w.ownsRow base 90 7 v n xs) (y : Rc) (q : Nat) (hq : q = w.heap.size)
    (hx : a.eval x = .slice (some ⟨q, 0, none⟩) 1 1)
    (hbytes : (n + 1) * 72 ≤ 140737488355328) (hbase : base ≤ w.heap.size)
    (h : ∀ v' w', w'.ownsRow base 90 7 v' (n + 1) (xs ++ y.cells) → w.grownBy w' v.ownBlock → (v'.ownBlock = v.ownBlock ∨ ∃ k, v'.ownBlock = some k ∧ w.heap.size ≤ k) → wpList Tryd.prog ops Q rest (a.put o.dst v') w') :
    wpList Tryd.prog ops Q (o :: rest) a (w.alloc (.cells #[.int .i64 y.k, .int .i64 y.o, .int .i64 y.t, .int .i64 y.p, .int .i64 y.s, .string y.key, .string y.val] 90)) := by
  subst hq
  have hb : Below w.heap.size w (w.alloc (.cells #[.int .i64 y.k, .int .i64 y.o, .int .i64 y.t, .int .i64 y.p, .int .i64 y.s, .string y.key, .string y.val] 90)) := (Below.refl _ _).alloc (Nat.le_refl _) _
  refine appR (w.alloc (.cells #[.int .i64 y.k, .int .i64 y.o, .int .i64 y.t, .int .i64 y.p, .int .i64 y.s, .string y.key, .string y.val] 90)) hgd s x ho base v n xs hs (hown.alloc _) (some ⟨w.heap.size, 0, none⟩) 1 1 [y] hx rfl (rd_lit w _ _) hbytes (Nat.le_trans hbase hb.size) ?_
  intro v' w' h1 h2 h3
  have e1 : rcCells [y] = y.cells := by simp [rcCells]
  rw [e1] at h1
  refine h v' w' h1 ⟨h2.os.trans hb.os, h2.tape.trans hb.tape, h2.output.trans hb.output, Nat.le_trans hb.size h2.size, fun k hk hne => (h2.block k (Nat.lt_of_lt_of_le hk hb.size) hne).trans (hb.block k hk)⟩ ?_
  rcases h3 with h3 | ⟨k, h3, hk⟩
  · exact .inl h3
  · exact .inr ⟨k, h3, Nat.le_trans hb.size hk⟩

theorem own_put {w : World} {base g n c : Nat} {e : TypeId} {size : Nat} {xs : List Value} (h : w.ownsRow base e size (.slice (some ⟨g, 0, none⟩) n c) n xs) (k : Nat) (u : Value) :
    (w.setCell ⟨g, k, none⟩ u).ownsRow base e size (.slice (some ⟨g, 0, none⟩) n c) n (xs.set k u) ∧ w.grownBy (w.setCell ⟨g, k, none⟩ u) (some g) := h.stored k u
end Go.Proofs.YtljfmcgeiceagaaDoor

/- Scan: the program (printed by gen_rcscan.py). -/
namespace Go.Proofs.YtljfmcgeiceagaaDoor
open Go Go.RowKit
set_option linter.unusedVariables false
set_option linter.unusedSimpArgs false

def ScanPost (w : World) (q : List Rc × Nat × Nat) (e : Ending) (w' : World) : Prop :=
  ∃ A c, e = .returned (.tuple #[.slice A q.1.length c, .int .i64 (q.2.1 : Int), .int .i64 (q.2.2 : Int)]) ∧ w'.ownsRow w.heap.size 90 7 (.slice A q.1.length c) q.1.length (rcCells q.1) ∧ Below w.heap.size w w'
theorem scanpost_mk {w W : World} {q : List Rc × Nat × Nat} {acc : List Rc} {p z : Nat} {A : Option Addr} {c n : Nat} (hq : q = (acc, p, z)) (hn : n = acc.length) (ho : W.ownsRow w.heap.size 90 7 (.slice A n c) n (rcCells acc)) (hb : Below w.heap.size w W) : ScanPost w q (.returned (.tuple #[.slice A n c, .int .i64 (p : Int), .int .i64 (z : Int)])) W := by
  subst hq hn
  exact ⟨A, c, rfl, ho, hb⟩
/-- The last one of a row of the call's own. -/
theorem last_cell {W : World} {base n c : Nat} {A : Option Addr} {acc : List Rc} (h : W.ownsRow base 90 7 (.slice A n c) n (rcCells acc)) (hn : acc.length = n) (hp : 0 < n) : ∃ g, A = some ⟨g, 0, none⟩ ∧ W.cell? ⟨g, (n - 1) * 7 + 1, none⟩ = some (.int .i64 (lo acc)) := by
  obtain ⟨x, hx⟩ : ∃ x, acc[n - 1]? = some x := ⟨_, List.getElem?_eq_getElem (by omega)⟩
  obtain ⟨g, hA, _⟩ := own_pos h hp
  subst hA
  obtain ⟨g', off, e, _, _, h1, _⟩ := (rd_own h).rec hx
  injection e with e
  injection e with e1 e2
  subst e1 e2
  refine ⟨g, rfl, ?_⟩
  rw [lo_get (by rw [hn]; exact hx)]
  simpa using h1
end Go.Proofs.YtljfmcgeiceagaaDoor

/- A record handed in by value, opened. -/
namespace Go.Proofs.YtljfmcgeiceagaaDoor
open Go Go.RowKit Go.ChangeShapes Go.WideShapes Go.ChangeAt
set_option linter.unusedVariables false

theorem array7 {α : Type} {cs : Array α} (h : cs.size = 7) : ∃ c0 c1 c2 c3 c4 c5 c6, cs = #[c0, c1, c2, c3, c4, c5, c6] := by
  obtain ⟨l⟩ := cs
  match l, h with
  | [c0, c1, c2, c3, c4, c5, c6], _ => exact ⟨c0, c1, c2, c3, c4, c5, c6, rfl⟩
theorem field_int64 {H : Type} {enc : TypeId × Value → H} {w : World} {base : Nat} {spare : Nat → Bool} {held : Bool} {n : Nat} {t : TypeId} (ht : Tryd.prog.underlying t = some (.int .i64)) {c : Value} {y : Option (DataW H × List MemPlace)} {x : DataW H × List MemPlace} (hy : y = some x)
    (h : DataW.trod enc Tryd.prog w base spare held n t [c] = y) : ∃ k, c = .int .i64 k ∧ r64 k := by
  rw [hy] at h
  obtain ⟨k, h1, _, h2⟩ := DataW.trod_int ht h
  simp only [List.cons.injEq, and_true] at h1
  exact ⟨k, h1, int_of_wf_i64 h2⟩
theorem field_string {H : Type} {enc : TypeId × Value → H} {w : World} {base : Nat} {spare : Nat → Bool} {held : Bool} {n : Nat} {c : Value} {y : Option (DataW H × List MemPlace)} {x : DataW H × List MemPlace} (hy : y = some x)
    (h : DataW.trod enc Tryd.prog w base spare held n 9 [c] = y) : ∃ s, c = .string s := by
  rw [hy] at h
  obtain ⟨k, h1, _⟩ := DataW.trod_string Tryd.underlying9 h
  simp only [List.cons.injEq, and_true] at h1
  exact ⟨k, h1⟩
set_option maxRecDepth 100000 in
theorem open_rec {H : Type} {enc : TypeId × Value → H} {w : World} {base : Nat} {spare : Nat → Bool} {held : Bool} {r : Reach} {b0 : Nat} {v : Value} {d : DataW H} {p : List MemPlace}
    (hv : Value.okWide Tryd.prog w r b0 90 v) (h : DataW.Trod enc Tryd.prog w base spare held 90 v d p) :
    ∃ x : Rc, v = x.v ∧ r64 x.k ∧ r64 x.o ∧ r64 x.t ∧ r64 x.p ∧ r64 x.s := by
  obtain ⟨cs, rfl, hsz⟩ := okWide_struct Tryd.underlying90 hv
  obtain ⟨c0, c1, c2, c3, c4, c5, c6, rfl⟩ := array7 (hsz.trans (by kernel_rfl))
  obtain ⟨fuel, hf⟩ := h
  obtain ⟨xs, n, _, _, hl, hlen, hfs⟩ := DataW.trod_struct Tryd.underlying90 hf
  match xs, hlen with
  | [y0, y1, y2, y3, y4, y5, y6], _ =>
    have h0 := hfs 0 _ rfl
    have h1 := hfs 1 _ rfl
    have h2 := hfs 2 _ rfl
    have h3 := hfs 3 _ rfl
    have h4 := hfs 4 _ rfl
    have h5 := hfs 5 _ rfl
    have h6 := hfs 6 _ rfl
    simp only [Value.cells] at h0 h1 h2 h3 h4 h5 h6
    obtain ⟨k0, rfl, r0⟩ := field_int64 Tryd.underlying3 rfl h0
    obtain ⟨k1, rfl, r1⟩ := field_int64 Tryd.underlying2 rfl h1
    obtain ⟨k2, rfl, r2⟩ := field_int64 Tryd.underlying2 rfl h2
    obtain ⟨k3, rfl, r3⟩ := field_int64 Tryd.underlying2 rfl h3
    obtain ⟨k4, rfl, r4⟩ := field_int64 Tryd.underlying2 rfl h4
    obtain ⟨k5, rfl⟩ := field_string rfl h5
    obtain ⟨k6, rfl⟩ := field_string rfl h6
    exact ⟨⟨k0, k1, k2, k3, k4, k5, k6⟩, rfl, r0, r1, r2, r3, r4⟩
end Go.Proofs.YtljfmcgeiceagaaDoor

/- How an argument that is a list of records is opened. -/
namespace Go.Proofs.YtljfmcgeiceagaaDoor
open Go Go.RowKit Go.ChangeShapes Go.WideShapes Go.ChangeAt Go.Deep
set_option linter.unusedVariables false
set_option linter.unusedSimpArgs false

theorem inWeightsR {H : Type} {P : Program} {e : TypeId} : ∀ {l : List (DataW H)} {d : DataW H}, d ∈ l → ∀ n ∈ d.weights P e, n ∈ DataW.weightsAll P e l
  | d' :: r, d, hd, n, hn => by
    simp only [DataW.weightsAll, List.mem_append]
    rcases List.mem_cons.1 hd with rfl | h
    · exact Or.inl hn
    · exact Or.inr (inWeightsR h n hn)
/-- A row of records read from its cells. -/
theorem rd_recs {w : World} {g off : Nat} {l : List Rc} (hg : g < w.heap.size) (h : ∀ k x, l[k]? = some x → ∀ j v, x.cells[j]? = some v → w.cell? ⟨g, off + (k * 7 + j), none⟩ = some v) : Rd w (some ⟨g, off, none⟩) (rcCells l) := by
  intro _
  refine ⟨g, off, rfl, hg, fun q v hq => ?_⟩
  have hql : q < l.length * 7 := by rw [← rcCells_length]; exact (List.getElem?_eq_some_iff.1 hq).1
  have hx : l[q / 7]? = some (l[q / 7]'(by omega)) := List.getElem?_eq_getElem (by omega)
  have e : q = q / 7 * 7 + q % 7 := by omega
  have h7 : q % 7 < 7 := Nat.mod_lt _ (by omega)
  rw [e] at hq ⊢
  rw [rcCells_get hx _ h7] at hq
  exact h _ _ hx _ _ hq

section
variable {H : Type} {enc : TypeId × Value → H} {w : World} {base : Nat} {spare : Nat → Bool} {held : Bool}
set_option maxRecDepth 100000 in
theorem open_recs {r : Reach} {b0 : Nat} {v : Value} {d : DataW H} {ps : List MemPlace} {ts : List TypeId} {ds : List (DataW H)} {j : Nat}
    (hval : Value.okWide Tryd.prog w r b0 36 v) (hd : DataW.Trod enc Tryd.prog w base spare held 36 v d ps)
    (hsz : (DataW.weightsEach Tryd.prog ts ds).all (· ≤ reachBytes) = true) (htj : ts[j]? = some 36) (hdj : ds[j]? = some d) :
    ∃ (A : Option Addr) (c : Nat) (l : List Rc), v = .slice A l.length c ∧ l.length ≤ c ∧ Rd w A (rcCells l) ∧ (∀ x ∈ l, x.Ok) ∧ l.length * 72 ≤ 140737488351232 ∧ l.length ≤ Rows.uptoBulk d := by
  have ht := Tryd.underlying36
  have he := Tryd.underlying90
  obtain ⟨a0, len, cap, rfl⟩ := okWide_slice ht hval
  obtain ⟨fuel, hf⟩ := hd
  have hC : Tryd.prog.cellsOf 90 = 7 := by kernel_rfl
  have hb : Tryd.prog.bytesOf 90 = 72 := by kernel_rfl
  rcases open_slice_fields ht he (by kernel_rfl) (by kernel_rfl) hf with ⟨hcs, _⟩ | ⟨a, len', cap', m, D, Pl, hcs, hba, hl, hm, hmm, hx, hi⟩
  · simp [Value.cells] at hcs
    obtain ⟨rfl, rfl, rfl⟩ := hcs
    exact ⟨none, 0, [], rfl, Nat.le_refl _, Rd.nil_ _ _, fun b hb => by simp at hb, by simp, by simp⟩
  · simp [Value.cells] at hcs
    obtain ⟨rfl, rfl, rfl⟩ := hcs
    simp only [Prod.mk.injEq] at hx
    obtain ⟨rfl, rfl⟩ := hx
    have hlz : len ≤ m := by rw [hmm]; split <;> omega
    have hs := sized_slice hsz htj hdj ht
    rw [hb] at hs
    simp only [List.length_map, List.length_range, reachBytes] at hs
    have hcell : ∀ i, i < m → ∃ x : Rc, (∀ q v, x.cells[q]? = some v → w.cell? (a.add (i * 7 + q)) = some v) ∧ (i < len → x.Ok) := by
      intro i hi'
      obtain ⟨ys, n, hD, _, _, hfl⟩ := hi i hi'
      obtain ⟨v0, y0, g0, _, h0⟩ := hfl 0 _ rfl
      obtain ⟨v1, y1, g1, _, h1⟩ := hfl 1 _ rfl
      obtain ⟨v2, y2, g2, _, h2⟩ := hfl 2 _ rfl
      obtain ⟨v3, y3, g3, _, h3⟩ := hfl 3 _ rfl
      obtain ⟨v4, y4, g4, _, h4⟩ := hfl 4 _ rfl
      obtain ⟨v5, y5, g5, hy5, h5⟩ := hfl 5 _ rfl
      obtain ⟨v6, y6, g6, hy6, h6⟩ := hfl 6 _ rfl
      obtain ⟨k0, rfl, r0⟩ := field_int64 Tryd.underlying3 rfl h0
      obtain ⟨k1, rfl, r1⟩ := field_int64 Tryd.underlying2 rfl h1
      obtain ⟨k2, rfl, r2⟩ := field_int64 Tryd.underlying2 rfl h2
      obtain ⟨k3, rfl, r3⟩ := field_int64 Tryd.underlying2 rfl h3
      obtain ⟨k4, rfl, r4⟩ := field_int64 Tryd.underlying2 rfl h4
      obtain ⟨k5, q5, q55, _⟩ := DataW.trod_string Tryd.underlying9 h5
      obtain ⟨k6, q6, q66, _⟩ := DataW.trod_string Tryd.underlying9 h6
      simp only [List.cons.injEq, and_true] at q5 q6
      subst q5 q6
      refine ⟨⟨k0, k1, k2, k3, k4, k5, k6⟩, ?_, fun hil => ⟨r0, r1, r2, r3, r4, ?_, ?_⟩⟩
      · intro q v hq
        have hq7 : q < 7 := (List.getElem?_eq_some_iff.1 hq).1
        rcases q with _ | _ | _ | _ | _ | _ | _ | q
        · injection hq with hq; subst hq; exact g0
        · injection hq with hq; subst hq; exact g1
        · injection hq with hq; subst hq; exact g2
        · injection hq with hq; subst hq; exact g3
        · injection hq with hq; subst hq; exact g4
        · injection hq with hq; subst hq; exact g5
        · injection hq with hq; subst hq; exact g6
        · omega
      all_goals
        simp only
        have hmem : DataW.agg (ys.map (·.1)) ∈ (List.range len).map D := List.mem_map.2 ⟨i, by simpa using hil, hD⟩
        have hin : ∀ (q : Nat) (t : TypeId) (s : ByteArray), ([3, 2, 2, 2, 2, 9, 9] : List TypeId)[q]? = some t → (ys.map (·.1))[q]? = some (DataW.lit (.string s.data.toList)) → s.data.toList.length ∈ DataW.weightsEach Tryd.prog ts ds := by
          intro q t s hqt hqd
          refine DataW.weights_mem_each htj hdj _ ?_
          simp only [DataW.weights, ht, List.mem_cons, List.mem_append]
          refine Or.inr (Or.inl (inWeightsR hmem _ ?_))
          simp only [DataW.weights, he]
          exact DataW.weights_mem_each (j := q) (t := t) (d := .lit (.string s.data.toList)) hqt hqd _ (by simp [DataW.weights])
        have r9 : reachBytes = 140737488351232 := rfl
        first
          | have h9 := of_decide_eq_true (List.all_eq_true.1 hsz _ (hin 5 _ k5 rfl (by rw [List.getElem?_map, hy5, q55]; rfl)))
            have e9 : k5.data.toList.length = k5.size := Array.length_toList
            omega
          | have h9 := of_decide_eq_true (List.all_eq_true.1 hsz _ (hin 6 _ k6 rfl (by rw [List.getElem?_map, hy6, q66]; rfl)))
            have e9 : k6.data.toList.length = k6.size := Array.length_toList
            omega
    have hch : ∀ i : Nat, ∃ x : Rc, i < m → (∀ q v, x.cells[q]? = some v → w.cell? (a.add (i * 7 + q)) = some v) ∧ (i < len → x.Ok) := by
      intro i
      by_cases h : i < m
      · obtain ⟨x, h1⟩ := hcell i h
        exact ⟨x, fun _ => h1⟩
      · exact ⟨⟨0, 0, 0, 0, 0, ⟨#[]⟩, ⟨#[]⟩⟩, fun h' => absurd h' h⟩
    obtain ⟨F, hF⟩ := Classical.axiomOfChoice hch
    refine ⟨some a, cap, (List.range len).map F, ?_, ?_, ?_, ?_, ?_, ?_⟩
    · simp
    · simpa using hl
    · intro hne
      have hpos : 0 < len := by
        rcases Nat.eq_zero_or_pos len with h0 | h0
        · subst h0; simp [rcCells] at hne
        · exact h0
      obtain ⟨g, off, spot⟩ := a
      have hc0 := (hF 0 (by omega)).1 0 _ rfl
      have hspot : spot = none := by simpa [Addr.add] using World.cell?_spot hc0
      subst hspot
      have hadd : ∀ k, (⟨g, off, none⟩ : Addr).add k = ⟨g, off + k, none⟩ := fun k => by unfold Addr.add; split <;> simp_all
      refine rd_recs (l := (List.range len).map F) ?_ ?_ hne
      · have := World.block_lt_of_cell? w _ hc0
        rw [hadd] at this
        exact this
      · intro k x hx j v hv
        rw [List.getElem?_map] at hx
        obtain ⟨z, hz1, hz2⟩ := Option.map_eq_some_iff.1 hx
        obtain ⟨hq, hz3⟩ := List.getElem?_eq_some_iff.1 hz1
        simp only [List.getElem_range] at hz3
        subst hz3
        have hq' : k < m := by simp at hq; omega
        have := (hF k hq').1
        rw [hz2] at this
        rw [← hadd]
        exact this j v hv
    · intro x hx
      obtain ⟨i, hi1, rfl⟩ := List.mem_map.1 hx
      have hi2 : i < len := by simpa using hi1
      exact (hF i (by omega)).2 hi2
    · simp; omega
    · have h1 := bulk_len (H := H) ((List.range len).map D)
      simp only [Rows.uptoBulk, List.length_map, List.length_range] at h1 ⊢
      omega
end
end Go.Proofs.YtljfmcgeiceagaaDoor
