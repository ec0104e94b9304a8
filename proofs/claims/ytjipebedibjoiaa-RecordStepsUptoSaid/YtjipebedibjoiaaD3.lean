/- Several texts in one: RecScP, RecRdP, RecRow, RecScan, RecWorks, RecRowP, RecRowOf, OpenRec, OpenRecs. -/
import Derived.Test.YtjipebedibjoiaaRecDP2
import Derived.Test.YtjipebedibjoiaaD2
import Derived.Test.YtjipebedibjoiaaF1
import Derived.BigQuiet
import Derived.Test.YtjipebedibjoiaaRecT
/- Rows of records in bytes: in plain words. -/
namespace Go.Proofs.Ytjipebedibjoiaa
open Go Go.RowKit
set_option linter.unusedVariables false
set_option linter.unusedSimpArgs false

/-- What is read: a record that may be, and just its bytes. -/
theorem rdec_cases (b : List Nat) : (∃ x n, rdec b = (x, n, 0) ∧ May x ∧ 14 ≤ n ∧ n ≤ 1124 ∧ n ≤ b.length ∧ b.take n = wrap 169 (bdy x) ∧ n = (bdy x).length + 9) ∨ rdec b = (rc0, 0, 40) ∨ rdec b = (rc0, 0, 41) := by
  unfold rdec
  split
  · exact .inr (.inl rfl)
  split
  · exact .inr (.inr rfl)
  split
  · exact .inr (.inl rfl)
  split
  · exact .inr (.inr rfl)
  split
  · exact .inr (.inl rfl)
  split
  · rename_i h0 h1 h2 h3 h4 h
    obtain ⟨hc, hw⟩ := h
    have hm := chk_may hc
    have hl := congrArg List.length hw
    rw [wrap_length, List.length_take] at hl
    refine .inl ⟨_, _, rfl, hm, by omega, by omega, by omega, hw.symm, by omega⟩
  · exact .inr (.inr rfl)
theorem rdec_len (b : List Nat) : (rdec b).2.1 ≤ b.length := by
  rcases rdec_cases b with ⟨x, n, h, _, _, _, hn, _⟩ | h | h <;> rw [h]
  · exact hn
  · simp
  · simp
/-- The last one's offset. -/
def lo (l : List Rc) : Int := match l.getLast? with
  | some x => x.o
  | none => -1
theorem lo_nil : lo [] = -1 := rfl
theorem lo_snoc (l : List Rc) (x : Rc) : lo (l ++ [x]) = x.o := by unfold lo; rw [List.getLast?_concat]
theorem lo_get {l : List Rc} {x : Rc} (h : l[l.length - 1]? = some x) : lo l = x.o := by
  unfold lo
  rw [List.getLast?_eq_getElem?, h]
/-- From place p on, with these found. -/
def scanW (b : List Nat) (p : Nat) (acc : List Rc) : List Rc × Nat × Nat :=
  if h : p < b.length ∧ 0 < (rdec (b.drop p)).2.1 ∧ (rdec (b.drop p)).2.2 = 0 ∧ lo acc < (rdec (b.drop p)).1.o then
    scanW b (p + (rdec (b.drop p)).2.1) (acc ++ [(rdec (b.drop p)).1])
  else (acc, p, if p < b.length then (if (rdec (b.drop p)).2.2 = 0 then 41 else (rdec (b.drop p)).2.2) else 0)
termination_by b.length - p
decreasing_by omega
theorem scan_end {b : List Nat} {p : Nat} {acc : List Rc} (h : ¬ p < b.length) : scanW b p acc = (acc, p, 0) := by
  rw [scanW, dif_neg (fun h' => h h'.1), if_neg h]
theorem scan_err {b : List Nat} {p : Nat} {acc : List Rc} {z : Nat} (h : p < b.length) (hz : (rdec (b.drop p)).2.2 = z) (h0 : z ≠ 0) : scanW b p acc = (acc, p, z) := by
  rw [scanW, dif_neg (fun h' => h0 (hz ▸ h'.2.2.1)), if_pos h, hz, if_neg h0]
theorem scan_low {b : List Nat} {p n : Nat} {acc : List Rc} {x : Rc} (h : p < b.length) (hz : rdec (b.drop p) = (x, n, 0)) (hx : x.o ≤ lo acc) : scanW b p acc = (acc, p, 41) := by
  rw [scanW, dif_neg (fun h' => by have := h'.2.2.2; rw [hz] at this; simp only at this; omega), if_pos h, hz, if_pos rfl]
theorem scan_step {b : List Nat} {p n : Nat} {acc : List Rc} {x : Rc} (h : p < b.length) (hz : rdec (b.drop p) = (x, n, 0)) (hn : 0 < n) (hx : lo acc < x.o) : scanW b p acc = scanW b (p + n) (acc ++ [x]) := by
  rw [scanW, dif_pos ⟨h, by rw [hz]; exact hn, by rw [hz], by rw [hz]; exact hx⟩, hz]
/-- How many there may be. -/
structure Few (acc : List Rc) : Prop where
  len : (acc.length : Int) ≤ lo acc + 1
  top : lo acc < 1099511627776
theorem Few.nil : Few [] := ⟨by rw [lo_nil]; simp, by rw [lo_nil]; omega⟩
theorem Few.step {acc : List Rc} {x : Rc} (h : Few acc) (hm : May x) (hx : lo acc < x.o) : Few (acc ++ [x]) :=
  ⟨by rw [lo_snoc, List.length_append]; have := h.len; simp; omega, by rw [lo_snoc]; exact hm.o.2⟩
theorem Few.most {acc : List Rc} (h : Few acc) : acc.length ≤ 1099511627776 := by have := h.len; have := h.top; omega
theorem scan_few' (b : List Nat) : ∀ (d p : Nat) (acc : List Rc), b.length - p ≤ d → Few acc → Few (scanW b p acc).1 := by
  intro d
  induction d with
  | zero => intro p acc hd h; rw [scan_end (by omega)]; exact h
  | succ d ih =>
    intro p acc hd h
    by_cases hp : p < b.length
    · rcases rdec_cases (b.drop p) with ⟨x, n, e, hm, h14, _⟩ | e | e
      · by_cases hx : lo acc < x.o
        · rw [scan_step hp e (by omega) hx]
          exact ih _ _ (by omega) (h.step hm hx)
        · rw [scan_low hp e (by omega)]; exact h
      · rw [scan_err hp (by rw [e]) (by decide)]; exact h
      · rw [scan_err hp (by rw [e]) (by decide)]; exact h
    · rw [scan_end hp]; exact h
theorem scan_few (b : List Nat) : Few (scanW b 0 []).1 := scan_few' b _ 0 [] (Nat.le_refl _) Few.nil
/-- Every whole record, wherever it stands. -/
def salvW (b : List Nat) (p : Nat) (acc : List (Nat × Rc)) : List (Nat × Rc) :=
  if p < b.length then
    if h : 0 < (rdec (b.drop p)).2.1 ∧ (rdec (b.drop p)).2.2 = 0 then salvW b (p + (rdec (b.drop p)).2.1) (acc ++ [(p, (rdec (b.drop p)).1)])
    else salvW b (p + 1) acc
  else acc
termination_by b.length - p
decreasing_by all_goals omega
theorem salv_end {b : List Nat} {p : Nat} {acc : List (Nat × Rc)} (h : ¬ p < b.length) : salvW b p acc = acc := by rw [salvW, if_neg h]
theorem salv_no {b : List Nat} {p : Nat} {acc : List (Nat × Rc)} (h : p < b.length) (hz : (rdec (b.drop p)).2.2 ≠ 0) : salvW b p acc = salvW b (p + 1) acc := by
  rw [salvW, if_pos h, dif_neg (fun h' => hz h'.2)]
theorem salv_yes {b : List Nat} {p n : Nat} {acc : List (Nat × Rc)} {x : Rc} (h : p < b.length) (hz : rdec (b.drop p) = (x, n, 0)) (hn : 0 < n) : salvW b p acc = salvW b (p + n) (acc ++ [(p, x)]) := by
  rw [salvW, if_pos h, dif_pos ⟨by rw [hz]; exact hn, by rw [hz]⟩, hz]
end Go.Proofs.Ytjipebedibjoiaa

/- What was written is read; a part of it is torn: in plain words. -/
namespace Go.Proofs.Ytjipebedibjoiaa
open Go Go.RowKit
set_option linter.unusedVariables false
set_option linter.unusedSimpArgs false

theorem headD_append {l t : List Nat} (h : 0 < l.length) : (l ++ t).headD 0 = l.headD 0 := by
  cases l with
  | nil => simp at h
  | cons a r => rfl
theorem rdec_wrap {x : Rc} (hm : May x) (t : List Nat) : rdec (wrap 169 (bdy x) ++ t) = (x, (bdy x).length + 9, 0) := by
  have hb := bdy_len hm
  have hl := wrap_length 169 (bdy x)
  obtain ⟨p0, p1, p2, p3⟩ := wrap_parts 169 (bdy x)
  have e0 : (wrap 169 (bdy x) ++ t).headD 0 = 169 := by rw [headD_append (by omega), p0]
  have e1 : ((wrap 169 (bdy x) ++ t).drop 1).take 4 = fx (bdy x).length 4 := by
    rw [List.drop_append_of_le_length (by omega), List.take_append_of_le_length (by rw [List.length_drop]; omega), p1]
  have e9 : ((wrap 169 (bdy x) ++ t).drop 9).take (bdy x).length = bdy x := by
    rw [List.drop_append_of_le_length (by omega), p3, List.take_append_of_le_length (by omega), List.take_of_length_le (by omega)]
  have et : (wrap 169 (bdy x) ++ t).take (9 + (bdy x).length) = wrap 169 (bdy x) := by
    rw [List.take_append_of_le_length (by omega), List.take_of_length_le (by omega)]
  have hlen : (wrap 169 (bdy x) ++ t).length = (bdy x).length + 9 + t.length := by rw [List.length_append, hl]
  unfold rdec
  rw [e0, e1, val_fx (by omega), e9, et, rdm_bdy hm, hlen]
  rw [if_neg (by omega), if_neg (by omega), if_neg (by omega), if_neg (by omega), if_neg (by omega), if_pos ⟨may_chk hm, rfl⟩, Nat.add_comm]
theorem rdec_torn {x : Rc} (hm : May x) (i : Nat) (hi : i < (bdy x).length + 9) : rdec ((wrap 169 (bdy x)).take i) = (rc0, 0, 40) := by
  have hb := bdy_len hm
  have hl := wrap_length 169 (bdy x)
  obtain ⟨p0, p1, p2, p3⟩ := wrap_parts 169 (bdy x)
  have hlen : ((wrap 169 (bdy x)).take i).length = i := by rw [List.length_take]; omega
  unfold rdec
  rw [hlen]
  by_cases h0 : i = 0
  · rw [if_pos h0]
  have e0 : ((wrap 169 (bdy x)).take i).headD 0 = 169 := by
    rw [← p0]
    cases h : wrap 169 (bdy x) with
    | nil => rw [h] at hl; simp at hl
    | cons a r =>
      obtain ⟨j, rfl⟩ : ∃ j, i = j + 1 := ⟨i - 1, by omega⟩
      rfl
  rw [if_neg h0, e0, if_neg (by omega)]
  by_cases h5 : i < 5
  · rw [if_pos h5]
  have e1 : (((wrap 169 (bdy x)).take i).drop 1).take 4 = fx (bdy x).length 4 := by
    rw [List.drop_take, List.take_take, show min 4 (i - 1) = 4 by omega, p1]
  rw [if_neg h5, e1, val_fx (by omega), if_neg (by omega), if_pos (by omega)]
/-- A record's bytes. -/
theorem renc_of_rdec {b : List Nat} {x : Rc} {n : Nat} (h : rdec b = (x, n, 0)) : renc x = (b.take n, 0) ∧ May x ∧ n ≤ b.length := by
  rcases rdec_cases b with ⟨x', n', h', hm, _, _, hn, hw, _⟩ | h' | h'
  · rw [h] at h'
    obtain ⟨rfl, rfl, _⟩ := (by simpa using h' : x = x' ∧ n = n' ∧ True)
    exact ⟨by rw [renc, if_pos (may_chk hm), hw], hm, hn⟩
  · rw [h] at h'; simp at h'
  · rw [h] at h'; simp at h'
theorem rdec_bad {b : List Nat} (h : (rdec b).2.2 ≠ 0) : (rdec b).1 = rc0 ∧ (rdec b).2.1 = 0 := by
  rcases rdec_cases b with ⟨x', n', h', _⟩ | h' | h'
  · rw [h'] at h; simp at h
  · rw [h']; exact ⟨rfl, rfl⟩
  · rw [h']; exact ⟨rfl, rfl⟩
end Go.Proofs.Ytjipebedibjoiaa

/- Rows of records; alike, spoilt. -/
namespace Go.Proofs.Ytjipebedibjoiaa
open Go Go.RowKit
set_option linter.unusedVariables false
set_option linter.unusedSimpArgs false

def rcCells (l : List Rc) : List Value := l.flatMap Rc.cells
theorem rcCells_cons (x : Rc) (r : List Rc) : rcCells (x :: r) = x.cells ++ rcCells r := by simp [rcCells]
theorem rcCells_append (a b : List Rc) : rcCells (a ++ b) = rcCells a ++ rcCells b := by simp [rcCells]
theorem rcCells_length (l : List Rc) : (rcCells l).length = l.length * 7 := by
  induction l with
  | nil => rfl
  | cons x r ih =>
    rw [rcCells_cons, List.length_append, ih]
    simp [Rc.cells]
    omega
theorem rcCells_one (l : List Rc) : ∀ u ∈ rcCells l, u.oneCell' = true := by
  intro u hu
  obtain ⟨x, _, hx⟩ := List.mem_flatMap.1 hu
  simp only [Rc.cells, List.mem_cons, List.not_mem_nil, or_false] at hx
  rcases hx with rfl | rfl | rfl | rfl | rfl | rfl | rfl <;> rfl
theorem rcCells_get : ∀ {l : List Rc} {k : Nat} {x : Rc}, l[k]? = some x → ∀ j, j < 7 → (rcCells l)[k * 7 + j]? = x.cells[j]?
  | [], k, x, h, j, hj => by simp at h
  | y :: r, 0, x, h, j, hj => by
    simp only [List.getElem?_cons_zero, Option.some.injEq] at h
    subst h
    rw [rcCells_cons, Nat.zero_mul, Nat.zero_add, List.getElem?_append_left (by simp [Rc.cells]; omega)]
  | y :: r, k + 1, x, h, j, hj => by
    have h' : r[k]? = some x := by simpa using h
    have hl : y.cells.length = 7 := rfl
    rw [rcCells_cons, List.getElem?_append_right (by omega), hl, show (k + 1) * 7 + j - 7 = k * 7 + j by omega]
    exact rcCells_get h' j hj
theorem rcCells_take (l : List Rc) (n : Nat) : rcCells (l.take n) = (rcCells l).take (n * 7) := by
  by_cases h : n ≤ l.length
  · have e : rcCells l = rcCells (l.take n) ++ rcCells (l.drop n) := by rw [← rcCells_append, List.take_append_drop]
    rw [e, List.take_left' (by rw [rcCells_length, List.length_take]; omega)]
  · rw [List.take_of_length_le (by omega), List.take_of_length_le (by rw [rcCells_length]; omega)]
theorem Rd.rec {w : World} {A : Option Addr} {l : List Rc} (h : Rd w A (rcCells l)) {k : Nat} {x : Rc} (hk : l[k]? = some x) :
    ∃ g off, A = some ⟨g, off, none⟩ ∧ g < w.heap.size ∧ w.cell? ⟨g, off + k * 7, none⟩ = some (.int .i64 x.k) ∧ w.cell? ⟨g, off + k * 7 + 1, none⟩ = some (.int .i64 x.o) ∧ w.cell? ⟨g, off + k * 7 + 2, none⟩ = some (.int .i64 x.t) ∧ w.cell? ⟨g, off + k * 7 + 3, none⟩ = some (.int .i64 x.p) ∧ w.cell? ⟨g, off + k * 7 + 4, none⟩ = some (.int .i64 x.s) ∧ w.cell? ⟨g, off + k * 7 + 5, none⟩ = some (.string x.key) ∧ w.cell? ⟨g, off + k * 7 + 6, none⟩ = some (.string x.val) := by
  have hne : rcCells l ≠ [] := by
    intro e
    have := rcCells_get hk 0 (by omega)
    rw [e] at this
    simp [Rc.cells] at this
  obtain ⟨g, off, hA, hg, hc⟩ := h hne
  have hj : ∀ j v, j < 7 → x.cells[j]? = some v → w.cell? ⟨g, off + k * 7 + j, none⟩ = some v := fun j v h1 h2 => by
    have := hc (k * 7 + j) v ((rcCells_get hk j h1).trans h2)
    rw [← Nat.add_assoc] at this
    exact this
  exact ⟨g, off, hA, hg, hj 0 _ (by omega) rfl, hj 1 _ (by omega) rfl, hj 2 _ (by omega) rfl, hj 3 _ (by omega) rfl, hj 4 _ (by omega) rfl, hj 5 _ (by omega) rfl, hj 6 _ (by omega) rfl⟩
theorem infoRec : (Try.prog.info? 31).map (fun i => (i.zero, i.size, i.bytes)) = some (some (.agg #[.int .i64 0, .int .i64 0, .int .i64 0, .int .i64 0, .int .i64 0, .string ⟨#[]⟩, .string ⟨#[]⟩]), 7, 72) := by kernel_rfl
/-- Records behind a row of the call's own. -/
theorem appR (w : World) {ops : Array Oper} {rest : List Oper} {o : Oper} {a : Act} {Q : Exit → Act → World → Prop} (hgd : o.guard = none) (s x : Operand)
    (ho : o.op = .call { callee := .builtin .append, args := #[s, x], argTypes := #[22, 22] })
    (base : Nat) (v : Value) (n : Nat) (xs : List Value) (hs : a.eval s = v) (hown : w.ownsRow base 31 7 v n xs)
    (A : Option Addr) (m c : Nat) (news : List Rc) (hx : a.eval x = .slice A m c) (hl : news.length = m) (hr : Rd w A (rcCells news))
    (hbytes : (n + m) * 72 ≤ 140737488355328) (hbase : base ≤ w.heap.size)
    (h : ∀ v' w', w'.ownsRow base 31 7 v' (n + m) (xs ++ rcCells news) → w.grownBy w' v.ownBlock → (v'.ownBlock = v.ownBlock ∨ ∃ k, v'.ownBlock = some k ∧ w.heap.size ≤ k) → wpList Try.prog ops Q rest (a.put o.dst v') w') :
    wpList Try.prog ops Q (o :: rest) a w := by
  obtain ⟨i0, hi, hz0, hz1, hz2⟩ := info_parts infoRec
  refine wpList_app w hgd s x 22 ho base 31 i0 _ 7 72 Try.underlying22 hi hz0 hz1 hz2 rfl (by omega) v n xs hs hown A m c (rcCells news) hx (by rw [rcCells_length, hl]) hr (rcCells_one _) hbytes (by unfold maxLen; omega) hbase ?_
  intro v' w' h1 h2 h3
  exact h v' w' h1 h2 h3
/-- One record, a literal slice of one. -/
theorem pushR (w : World) {ops : Array Oper} {rest : List Oper} {o : Oper} {a : Act} {Q : Exit → Act → World → Prop} (hgd : o.guard = none) (s x : Operand)
    (ho : o.op = .call { callee := .builtin .append, args := #[s, x], argTypes := #[22, 22] })
    (base : Nat) (v : Value) (n : Nat) (xs : List Value) (hs : a.eval s = v) (hown : w.ownsRow base 31 7 v n xs) (y : Rc) (q : Nat) (hq : q = w.heap.size)
    (hx : a.eval x = .slice (some ⟨q, 0, none⟩) 1 1)
    (hbytes : (n + 1) * 72 ≤ 140737488355328) (hbase : base ≤ w.heap.size)
    (h : ∀ v' w', w'.ownsRow base 31 7 v' (n + 1) (xs ++ y.cells) → w.grownBy w' v.ownBlock → (v'.ownBlock = v.ownBlock ∨ ∃ k, v'.ownBlock = some k ∧ w.heap.size ≤ k) → wpList Try.prog ops Q rest (a.put o.dst v') w') :
    wpList Try.prog ops Q (o :: rest) a (w.alloc (.cells #[.int .i64 y.k, .int .i64 y.o, .int .i64 y.t, .int .i64 y.p, .int .i64 y.s, .string y.key, .string y.val] 31)) := by
  subst hq
  have hb : Below w.heap.size w (w.alloc (.cells #[.int .i64 y.k, .int .i64 y.o, .int .i64 y.t, .int .i64 y.p, .int .i64 y.s, .string y.key, .string y.val] 31)) := (Below.refl _ _).alloc (Nat.le_refl _) _
  refine appR (w.alloc (.cells #[.int .i64 y.k, .int .i64 y.o, .int .i64 y.t, .int .i64 y.p, .int .i64 y.s, .string y.key, .string y.val] 31)) hgd s x ho base v n xs hs (hown.alloc _) (some ⟨w.heap.size, 0, none⟩) 1 1 [y] hx rfl (rd_lit w _ _) hbytes (Nat.le_trans hbase hb.size) ?_
  intro v' w' h1 h2 h3
  have e1 : rcCells [y] = y.cells := by simp [rcCells]
  rw [e1] at h1
  refine h v' w' h1 ⟨h2.os.trans hb.os, h2.tape.trans hb.tape, h2.output.trans hb.output, Nat.le_trans hb.size h2.size, fun k hk hne => (h2.block k (Nat.lt_of_lt_of_le hk hb.size) hne).trans (hb.block k hk)⟩ ?_
  rcases h3 with h3 | ⟨k, h3, hk⟩
  · exact .inl h3
  · exact .inr ⟨k, h3, Nat.le_trans hb.size hk⟩

set_option maxHeartbeats 1000000 in
set_option maxRecDepth 100000 in
theorem alike_yes (A B : Option Addr) (n c d : Nat) (l : List Rc) (w : World) (ha : Rd w A (rcCells l)) (hb : Rd w B (rcCells l)) (hn : l.length = n) (hl : n ≤ 2000000000000) :
    Calls Try.prog 20 #[.slice A n c, .slice B n d] w fun e w' => Looks w w' e (.bool true) := by
  have HA := Lib.hid ha
  have HB := Lib.hid hb
  have HN := Lib.hid hn
  clear ha hb hn
  have hne : ((n : Int) != (n : Int)) = false := by simp
  go_enter Try.func20, Try.ntmps20
  go_wp2
  go_loopw [5] (fun i wr => ∃ k j : Nat, k ≤ n ∧ i = .int .i64 k ∧ wr = w.drewN j) (fun i _ => n - (intOf i).toNat)
  case atStart => exact ⟨0, 0, Nat.zero_le _, rfl, rfl⟩
  case round =>
    obtain ⟨k, j, hk, rfl, rfl⟩ := hrel
    by_cases hlt : k < n
    · obtain ⟨x, hx⟩ : ∃ x, l[k]? = some x := ⟨_, List.getElem?_eq_getElem (by rw [HN.out]; exact hlt)⟩
      obtain ⟨g, off, rfl, hg, hc0, hc1, hc2, hc3, hc4, hc5, hc6⟩ := HA.out.rec hx
      obtain ⟨g', off', rfl, hg', hd0, hd1, hd2, hd3, hd4, hd5, hd6⟩ := HB.out.rec hx
      obtain ⟨xk, xo, xt, xp, xs, xkey, xval⟩ := x
      simp only at hc0 hc1 hc2 hc3 hc4 hc5 hc6 hd0 hd1 hd2 hd3 hd4 hd5 hd6
      have i0 : (0 : Int) ≤ (k : Int) := by omega
      have i1 : (k : Int) < (n : Int) := by omega
      clear hx HA HB
      go_wp2
      go_quiet (fail)
      go_wp2
      go_roundw
      case rel => exact ⟨k + 1, _, by omega, by go_num, rfl⟩
      case measure => simp [intOf]; omega
    · have hk2 : k = n := by omega
      subst hk2
      clear HA HB
      go_wp2
      go_ret
      exact ⟨rfl, _, rfl⟩

theorem own_put {w : World} {base g n c : Nat} {e : TypeId} {size : Nat} {xs : List Value} (h : w.ownsRow base e size (.slice (some ⟨g, 0, none⟩) n c) n xs) (k : Nat) (u : Value) :
    (w.setCell ⟨g, k, none⟩ u).ownsRow base e size (.slice (some ⟨g, 0, none⟩) n c) n (xs.set k u) ∧ w.grownBy (w.setCell ⟨g, k, none⟩ u) (some g) := h.stored k u
end Go.Proofs.Ytjipebedibjoiaa

/- Scan: the program (printed by gen_rcscan.py). -/
namespace Go.Proofs.Ytjipebedibjoiaa
open Go Go.RowKit
set_option linter.unusedVariables false
set_option linter.unusedSimpArgs false

def ScanPost (w : World) (q : List Rc × Nat × Nat) (e : Ending) (w' : World) : Prop :=
  ∃ A c, e = .returned (.tuple #[.slice A q.1.length c, .int .i64 (q.2.1 : Int), .int .i64 (q.2.2 : Int)]) ∧ w'.ownsRow w.heap.size 31 7 (.slice A q.1.length c) q.1.length (rcCells q.1) ∧ Below w.heap.size w w'
theorem scanpost_mk {w W : World} {q : List Rc × Nat × Nat} {acc : List Rc} {p z : Nat} {A : Option Addr} {c n : Nat} (hq : q = (acc, p, z)) (hn : n = acc.length) (ho : W.ownsRow w.heap.size 31 7 (.slice A n c) n (rcCells acc)) (hb : Below w.heap.size w W) : ScanPost w q (.returned (.tuple #[.slice A n c, .int .i64 (p : Int), .int .i64 (z : Int)])) W := by
  subst hq hn
  exact ⟨A, c, rfl, ho, hb⟩
/-- The last one of a row of the call's own. -/
theorem last_cell {W : World} {base n c : Nat} {A : Option Addr} {acc : List Rc} (h : W.ownsRow base 31 7 (.slice A n c) n (rcCells acc)) (hn : acc.length = n) (hp : 0 < n) : ∃ g, A = some ⟨g, 0, none⟩ ∧ W.cell? ⟨g, (n - 1) * 7 + 1, none⟩ = some (.int .i64 (lo acc)) := by
  obtain ⟨x, hx⟩ : ∃ x, acc[n - 1]? = some x := ⟨_, List.getElem?_eq_getElem (by omega)⟩
  obtain ⟨g, hA, _⟩ := own_pos h hp
  subst hA
  obtain ⟨g', off, e, _, _, h1, _⟩ := (rd_own h).rec hx
  injection e with e
  injection e with e1 e2
  subst e1 e2
  refine ⟨g, rfl, ?_⟩
  rw [lo_get (by rw [hn]; exact hx)]
  simpa using h1
set_option maxHeartbeats 4000000 in
set_option maxRecDepth 100000 in
theorem scan_is (A : Option Addr) (n c : Nat) (b : List Nat) (w : World) (hr : Rd w A (b8 b)) (hn : b.length = n) (hnc : n ≤ c) (hby : By b) (hl : n ≤ 140737488355328) :
    Calls Try.prog 35 #[.slice A n c] w (ScanPost w (scanW b 0 [])) := by
  have HR := Lib.hid hr
  have HN := Lib.hid hn
  have PD := Lib.hid (fun g off p W (hA : A = some ⟨g, off, none⟩) (hp : p ≤ n) (hW : Below w.heap.size w W) => recdecode_is (some ⟨g, off + p, none⟩) (n - p) (c - p) (b.drop p) W (rd_rest (p := p) (hA ▸ hr.below hW)) (by rw [List.length_drop, hn]) (by omega) (hby.drop p) (by omega))
  unfold DecPost at PD
  have HC := Lib.hid (rdec_cases)
  obtain ⟨q, hq⟩ : ∃ q, q = scanW b 0 [] := ⟨_, rfl⟩
  rw [← hq]
  have HQ := Lib.hid hq
  clear hr hn hby hq
  go_enter Try.func35, Try.ntmps35
  go_wp2
  go_loopw [5, 6] (fun l i wr => ∃ (p : Nat) (acc : List Rc), p ≤ n ∧ i = .int .i64 p ∧ wr.ownsRow w.heap.size 31 7 l acc.length (rcCells acc) ∧ Below w.heap.size w wr ∧ Hid (q = scanW b p acc) ∧ Hid (Few acc)) (fun _ i _ => n - (intOf i).toNat)
  case atStart => exact ⟨0, [], Nat.zero_le _, rfl, World.ownsRow_nil _ _ _ _, Below.refl _ _, HQ, Lib.hid Few.nil⟩
  case round =>
    obtain ⟨p, acc, hp, rfl, hown, hbel, HS, HFW⟩ := hrel
    obtain ⟨A5, c5, rfl, hc5a, hc5b, hA5⟩ := own_shape hown
    have HO := Lib.hid hown
    have HB := Lib.hid hbel
    have hfew := HFW.out.most
    have hwz := hbel.size
    clear hown hbel hA5 HQ
    by_cases hlt : p < n
    · have hpb : p < b.length := by rw [HN.out]; exact hlt
      obtain ⟨g, off, hA, hg, _⟩ := HR.out.some_ (by omega)
      have P1 := Lib.hid (PD.out g off p wr hA (by omega) HB.out)
      subst hA
      obtain ⟨⟨⟨k, o, t, pp, s, key, vl⟩, n1, z⟩, hqd⟩ : ∃ r, r = rdec (b.drop p) := ⟨_, rfl⟩
      have hcs := HC.out (b.drop p)
      rw [← hqd] at P1 hcs
      have HD := Lib.hid hqd.symm
      unfold Rc.v at P1
      simp only at P1
      have i0 : (0 : Int) ≤ (p : Int) := by omega
      have i1 : (p : Int) ≤ (n : Int) := by omega
      have i2 : ¬ c = p := by omega
      obtain ⟨N, hN⟩ : ∃ N, N = acc.length := ⟨_, rfl⟩
      rw [← hN] at HO ⊢
      have HNN := Lib.hid hN
      have hN40 : N ≤ 1099511627776 := by omega
      clear hqd hN hfew
      by_cases hz : z = 0
      · subst hz
        obtain ⟨x', n', e, hm, h14, h1124, hnb, -⟩ | e | e := hcs
        rotate_left
        · simp at e
        · simp at e
        obtain ⟨rfl, rfl, _⟩ := (by simpa using e : (⟨k, o, t, pp, s, key, vl⟩ : Rc) = x' ∧ n1 = n' ∧ True)
        have HM := Lib.hid hm
        have hn1 : p + n1 ≤ n := by rw [List.length_drop, HN.out] at hnb; omega
        have ho : 0 ≤ o := hm.o.1
        clear e hm hnb
        by_cases hN0 : N = 0
        · have hacc : lo acc < o := by have : acc = [] := List.eq_nil_of_length_eq_zero (HNN.out.symm.trans hN0); rw [this, lo_nil]; omega
          have HST := Lib.hid (HS.out.trans (scan_step hpb HD.out (by omega) hacc))
          have HFS := Lib.hid (HFW.out.step HM.out hacc)
          clear hacc HS HFW HD HM
          subst hN0
          go_wp2_with fail
          refine P1.out.mono ?_
          rintro e w1 ⟨rfl, hb1⟩
          have HO1 := Lib.hid (own_below HO.out hb1)
          have HB1 := Lib.hid (HB.out.trans (hb1.mono hwz))
          have hs1 := hb1.size
          clear hb1 HO HB P1
          go_wp2_with fail
          go_quiet (fail)
          go_wp2_with (at_builtin; (refine pushR _ rfl (.tmp 46) (.tmp 48) rfl w.heap.size _ 0 (rcCells acc) rfl (own_below HO1.out (below_drewN ((Below.refl _ _).alloc (Nat.le_refl _) (rcObj ⟨k, o, t, pp, s, key, vl⟩)) _)) ⟨k, o, t, pp, s, key, vl⟩ _ (by simp) rfl (by omega) (by simp; omega) ?_); intro v2 w2 hown2 hg2 hn2; have HO2 := Lib.hid hown2; have HB2 := Lib.hid ((below_drewN (HB1.out.alloc HB1.out.size (rcObj ⟨k, o, t, pp, s, key, vl⟩)) _).trans (below_of_grown hg2 (by simp; omega) (fun q hq => (HO1.out.lt q hq).1))); clear hown2 hg2 hn2)
          go_roundw
          case rel => exact ⟨p + n1, acc ++ [⟨k, o, t, pp, s, key, vl⟩], hn1, by go_num, by rw [rcCells_append, List.length_append, ← HNN.out]; simpa [rcCells, Rc.cells] using HO2.out, HB2.out, HST, HFS⟩
          case measure => simp [intOf]; omega
        · obtain ⟨g5, hA5', hcell⟩ := last_cell HO.out HNN.out.symm (by omega)
          subst hA5'
          have HCELL := Lib.hid hcell
          have hgl5 : g5 < wr.heap.size := (HO.out.lt g5 rfl).2
          obtain ⟨M, rfl⟩ : ∃ M, N = M + 1 := ⟨N - 1, by omega⟩
          rw [show M + 1 - 1 = M by omega] at HCELL
          have hM1 : IntKind.i64.wrap (M : Int) = (M : Int) := by rw [IntKind.wrap_i64]; omega
          have hM2 : (0 : Int) ≤ (M : Int) := by omega
          have hM3 : (M : Int) < (M : Int) + 1 := by omega
          clear hN0
          obtain ⟨L, hL⟩ : ∃ L, L = lo acc := ⟨_, rfl⟩
          rw [← hL] at HCELL
          by_cases hle : o ≤ L
          · have HLOW := Lib.hid (HS.out.trans (scan_low hpb HD.out (by rw [← hL]; exact hle)))
            have hd : decide (o ≤ L) = true := decide_eq_true hle
            clear HS HFW HD HM hL hcell
            go_wp2_with fail
            refine P1.out.mono ?_
            rintro e w1 ⟨rfl, hb1⟩
            have HO1 := Lib.hid (own_below HO.out hb1)
            have HB1 := Lib.hid (HB.out.trans (hb1.mono hwz))
            have hs1 := hb1.size
            have HC1 := (hb1.cell (p := ⟨g5, M * 7 + 1, none⟩) hgl5).trans HCELL.out
            have hgl51 : g5 < w1.heap.size := by omega
            clear hb1 HO HB P1
            go_wp2_with fail
            go_quiet (fail)
            go_wp2_with fail
            refine bodyPost_ret (v := .tuple #[.slice (some ⟨g5, 0, none⟩) (M + 1) c5, .int .i64 (p : Int), .int .i64 41]) (by simp [results, Try.results35, go_sem]) rfl (scanpost_mk (z := 41) HLOW.out HNN.out (own_below HO1.out (by first | exact ((Below.refl _ _).alloc (Nat.le_refl _) _).drew | exact below_drewN ((Below.refl _ _).alloc (Nat.le_refl _) _) _)) ?_)
            first | exact (HB1.out.alloc HB1.out.size _).drew | exact below_drewN (HB1.out.alloc HB1.out.size _) _
          · have hacc : lo acc < o := by rw [← hL]; omega
            have HST := Lib.hid (HS.out.trans (scan_step hpb HD.out (by omega) hacc))
            have HFS := Lib.hid (HFW.out.step HM.out hacc)
            have hd : decide (o ≤ L) = false := decide_eq_false hle
            clear hacc HS HFW HD HM hL hcell
            go_wp2_with fail
            refine P1.out.mono ?_
            rintro e w1 ⟨rfl, hb1⟩
            have HO1 := Lib.hid (own_below HO.out hb1)
            have HB1 := Lib.hid (HB.out.trans (hb1.mono hwz))
            have hs1 := hb1.size
            have HC1 := (hb1.cell (p := ⟨g5, M * 7 + 1, none⟩) hgl5).trans HCELL.out
            have hgl51 : g5 < w1.heap.size := by omega
            clear hb1 HO HB P1
            go_wp2_with fail
            go_quiet (fail)
            go_wp2_with (at_builtin; (refine pushR _ rfl (.tmp 46) (.tmp 48) rfl w.heap.size _ (M + 1) (rcCells acc) rfl (own_below HO1.out (below_drewN ((Below.refl _ _).alloc (Nat.le_refl _) (rcObj ⟨k, o, t, pp, s, key, vl⟩)) _)) ⟨k, o, t, pp, s, key, vl⟩ _ (by simp) rfl (by omega) (by simp; omega) ?_); intro v2 w2 hown2 hg2 hn2; have HO2 := Lib.hid hown2; have HB2 := Lib.hid ((below_drewN (HB1.out.alloc HB1.out.size (rcObj ⟨k, o, t, pp, s, key, vl⟩)) _).trans (below_of_grown hg2 (by simp; omega) (fun q hq => (HO1.out.lt q hq).1))); clear hown2 hg2 hn2)
            go_roundw
            case rel => exact ⟨p + n1, acc ++ [⟨k, o, t, pp, s, key, vl⟩], hn1, by go_num, by rw [rcCells_append, List.length_append, ← HNN.out]; simpa [rcCells, Rc.cells] using HO2.out, HB2.out, HST, HFS⟩
            case measure => simp [intOf]; omega
      · have HER := Lib.hid (HS.out.trans (scan_err hpb (by rw [HD.out]) hz))
        have hz' : ((z : Int) == 0) = false := by rw [beq_eq_false_iff_ne]; omega
        have hz'' : ((z : Int) != 0) = true := by rw [bne_iff_ne]; omega
        clear HS HD hcs
        go_wp2_with fail
        refine P1.out.mono ?_
        rintro e w1 ⟨rfl, hb1⟩
        have HO1 := Lib.hid (own_below HO.out hb1)
        have HB1 := Lib.hid (HB.out.trans (hb1.mono hwz))
        have hs1 := hb1.size
        clear hb1 HO HB P1
        go_wp2_with fail
        go_quiet (fail)
        go_wp2_with fail
        refine bodyPost_ret (v := .tuple #[.slice A5 N c5, .int .i64 (p : Int), .int .i64 (z : Int)]) (by simp [results, Try.results35, go_sem]) rfl (scanpost_mk HER.out HNN.out (own_below HO1.out (by first | exact ((Below.refl _ _).alloc (Nat.le_refl _) _).drew | exact below_drewN ((Below.refl _ _).alloc (Nat.le_refl _) _) _)) ?_)
        first | exact (HB1.out.alloc HB1.out.size _).drew | exact below_drewN (HB1.out.alloc HB1.out.size _) _
    · have HEN := Lib.hid (HS.out.trans (scan_end (by rw [HN.out]; exact hlt)))
      clear HS PD HC
      go_wp2
      refine bodyPost_ret (v := .tuple #[.slice A5 acc.length c5, .int .i64 (p : Int), .int .i64 0]) (by simp [results, Try.results35, go_sem]) rfl (scanpost_mk (z := 0) HEN.out rfl HO.out HB.out)
end Go.Proofs.Ytjipebedibjoiaa

/- chroniclelaw4.works. -/
namespace Go.Proofs.Ytjipebedibjoiaa
open Go Go.RowKit
set_option linter.unusedVariables false
set_option linter.unusedSimpArgs false

def wkx : Rc := ⟨1, 5, 300, 0, 0, ⟨#[107]⟩, ⟨#[118]⟩⟩
theorem wkx_may : May wkx := ⟨.inl rfl, by decide, by decide, by decide, by decide, .inl ⟨rfl, rfl⟩, by decide, by decide, by intro h; simp [wkx] at h⟩
theorem wkx_len : (bdy wkx).length = 7 := by
  have hv : sb wkx.val = [118] := rfl
  have hs : (shrt [118]).1.length = 1 := by
    unfold shrt
    rw [if_neg]
    · rfl
    rintro ⟨_, h⟩
    rw [enc_short (by simp)] at h
    have := (blk_bnd (t := [118]) (by simp)).2
    have h' : (blk [118].length (tokens [118])).length < 1 := h
    omega
  have h1 : (Uv.uv 5).length = 1 := uv1 (by omega)
  have h2 : (Uv.uv 300).length = 2 := by rw [Uv.uv_big (by omega), List.length_cons, uv1 (by omega)]
  have h3 : (Uv.uv 1).length = 1 := uv1 (by omega)
  have hn : nums wkx = [] := rfl
  unfold bdy
  rw [hn, hv]
  have e1 : wkx.o.toNat = 5 := rfl
  have e2 : wkx.t.toNat = 300 := rfl
  have e3 : wkx.key.size = 1 := rfl
  have e4 : (sb wkx.key).length = 1 := by rw [sb_length]; rfl
  rw [e1, e2, e3]
  simp only [List.length_append, List.length_cons, List.length_nil, h1, h2, h3, e4, hs]
set_option maxHeartbeats 1000000 in
set_option maxRecDepth 100000 in
theorem works_is (w : World) : Calls Try.prog 39 #[] w fun e w' => e = .returned (.bool true) ∧ Below w.heap.size w w' := by
  have PE := Lib.hid (fun W => recencode_is wkx W)
  rw [renc_ok (may_chk wkx_may)] at PE
  have hl := wrap_length 169 (bdy wkx)
  rw [wkx_len] at hl
  have PD := Lib.hid (fun A c W (hr : Rd W A (b8 (wrap 169 (bdy wkx)))) (hc : 16 ≤ c) => recdecode_is A 16 c (wrap 169 (bdy wkx)) W hr hl hc (wrap_by (by omega) (bdy_by wkx_may)) (by omega))
  have hd := rdec_wrap wkx_may []
  rw [List.append_nil, wkx_len] at hd
  rw [hd] at PD
  unfold DecPost at PD
  obtain ⟨V, hV⟩ : ∃ V, V = wrap 169 (bdy wkx) := ⟨_, rfl⟩
  rw [← hV] at PE PD hl
  unfold Rc.v wkx at PE PD
  simp only at PE PD
  clear hd hV
  go_enter Try.func39, Try.ntmps39
  have BX0 := Lib.hid (RBox.new w wkx)
  have T0 := Lib.hid ((Below.refl w.heap.size w).alloc (Nat.le_refl _) (rcObj wkx))
  go_wp2_with fail
  refine (PE.out _).mono ?_
  rintro e w1 ⟨A1, c1, rfl, ho1, hb1⟩
  simp only [hl] at ho1 ⊢
  obtain ⟨hnc, hcm⟩ := own_cap ho1
  have HO1 := Lib.hid ho1
  have BX1 := Lib.hid (BX0.out.below hb1 (by simp))
  have T1 := Lib.hid (T0.out.trans (hb1.mono (by simp)))
  have hz1 : w.heap.size + 1 ≤ w1.heap.size := by have := hb1.size; simpa using this
  clear ho1 hb1
  go_wp2_with fail
  refine (PD.out A1 c1 w1 (rd_own HO1.out) (by omega)).mono ?_
  rintro e w2 ⟨rfl, hb2⟩
  have BX2 := Lib.hid (BX1.out.below hb2 (by omega))
  have T2 := Lib.hid (T1.out.trans (hb2.mono T1.out.size))
  have hz2 : w.heap.size < w2.heap.size := by have := hb2.size; omega
  clear hb2
  obtain ⟨x0, x1, x2, x3, x4, x5, x6⟩ := BX2.out.facts
  simp only [wkx] at x0 x1 x2 x3 x4 x5 x6
  go_wp2_with fail
  go_ret
  exact ⟨rfl, T2.out.alloc T2.out.size _⟩
end Go.Proofs.Ytjipebedibjoiaa

/- Rows of records that rise: in plain words. -/
namespace Go.Proofs.Ytjipebedibjoiaa
open Go Go.RowKit
set_option linter.unusedVariables false
set_option linter.unusedSimpArgs false

def rwx (x : Rc) : List Nat := wrap 169 (bdy x)
def flat (m : List Rc) : List Nat := m.flatMap rwx
theorem flat_snoc (m : List Rc) (x : Rc) : flat (m ++ [x]) = flat m ++ rwx x := by simp [flat]
theorem flat_cons (m : List Rc) (x : Rc) : flat (x :: m) = rwx x ++ flat m := by simp [flat]
theorem flat_append (a b : List Rc) : flat (a ++ b) = flat a ++ flat b := by simp [flat]
theorem rwx_len (x : Rc) : (rwx x).length = (bdy x).length + 9 := wrap_length _ _
/-- Those that may be and whose offsets rise. -/
def rowStep (m : List Rc) (x : Rc) : List Rc := if chk x = 0 ∧ lo m < x.o then m ++ [x] else m
def rowM (l : List Rc) : List Rc := l.foldl rowStep []
theorem rowM_take {l : List Rc} {k : Nat} {x : Rc} (h : l[k]? = some x) : rowM (l.take (k + 1)) = rowStep (rowM (l.take k)) x := by
  obtain ⟨hk, rfl⟩ := List.getElem?_eq_some_iff.1 h
  unfold rowM
  rw [List.take_succ_eq_append_getElem hk, List.foldl_append]
  rfl
/-- All of them may be, and they rise. -/
inductive Rise : List Rc → Prop
  | nil : Rise []
  | snoc (m : List Rc) (x : Rc) : Rise m → May x → lo m < x.o → Rise (m ++ [x])
theorem rowM_rise (l : List Rc) : ∀ m, Rise m → Rise (l.foldl rowStep m) := by
  induction l with
  | nil => intro m h; exact h
  | cons x r ih =>
    intro m h
    rw [List.foldl_cons]
    apply ih
    unfold rowStep
    split
    · rename_i hc
      exact .snoc m x h (chk_may hc.1) hc.2
    · exact h
theorem rowM_is (l : List Rc) : Rise (rowM l) := rowM_rise l [] .nil
theorem rowM_len (l : List Rc) : ∀ m : List Rc, (l.foldl rowStep m).length ≤ m.length + l.length := by
  induction l with
  | nil => intro m; simp
  | cons x r ih =>
    intro m
    rw [List.foldl_cons]
    have := ih (rowStep m x)
    have h2 : (rowStep m x).length ≤ m.length + 1 := by unfold rowStep; split <;> simp
    simp only [List.length_cons]
    omega
theorem Rise.may {m : List Rc} (h : Rise m) : ∀ x ∈ m, May x := by
  induction h with
  | nil => intro x hx; cases hx
  | snoc m x h hm ho ih =>
    intro y hy
    rcases List.mem_append.1 hy with hy | hy
    · exact ih y hy
    · rw [List.mem_singleton] at hy; exact hy ▸ hm
theorem Rise.few {m : List Rc} (h : Rise m) : Few m := by
  induction h with
  | nil => exact Few.nil
  | snoc m x h hm ho ih => exact ih.step hm ho
theorem Rise.by_ {m : List Rc} (h : Rise m) : By (flat m) := by
  intro b hb
  obtain ⟨x, hx, hb⟩ := List.mem_flatMap.1 hb
  exact wrap_by (by omega) (bdy_by (h.may x hx)) b hb
theorem Rise.len {m : List Rc} (h : Rise m) : (flat m).length ≤ m.length * 1124 := by
  induction h with
  | nil => simp [flat]
  | snoc m x h hm ho ih =>
    rw [flat_snoc, List.length_append, rwx_len, List.length_append]
    have := (bdy_len hm).2
    simp
    omega
theorem Rise.pre {m : List Rc} (h : Rise m) : ∀ {a b : List Rc}, m = a ++ b → Rise a := by
  induction h with
  | nil => intro a b e; have : a = [] := (List.append_eq_nil_iff.1 e.symm).1; subst this; exact .nil
  | snoc m x h hm ho ih =>
    intro a b e
    rcases List.eq_nil_or_concat b with rfl | ⟨b', y, rfl⟩
    · rw [List.append_nil] at e; exact e ▸ .snoc m x h hm ho
    · rw [List.concat_eq_append, ← List.append_assoc] at e
      exact ih (List.append_inj' e rfl).1
theorem Rise.next {a r : List Rc} {x : Rc} (h : Rise (a ++ x :: r)) : May x ∧ lo a < x.o ∧ Rise (a ++ [x]) := by
  have h1 : Rise (a ++ [x]) := h.pre (by rw [List.append_assoc]; rfl)
  refine ⟨h1.may x (by simp), ?_, h1⟩
  generalize he : a ++ [x] = z at h1
  cases h1 with
  | nil => simp at he
  | snoc m y hr hm ho =>
    obtain ⟨rfl, e⟩ := List.append_inj' he rfl
    injection e with e _
    subst e
    exact ho
/-- A row cut anywhere. -/
theorem scan_cut (cut : Nat) : ∀ (rest done : List Rc), Rise (done ++ rest) → (flat done).length ≤ cut → cut ≤ (flat (done ++ rest)).length →
    ∃ k, k ≤ (done ++ rest).length ∧ (scanW ((flat (done ++ rest)).take cut) (flat done).length done).1 = (done ++ rest).take k ∧
      (scanW ((flat (done ++ rest)).take cut) (flat done).length done).2.1 = (flat ((done ++ rest).take k)).length ∧ (flat ((done ++ rest).take k)).length ≤ cut ∧
      (((flat ((done ++ rest).take k)).length = cut ∧ (scanW ((flat (done ++ rest)).take cut) (flat done).length done).2.2 = 0) ∨
        ((flat ((done ++ rest).take k)).length < cut ∧ (scanW ((flat (done ++ rest)).take cut) (flat done).length done).2.2 = 40 ∧ ∃ x, (done ++ rest)[k]? = some x ∧ cut < (flat ((done ++ rest).take k)).length + (rwx x).length))
  | [], done, h, h1, h2 => by
    rw [List.append_nil] at h h2 ⊢
    have e : (flat done).length = cut := by omega
    rw [scan_end (by rw [List.length_take]; omega)]
    exact ⟨done.length, Nat.le_refl _, by simp, by simp, by simp; omega, .inl ⟨by simp; exact e, rfl⟩⟩
  | x :: r, done, h, h1, h2 => by
    have hT : done.length ≤ (done ++ x :: r).length := by simp
    have hTk : (done ++ x :: r).take done.length = done := by simp
    obtain ⟨hm, hlo, _⟩ := h.next
    by_cases he : (flat done).length = cut
    · rw [scan_end (by rw [List.length_take]; omega)]
      exact ⟨done.length, hT, by rw [hTk], by rw [hTk], by rw [hTk]; omega, .inl ⟨by rw [hTk]; exact he, rfl⟩⟩
    · have hp : (flat done).length < ((flat (done ++ x :: r)).take cut).length := by rw [List.length_take]; omega
      have hd : ((flat (done ++ x :: r)).take cut).drop (flat done).length = (rwx x ++ flat r).take (cut - (flat done).length) := by
        rw [flat_append, List.take_append, List.take_of_length_le (by omega), List.drop_left, flat_cons]
      by_cases hc : cut - (flat done).length < (rwx x).length
      · have hr : rdec (((flat (done ++ x :: r)).take cut).drop (flat done).length) = (rc0, 0, 40) := by
          rw [hd, List.take_append_of_le_length (by omega)]
          exact rdec_torn hm _ (by rw [← rwx_len]; exact hc)
        rw [scan_err hp (by rw [hr]) (by decide)]
        exact ⟨done.length, hT, by rw [hTk], by rw [hTk], by rw [hTk]; omega, .inr ⟨by rw [hTk]; omega, rfl, x, by simp, by rw [hTk]; omega⟩⟩
      · have hr : rdec (((flat (done ++ x :: r)).take cut).drop (flat done).length) = (x, (rwx x).length, 0) := by
          rw [hd, List.take_append, List.take_of_length_le (by omega), rwx_len]
          exact rdec_wrap hm _
        rw [scan_step hp hr (by rw [rwx_len]; omega) hlo]
        have ea : done ++ x :: r = (done ++ [x]) ++ r := by simp
        have el : (flat done).length + (rwx x).length = (flat (done ++ [x])).length := by rw [flat_snoc, List.length_append]
        rw [el, ea]
        exact scan_cut cut r (done ++ [x]) (by rw [← ea]; exact h) (by rw [← el]; omega) (by rw [← ea]; exact h2)
end Go.Proofs.Ytjipebedibjoiaa

/- chroniclelaw4.rowOf. -/
namespace Go.Proofs.Ytjipebedibjoiaa
open Go Go.RowKit
set_option linter.unusedVariables false
set_option linter.unusedSimpArgs false

/-- Rows of two kinds lie apart. -/
theorem own_apart {w : World} {b1 b2 n1 n2 s1 s2 : Nat} {e1 e2 : TypeId} {v1 v2 : Value} {x1 x2 : List Value} (h1 : w.ownsRow b1 e1 s1 v1 n1 x1) (h2 : w.ownsRow b2 e2 s2 v2 n2 x2) (he : e1 ≠ e2) : ∀ q, v1.ownBlock = some q → v2.ownBlock ≠ some q := by
  intro q hq hq2
  rcases h1.2 with ⟨rfl, _⟩ | ⟨g1, cap1, cur1, rfl, _, hh1, _⟩
  · cases hq
  rcases h2.2 with ⟨rfl, _⟩ | ⟨g2, cap2, cur2, rfl, _, hh2, _⟩
  · cases hq2
  simp only [Value.ownBlock, Option.some.injEq] at hq hq2
  subst hq hq2
  rw [hh1] at hh2
  injection hh2 with hh2
  injection hh2 with _ hh2
  exact he hh2
theorem grown_cell {w w' : World} {n : Nat} {r : Option Nat} {p : Addr} {u : Value} (hg : (w.drewN n).grownBy w' r) (hc : w.cell? p = some u) (hp : p.block < w.heap.size) (hr : ∀ q, r = some q → q ≠ p.block) : w'.cell? p = some u := by
  have hb := hg.block p.block hp (fun e => hr p.block e.symm rfl)
  unfold World.cell? at hc ⊢
  rw [hb]
  exact hc
theorem own_low {w : World} {base n : Nat} {e : TypeId} {size : Nat} {v : Value} {xs : List Value} {g : Nat} (h : w.ownsRow base e size v n xs) (hg : g < base) : ∀ q, v.ownBlock = some q → q ≠ g := fun q hq => by have := (h.lt q hq).1; omega
def RowPost (w : World) (m : List Rc) (e : Ending) (w' : World) : Prop :=
  ∃ A c B d, e = .returned (.tuple #[.slice A (flat m).length c, .slice B m.length d]) ∧ w'.ownsRow w.heap.size 5 1 (.slice A (flat m).length c) (flat m).length (b8 (flat m)) ∧ w'.ownsRow w.heap.size 31 7 (.slice B m.length d) m.length (rcCells m) ∧ Below w.heap.size w w'
theorem own_keepG {w w' : World} {base n : Nat} {e : TypeId} {size : Nat} {v : Value} {xs : List Value} {r : Option Nat} (h : w.ownsRow base e size v n xs) (hg : w.grownBy w' r) (hne : ∀ q, r = some q → v.ownBlock ≠ some q) : w'.ownsRow base e size v n xs :=
  h.kept hg (by
    cases hv : v.ownBlock with
    | none => exact .inl rfl
    | some q =>
      right
      intro hh
      exact hne q hh.symm hv)
set_option maxHeartbeats 4000000 in
set_option maxRecDepth 100000 in
theorem rowOf_is (A : Option Addr) (n c : Nat) (l : List Rc) (w : World) (hr : Rd w A (rcCells l)) (hn : l.length = n) (hl : n ≤ 1048576) :
    Calls Try.prog 40 #[.slice A n c] w (RowPost w (rowM l)) := by
  have HR := Lib.hid hr
  have HN := Lib.hid hn
  have hfull : rowM (l.take n) = rowM l := by rw [List.take_of_length_le (by omega)]
  have HFU := Lib.hid hfull
  clear hr hn hfull
  go_enter Try.func40, Try.ntmps40
  go_wp2
  go_loopw [4, 5, 6] (fun b m i wr => ∃ j : Nat, j ≤ n ∧ i = .int .i64 j ∧ wr.ownsRow w.heap.size 5 1 b (flat (rowM (l.take j))).length (b8 (flat (rowM (l.take j)))) ∧ wr.ownsRow w.heap.size 31 7 m (rowM (l.take j)).length (rcCells (rowM (l.take j))) ∧ Below w.heap.size w wr) (fun _ _ i _ => n - (intOf i).toNat)
  case atStart => exact ⟨0, Nat.zero_le _, rfl, World.ownsRow_nil _ _ _ _, World.ownsRow_nil _ _ _ _, Below.refl _ _⟩
  case round =>
    obtain ⟨j, hj, rfl, hob, hom, hbel⟩ := hrel
    have HRI := Lib.hid (rowM_is (l.take j))
    have hML : (rowM (l.take j)).length ≤ n := by have := rowM_len (l.take j) []; rw [List.length_take] at this; simp at this; unfold rowM; omega
    have hFL := HRI.out.len
    by_cases hlt : j < n
    · obtain ⟨x, hx⟩ : ∃ x, l[j]? = some x := ⟨_, List.getElem?_eq_getElem (by rw [HN.out]; exact hlt)⟩
      have HST := Lib.hid (rowM_take hx)
      obtain ⟨g, off, hA, hg, hc0, hc1, hc2, hc3, hc4, hc5, hc6⟩ := (HR.out.below hbel).rec hx
      subst hA
      obtain ⟨M, hM⟩ : ∃ M, M = rowM (l.take j) := ⟨_, rfl⟩
      rw [← hM] at hob hom HST HRI hML hFL
      obtain ⟨N, hN⟩ : ∃ N, N = M.length := ⟨_, rfl⟩
      obtain ⟨Q, hQ⟩ : ∃ Q, Q = (flat M).length := ⟨_, rfl⟩
      rw [← hN] at hom hML hFL
      rw [← hQ] at hob hFL
      have HNN := Lib.hid hN
      have HQQ := Lib.hid hQ
      have HB := Lib.hid hbel
      obtain ⟨A4, c4, hv4, hnc4, hcm4, _⟩ := own_shape hob
      obtain ⟨A5, c5, hv5, hnc5, hcm5, _⟩ := own_shape hom
      subst hv4 hv5
      have HOB := Lib.hid hob
      have HOM := Lib.hid hom
      have hwz := hbel.size
      have PE := Lib.hid (fun W => recencode_is x W)
      have hgw : g < wr.heap.size := hg
      have hgold : g < w.heap.size := by obtain ⟨g0, off0, e0, hg0, _⟩ := HR.out.rec hx; injection e0 with e0; injection e0 with e0; exact e0 ▸ hg0
      have i0 : (0 : Int) ≤ (j : Int) := by omega
      have i1 : (j : Int) < (n : Int) := by omega
      have HFL := Lib.hid hFL
      clear hob hom hbel hx hM hN hQ hFL
      by_cases hck : chk x = 0
      · rw [renc_ok hck] at PE
        have hm := chk_may hck
        have ho0 : 0 ≤ x.o := hm.o.1
        have hbl := (bdy_len hm).2
        have hrw := rwx_len x
        obtain ⟨V, hV⟩ : ∃ V, V = rwx x := ⟨_, rfl⟩
        have hPE : Hid (∀ W, Calls Try.prog 22 #[x.v] W (Ans8 W (V, 0))) := Lib.hid (by rw [hV]; exact PE.out)
        rw [← hV] at hrw
        obtain ⟨E, hE⟩ : ∃ E, E = V.length := ⟨_, rfl⟩
        rw [← hE] at hrw
        have hE2 : E ≤ 1124 := by omega
        have HSY : Hid (lo M < x.o → rowM (l.take (j + 1)) = M ++ [x] ∧ flat (M ++ [x]) = flat M ++ V) := Lib.hid (fun h => ⟨by rw [HST.out, rowStep, if_pos ⟨hck, h⟩], by rw [flat_snoc, hV]⟩)
        have HSN : Hid (¬ lo M < x.o → rowM (l.take (j + 1)) = M) := Lib.hid (fun h => by rw [HST.out, rowStep, if_neg (fun hh => h hh.2)])
        have HEE := Lib.hid hE
        clear hV PE hm hbl hrw HST HRI hE hck
        obtain ⟨xk, xo, xt, xp, xs, xkey, xval⟩ := x
        unfold Rc.v at hPE
        simp only at hPE HSY HSN hc0 hc1 hc2 hc3 hc4 hc5 hc6 ho0
        by_cases hN0 : N = 0
        · subst hN0
          have hM0 : M = [] := List.eq_nil_of_length_eq_zero HNN.out.symm
          obtain ⟨hs1, hs2⟩ := HSY.out (by rw [hM0, lo_nil]; omega)
          have HS1 := Lib.hid hs1
          have HS2 := Lib.hid hs2
          clear HSY HSN hM0 hs1 hs2
          go_wp2_with fail
          refine (hPE.out _).mono ?_
          rintro e w1 ⟨A1, c1, rfl, ho1, hb1⟩
          simp only [← HEE.out] at ho1 ⊢
          have HO1 := Lib.hid ho1
          have HOB1 := Lib.hid (own_below HOB.out hb1)
          have HOM1 := Lib.hid (own_below HOM.out hb1)
          have HB1 := Lib.hid (HB.out.trans (hb1.mono hwz))
          have hs1 := hb1.size
          have d0 := (hb1.cell (p := ⟨g, off + j * 7, none⟩) hgw).trans hc0
          have d1 := (hb1.cell (p := ⟨g, off + j * 7 + 1, none⟩) hgw).trans hc1
          have d2 := (hb1.cell (p := ⟨g, off + j * 7 + 2, none⟩) hgw).trans hc2
          have d3 := (hb1.cell (p := ⟨g, off + j * 7 + 3, none⟩) hgw).trans hc3
          have d4 := (hb1.cell (p := ⟨g, off + j * 7 + 4, none⟩) hgw).trans hc4
          have d5 := (hb1.cell (p := ⟨g, off + j * 7 + 5, none⟩) hgw).trans hc5
          have d6 := (hb1.cell (p := ⟨g, off + j * 7 + 6, none⟩) hgw).trans hc6
          have hgl : g < w.heap.size := hgold
          have hgw1 : g < w1.heap.size := by omega
          clear ho1 hb1 HOB HOM HB hPE hc0 hc1 hc2 hc3 hc4 hc5 hc6
          go_wp2_with fail
          go_quiet (fail)
          obtain ⟨w2, hw2⟩ : ∃ w2 : World, w2 = w1 := ⟨_, rfl⟩
          go_wp2_with (first
            | (at_builtin; (refine app8 _ rfl (.tmp 45) (.tmp 46) rfl w.heap.size _ Q (flat M) rfl (own_below HOB1.out (below_drewN (Below.refl w1.heap.size w1) _)) A1 E c1 V rfl HEE.out.symm ((rd_own HO1.out).below (below_drewN (Below.refl w1.heap.size w1) _)) (by have := HFL.out; omega) (by simp; omega) ?_); intro v3 w3 hown3 hg3 hn3; have HB3 := Lib.hid ((below_drewN HB1.out _).trans (below_of_grown hg3 (by simp; omega) (fun q hq => (HOB1.out.lt q hq).1))); have HO3 := Lib.hid hown3; have HOM3 := Lib.hid (own_keepG (own_below HOM1.out (below_drewN (Below.refl w1.heap.size w1) _)) hg3 (own_apart HOB1.out HOM1.out (by decide))); have hs3 := hg3.size; have f0 := grown_cell hg3 d0 hgw1 (own_low HOB1.out hgl); have f1 := grown_cell hg3 d1 hgw1 (own_low HOB1.out hgl); have f2 := grown_cell hg3 d2 hgw1 (own_low HOB1.out hgl); have f3 := grown_cell hg3 d3 hgw1 (own_low HOB1.out hgl); have f4 := grown_cell hg3 d4 hgw1 (own_low HOB1.out hgl); have f5 := grown_cell hg3 d5 hgw1 (own_low HOB1.out hgl); have f6 := grown_cell hg3 d6 hgw1 (own_low HOB1.out hgl); clear hown3 hg3 hn3 d0 d1 d2 d3 d4 d5 d6)
            | (at_builtin; (refine pushR w3 rfl (.tmp 48) (.tmp 53) rfl w.heap.size _ 0 (rcCells M) rfl (by exact HOM3.out) ⟨xk, xo, xt, xp, xs, xkey, xval⟩ _ rfl rfl (by omega) (by have := HB3.out.size; omega) ?_); intro v4 w4 hown4 hg4 hn4; have HB4 := Lib.hid (HB3.out.trans (below_of_grown hg4 HB3.out.size (fun q hq => (HOM3.out.lt q hq).1))); have HO4 := Lib.hid hown4; have HOB4 := Lib.hid (own_keepG HO3.out hg4 (own_apart HOM3.out HO3.out (by decide))); clear hown4 hg4 hn4))
          go_wp2_with fail
          go_roundw
          case rel => exact ⟨j + 1, by omega, by go_num, by rw [HS1.out, HS2.out, List.length_append, ← HQQ.out, ← HEE.out]; exact HOB4.out, by rw [HS1.out, rcCells_append, List.length_append, ← HNN.out]; simpa [rcCells] using HO4.out, HB4.out⟩
          case measure => simp [intOf]; omega
        · obtain ⟨g5, hA5', hcell⟩ := last_cell HOM.out HNN.out.symm (by omega)
          subst hA5'
          obtain ⟨K, rfl⟩ : ∃ K, N = K + 1 := ⟨N - 1, by omega⟩
          rw [show K + 1 - 1 = K by omega] at hcell
          obtain ⟨L, hL⟩ : ∃ L, L = lo M := ⟨_, rfl⟩
          rw [← hL] at hcell HSY HSN
          have HCELL := Lib.hid hcell
          have hgl5 : g5 < wr.heap.size := (HOM.out.lt g5 rfl).2
          have hM1 : IntKind.i64.wrap (K : Int) = (K : Int) := by rw [IntKind.wrap_i64]; omega
          have hM2 : (0 : Int) ≤ (K : Int) := by omega
          have hM3 : (K : Int) < (K : Int) + 1 := by omega
          clear hN0 hcell hL
          by_cases hlo : L < xo
          · obtain ⟨hs1, hs2⟩ := HSY.out hlo
            have HS1 := Lib.hid hs1
            have HS2 := Lib.hid hs2
            have hd : decide (L < xo) = true := decide_eq_true hlo
            clear HSY HSN hs1 hs2
            go_wp2_with fail
            refine (hPE.out _).mono ?_
            rintro e w1 ⟨A1, c1, rfl, ho1, hb1⟩
            simp only [← HEE.out] at ho1 ⊢
            have HO1 := Lib.hid ho1
            have HOB1 := Lib.hid (own_below HOB.out hb1)
            have HOM1 := Lib.hid (own_below HOM.out hb1)
            have HB1 := Lib.hid (HB.out.trans (hb1.mono hwz))
            have hs1 := hb1.size
            have d0 := (hb1.cell (p := ⟨g, off + j * 7, none⟩) hgw).trans hc0
            have d1 := (hb1.cell (p := ⟨g, off + j * 7 + 1, none⟩) hgw).trans hc1
            have d2 := (hb1.cell (p := ⟨g, off + j * 7 + 2, none⟩) hgw).trans hc2
            have d3 := (hb1.cell (p := ⟨g, off + j * 7 + 3, none⟩) hgw).trans hc3
            have d4 := (hb1.cell (p := ⟨g, off + j * 7 + 4, none⟩) hgw).trans hc4
            have d5 := (hb1.cell (p := ⟨g, off + j * 7 + 5, none⟩) hgw).trans hc5
            have d6 := (hb1.cell (p := ⟨g, off + j * 7 + 6, none⟩) hgw).trans hc6
            have hgl : g < w.heap.size := hgold
            have hgw1 : g < w1.heap.size := by omega
            have HC1 := (hb1.cell (p := ⟨g5, K * 7 + 1, none⟩) hgl5).trans HCELL.out
            clear ho1 hb1 HOB HOM HB hPE hc0 hc1 hc2 hc3 hc4 hc5 hc6
            go_wp2_with fail
            go_quiet (fail)
            obtain ⟨w2, hw2⟩ : ∃ w2 : World, w2 = w1 := ⟨_, rfl⟩
            go_wp2_with (first
              | (at_builtin; (refine app8 _ rfl (.tmp 45) (.tmp 46) rfl w.heap.size _ Q (flat M) rfl (own_below HOB1.out (below_drewN (Below.refl w1.heap.size w1) _)) A1 E c1 V rfl HEE.out.symm ((rd_own HO1.out).below (below_drewN (Below.refl w1.heap.size w1) _)) (by have := HFL.out; omega) (by simp; omega) ?_); intro v3 w3 hown3 hg3 hn3; have HB3 := Lib.hid ((below_drewN HB1.out _).trans (below_of_grown hg3 (by simp; omega) (fun q hq => (HOB1.out.lt q hq).1))); have HO3 := Lib.hid hown3; have HOM3 := Lib.hid (own_keepG (own_below HOM1.out (below_drewN (Below.refl w1.heap.size w1) _)) hg3 (own_apart HOB1.out HOM1.out (by decide))); have hs3 := hg3.size; have f0 := grown_cell hg3 d0 hgw1 (own_low HOB1.out hgl); have f1 := grown_cell hg3 d1 hgw1 (own_low HOB1.out hgl); have f2 := grown_cell hg3 d2 hgw1 (own_low HOB1.out hgl); have f3 := grown_cell hg3 d3 hgw1 (own_low HOB1.out hgl); have f4 := grown_cell hg3 d4 hgw1 (own_low HOB1.out hgl); have f5 := grown_cell hg3 d5 hgw1 (own_low HOB1.out hgl); have f6 := grown_cell hg3 d6 hgw1 (own_low HOB1.out hgl); clear hown3 hg3 hn3 d0 d1 d2 d3 d4 d5 d6)
              | (at_builtin; (refine pushR w3 rfl (.tmp 48) (.tmp 53) rfl w.heap.size _ (K + 1) (rcCells M) rfl (by exact HOM3.out) ⟨xk, xo, xt, xp, xs, xkey, xval⟩ _ rfl rfl (by omega) (by have := HB3.out.size; omega) ?_); intro v4 w4 hown4 hg4 hn4; have HB4 := Lib.hid (HB3.out.trans (below_of_grown hg4 HB3.out.size (fun q hq => (HOM3.out.lt q hq).1))); have HO4 := Lib.hid hown4; have HOB4 := Lib.hid (own_keepG HO3.out hg4 (own_apart HOM3.out HO3.out (by decide))); clear hown4 hg4 hn4))
            go_wp2_with fail
            go_roundw
            case rel => exact ⟨j + 1, by omega, by go_num, by rw [HS1.out, HS2.out, List.length_append, ← HQQ.out, ← HEE.out]; exact HOB4.out, by rw [HS1.out, rcCells_append, List.length_append, ← HNN.out]; simpa [rcCells] using HO4.out, HB4.out⟩
            case measure => simp [intOf]; omega
          · have HS1 := Lib.hid (HSN.out hlo)
            have hd : decide (L < xo) = false := decide_eq_false hlo
            clear HSY HSN
            go_wp2_with fail
            refine (hPE.out _).mono ?_
            rintro e w1 ⟨A1, c1, rfl, ho1, hb1⟩
            simp only [← HEE.out] at ho1 ⊢
            have HO1 := Lib.hid ho1
            have HOB1 := Lib.hid (own_below HOB.out hb1)
            have HOM1 := Lib.hid (own_below HOM.out hb1)
            have HB1 := Lib.hid (HB.out.trans (hb1.mono hwz))
            have hs1 := hb1.size
            have d0 := (hb1.cell (p := ⟨g, off + j * 7, none⟩) hgw).trans hc0
            have d1 := (hb1.cell (p := ⟨g, off + j * 7 + 1, none⟩) hgw).trans hc1
            have d2 := (hb1.cell (p := ⟨g, off + j * 7 + 2, none⟩) hgw).trans hc2
            have d3 := (hb1.cell (p := ⟨g, off + j * 7 + 3, none⟩) hgw).trans hc3
            have d4 := (hb1.cell (p := ⟨g, off + j * 7 + 4, none⟩) hgw).trans hc4
            have d5 := (hb1.cell (p := ⟨g, off + j * 7 + 5, none⟩) hgw).trans hc5
            have d6 := (hb1.cell (p := ⟨g, off + j * 7 + 6, none⟩) hgw).trans hc6
            have HC1 := (hb1.cell (p := ⟨g5, K * 7 + 1, none⟩) hgl5).trans HCELL.out
            clear ho1 hb1 HOB HOM HB hPE hc0 hc1 hc2 hc3 hc4 hc5 hc6
            go_wp2_with fail
            go_quiet (fail)
            go_wp2_with fail
            go_roundw
            case rel => exact ⟨j + 1, by omega, by go_num, by rw [HS1.out, ← HQQ.out]; exact own_below HOB1.out (below_drewN (Below.refl _ _) _), by rw [HS1.out, ← HNN.out]; exact own_below HOM1.out (below_drewN (Below.refl _ _) _), below_drewN HB1.out _⟩
            case measure => simp [intOf]; omega
      · rw [renc_bad hck] at PE
        have HS1 : Hid (rowM (l.take (j + 1)) = M) := Lib.hid (by rw [HST.out, rowStep, if_neg (fun hh => hck hh.1)])
        have hz' : (((chk x : Nat) : Int) == 0) = false := by rw [beq_eq_false_iff_ne]; omega
        obtain ⟨cz, hcz⟩ : ∃ cz : Int, cz = ((chk x : Nat) : Int) := ⟨_, rfl⟩
        rw [← hcz] at PE hz'
        clear HST hck hcz HRI
        obtain ⟨xk, xo, xt, xp, xs, xkey, xval⟩ := x
        unfold Rc.v at PE
        simp only at PE hc0 hc1 hc2 hc3 hc4 hc5 hc6
        go_wp2_with fail
        refine (PE.out _).mono ?_
        rintro e w1 ⟨A1, c1, rfl, ho1, hb1⟩
        simp only at ho1 ⊢
        have HO1 := Lib.hid ho1
        have HOB1 := Lib.hid (own_below HOB.out hb1)
        have HOM1 := Lib.hid (own_below HOM.out hb1)
        have HB1 := Lib.hid (HB.out.trans (hb1.mono hwz))
        have hs1 := hb1.size
        have d0 := (hb1.cell (p := ⟨g, off + j * 7, none⟩) hgw).trans hc0
        have d1 := (hb1.cell (p := ⟨g, off + j * 7 + 1, none⟩) hgw).trans hc1
        have d2 := (hb1.cell (p := ⟨g, off + j * 7 + 2, none⟩) hgw).trans hc2
        have d3 := (hb1.cell (p := ⟨g, off + j * 7 + 3, none⟩) hgw).trans hc3
        have d4 := (hb1.cell (p := ⟨g, off + j * 7 + 4, none⟩) hgw).trans hc4
        have d5 := (hb1.cell (p := ⟨g, off + j * 7 + 5, none⟩) hgw).trans hc5
        have d6 := (hb1.cell (p := ⟨g, off + j * 7 + 6, none⟩) hgw).trans hc6
        clear ho1 hb1 HOB HOM HB PE hc0 hc1 hc2 hc3 hc4 hc5 hc6
        go_wp2_with fail
        go_quiet (fail)
        go_wp2_with fail
        go_roundw
        case rel => exact ⟨j + 1, by omega, by go_num, by rw [HS1.out, ← HQQ.out]; exact own_below HOB1.out (below_drewN (Below.refl _ _) _), by rw [HS1.out, ← HNN.out]; exact own_below HOM1.out (below_drewN (Below.refl _ _) _), below_drewN HB1.out _⟩
        case measure => simp [intOf]; omega
    · have hjn : j = n := by omega
      subst hjn
      rw [HFU.out] at hob hom
      obtain ⟨A4, c4, hv4, _⟩ := own_shape hob
      obtain ⟨A5, c5, hv5, _⟩ := own_shape hom
      subst hv4 hv5
      have HOB := Lib.hid hob
      have HOM := Lib.hid hom
      have HB := Lib.hid hbel
      clear hob hom hbel HRI hML hFL HFU
      go_wp2
      go_ret2
      exact ⟨A4, c4, A5, c5, rfl, HOB.out, HOM.out, HB.out⟩
end Go.Proofs.Ytjipebedibjoiaa

/- A record handed in by value, opened. -/
namespace Go.Proofs.Ytjipebedibjoiaa
open Go Go.RowKit Go.ChangeShapes Go.WideShapes Go.ChangeAt
set_option linter.unusedVariables false

theorem array7 {α : Type} {cs : Array α} (h : cs.size = 7) : ∃ c0 c1 c2 c3 c4 c5 c6, cs = #[c0, c1, c2, c3, c4, c5, c6] := by
  obtain ⟨l⟩ := cs
  match l, h with
  | [c0, c1, c2, c3, c4, c5, c6], _ => exact ⟨c0, c1, c2, c3, c4, c5, c6, rfl⟩
theorem field_int64 {H : Type} {enc : TypeId × Value → H} {w : World} {base : Nat} {spare : Nat → Bool} {held : Bool} {n : Nat} {t : TypeId} (ht : Try.prog.underlying t = some (.int .i64)) {c : Value} {y : Option (DataW H × List MemPlace)} {x : DataW H × List MemPlace} (hy : y = some x)
    (h : DataW.trod enc Try.prog w base spare held n t [c] = y) : ∃ k, c = .int .i64 k ∧ r64 k := by
  rw [hy] at h
  obtain ⟨k, h1, _, h2⟩ := DataW.trod_int ht h
  simp only [List.cons.injEq, and_true] at h1
  exact ⟨k, h1, int_of_wf_i64 h2⟩
theorem field_string {H : Type} {enc : TypeId × Value → H} {w : World} {base : Nat} {spare : Nat → Bool} {held : Bool} {n : Nat} {c : Value} {y : Option (DataW H × List MemPlace)} {x : DataW H × List MemPlace} (hy : y = some x)
    (h : DataW.trod enc Try.prog w base spare held n 9 [c] = y) : ∃ s, c = .string s := by
  rw [hy] at h
  obtain ⟨k, h1, _⟩ := DataW.trod_string Try.underlying9 h
  simp only [List.cons.injEq, and_true] at h1
  exact ⟨k, h1⟩
set_option maxRecDepth 100000 in
theorem open_rec {H : Type} {enc : TypeId × Value → H} {w : World} {base : Nat} {spare : Nat → Bool} {held : Bool} {r : Reach} {b0 : Nat} {v : Value} {d : DataW H} {p : List MemPlace}
    (hv : Value.okWide Try.prog w r b0 31 v) (h : DataW.Trod enc Try.prog w base spare held 31 v d p) :
    ∃ x : Rc, v = x.v ∧ r64 x.k ∧ r64 x.o ∧ r64 x.t ∧ r64 x.p ∧ r64 x.s := by
  obtain ⟨cs, rfl, hsz⟩ := okWide_struct Try.underlying31 hv
  obtain ⟨c0, c1, c2, c3, c4, c5, c6, rfl⟩ := array7 (hsz.trans (by kernel_rfl))
  obtain ⟨fuel, hf⟩ := h
  obtain ⟨xs, n, _, _, hl, hlen, hfs⟩ := DataW.trod_struct Try.underlying31 hf
  match xs, hlen with
  | [y0, y1, y2, y3, y4, y5, y6], _ =>
    have h0 := hfs 0 _ rfl
    have h1 := hfs 1 _ rfl
    have h2 := hfs 2 _ rfl
    have h3 := hfs 3 _ rfl
    have h4 := hfs 4 _ rfl
    have h5 := hfs 5 _ rfl
    have h6 := hfs 6 _ rfl
    simp only [Value.cells] at h0 h1 h2 h3 h4 h5 h6
    obtain ⟨k0, rfl, r0⟩ := field_int64 Try.underlying3 rfl h0
    obtain ⟨k1, rfl, r1⟩ := field_int64 Try.underlying2 rfl h1
    obtain ⟨k2, rfl, r2⟩ := field_int64 Try.underlying2 rfl h2
    obtain ⟨k3, rfl, r3⟩ := field_int64 Try.underlying2 rfl h3
    obtain ⟨k4, rfl, r4⟩ := field_int64 Try.underlying2 rfl h4
    obtain ⟨k5, rfl⟩ := field_string rfl h5
    obtain ⟨k6, rfl⟩ := field_string rfl h6
    exact ⟨⟨k0, k1, k2, k3, k4, k5, k6⟩, rfl, r0, r1, r2, r3, r4⟩
end Go.Proofs.Ytjipebedibjoiaa

/- How an argument that is a list of records is opened. -/
namespace Go.Proofs.Ytjipebedibjoiaa
open Go Go.RowKit Go.ChangeShapes Go.WideShapes Go.ChangeAt Go.Deep
set_option linter.unusedVariables false
set_option linter.unusedSimpArgs false

theorem inWeightsR {H : Type} {P : Program} {e : TypeId} : ∀ {l : List (DataW H)} {d : DataW H}, d ∈ l → ∀ n ∈ d.weights P e, n ∈ DataW.weightsAll P e l
  | d' :: r, d, hd, n, hn => by
    simp only [DataW.weightsAll, List.mem_append]
    rcases List.mem_cons.1 hd with rfl | h
    · exact Or.inl hn
    · exact Or.inr (inWeightsR h n hn)
/-- A row of records read from its cells. -/
theorem rd_recs {w : World} {g off : Nat} {l : List Rc} (hg : g < w.heap.size) (h : ∀ k x, l[k]? = some x → ∀ j v, x.cells[j]? = some v → w.cell? ⟨g, off + (k * 7 + j), none⟩ = some v) : Rd w (some ⟨g, off, none⟩) (rcCells l) := by
  intro _
  refine ⟨g, off, rfl, hg, fun q v hq => ?_⟩
  have hql : q < l.length * 7 := by rw [← rcCells_length]; exact (List.getElem?_eq_some_iff.1 hq).1
  have hx : l[q / 7]? = some (l[q / 7]'(by omega)) := List.getElem?_eq_getElem (by omega)
  have e : q = q / 7 * 7 + q % 7 := by omega
  have h7 : q % 7 < 7 := Nat.mod_lt _ (by omega)
  rw [e] at hq ⊢
  rw [rcCells_get hx _ h7] at hq
  exact h _ _ hx _ _ hq

section
variable {H : Type} {enc : TypeId × Value → H} {w : World} {base : Nat} {spare : Nat → Bool} {held : Bool}
set_option maxRecDepth 100000 in
theorem open_recs {r : Reach} {b0 : Nat} {v : Value} {d : DataW H} {ps : List MemPlace} {ts : List TypeId} {ds : List (DataW H)} {j : Nat}
    (hval : Value.okWide Try.prog w r b0 22 v) (hd : DataW.Trod enc Try.prog w base spare held 22 v d ps)
    (hsz : (DataW.weightsEach Try.prog ts ds).all (· ≤ reachBytes) = true) (htj : ts[j]? = some 22) (hdj : ds[j]? = some d) :
    ∃ (A : Option Addr) (c : Nat) (l : List Rc), v = .slice A l.length c ∧ l.length ≤ c ∧ Rd w A (rcCells l) ∧ (∀ x ∈ l, x.Ok) ∧ l.length * 72 ≤ 140737488351232 ∧ l.length ≤ Rows.uptoBulk d := by
  have ht := Try.underlying22
  have he := Try.underlying31
  obtain ⟨a0, len, cap, rfl⟩ := okWide_slice ht hval
  obtain ⟨fuel, hf⟩ := hd
  have hC : Try.prog.cellsOf 31 = 7 := by kernel_rfl
  have hb : Try.prog.bytesOf 31 = 72 := by kernel_rfl
  rcases open_slice_fields ht he (by kernel_rfl) (by kernel_rfl) hf with ⟨hcs, _⟩ | ⟨a, len', cap', m, D, Pl, hcs, hba, hl, hm, hmm, hx, hi⟩
  · simp [Value.cells] at hcs
    obtain ⟨rfl, rfl, rfl⟩ := hcs
    exact ⟨none, 0, [], rfl, Nat.le_refl _, Rd.nil_ _ _, fun b hb => by simp at hb, by simp, by simp⟩
  · simp [Value.cells] at hcs
    obtain ⟨rfl, rfl, rfl⟩ := hcs
    simp only [Prod.mk.injEq] at hx
    obtain ⟨rfl, rfl⟩ := hx
    have hlz : len ≤ m := by rw [hmm]; split <;> omega
    have hs := sized_slice hsz htj hdj ht
    rw [hb] at hs
    simp only [List.length_map, List.length_range, reachBytes] at hs
    have hcell : ∀ i, i < m → ∃ x : Rc, (∀ q v, x.cells[q]? = some v → w.cell? (a.add (i * 7 + q)) = some v) ∧ (i < len → x.Ok) := by
      intro i hi'
      obtain ⟨ys, n, hD, _, _, hfl⟩ := hi i hi'
      obtain ⟨v0, y0, g0, _, h0⟩ := hfl 0 _ rfl
      obtain ⟨v1, y1, g1, _, h1⟩ := hfl 1 _ rfl
      obtain ⟨v2, y2, g2, _, h2⟩ := hfl 2 _ rfl
      obtain ⟨v3, y3, g3, _, h3⟩ := hfl 3 _ rfl
      obtain ⟨v4, y4, g4, _, h4⟩ := hfl 4 _ rfl
      obtain ⟨v5, y5, g5, hy5, h5⟩ := hfl 5 _ rfl
      obtain ⟨v6, y6, g6, hy6, h6⟩ := hfl 6 _ rfl
      obtain ⟨k0, rfl, r0⟩ := field_int64 Try.underlying3 rfl h0
      obtain ⟨k1, rfl, r1⟩ := field_int64 Try.underlying2 rfl h1
      obtain ⟨k2, rfl, r2⟩ := field_int64 Try.underlying2 rfl h2
      obtain ⟨k3, rfl, r3⟩ := field_int64 Try.underlying2 rfl h3
      obtain ⟨k4, rfl, r4⟩ := field_int64 Try.underlying2 rfl h4
      obtain ⟨k5, q5, q55, _⟩ := DataW.trod_string Try.underlying9 h5
      obtain ⟨k6, q6, q66, _⟩ := DataW.trod_string Try.underlying9 h6
      simp only [List.cons.injEq, and_true] at q5 q6
      subst q5 q6
      refine ⟨⟨k0, k1, k2, k3, k4, k5, k6⟩, ?_, fun hil => ⟨r0, r1, r2, r3, r4, ?_, ?_⟩⟩
      · intro q v hq
        have hq7 : q < 7 := (List.getElem?_eq_some_iff.1 hq).1
        rcases q with _ | _ | _ | _ | _ | _ | _ | q
        · injection hq with hq; subst hq; exact g0
        · injection hq with hq; subst hq; exact g1
        · injection hq with hq; subst hq; exact g2
        · injection hq with hq; subst hq; exact g3
        · injection hq with hq; subst hq; exact g4
        · injection hq with hq; subst hq; exact g5
        · injection hq with hq; subst hq; exact g6
        · omega
      all_goals
        simp only
        have hmem : DataW.agg (ys.map (·.1)) ∈ (List.range len).map D := List.mem_map.2 ⟨i, by simpa using hil, hD⟩
        have hin : ∀ (q : Nat) (t : TypeId) (s : ByteArray), ([3, 2, 2, 2, 2, 9, 9] : List TypeId)[q]? = some t → (ys.map (·.1))[q]? = some (DataW.lit (.string s.data.toList)) → s.data.toList.length ∈ DataW.weightsEach Try.prog ts ds := by
          intro q t s hqt hqd
          refine DataW.weights_mem_each htj hdj _ ?_
          simp only [DataW.weights, ht, List.mem_cons, List.mem_append]
          refine Or.inr (Or.inl (inWeightsR hmem _ ?_))
          simp only [DataW.weights, he]
          exact DataW.weights_mem_each (j := q) (t := t) (d := .lit (.string s.data.toList)) hqt hqd _ (by simp [DataW.weights])
        have r9 : reachBytes = 140737488351232 := rfl
        first
          | have h9 := of_decide_eq_true (List.all_eq_true.1 hsz _ (hin 5 _ k5 rfl (by rw [List.getElem?_map, hy5, q55]; rfl)))
            have e9 : k5.data.toList.length = k5.size := Array.length_toList
            omega
          | have h9 := of_decide_eq_true (List.all_eq_true.1 hsz _ (hin 6 _ k6 rfl (by rw [List.getElem?_map, hy6, q66]; rfl)))
            have e9 : k6.data.toList.length = k6.size := Array.length_toList
            omega
    have hch : ∀ i : Nat, ∃ x : Rc, i < m → (∀ q v, x.cells[q]? = some v → w.cell? (a.add (i * 7 + q)) = some v) ∧ (i < len → x.Ok) := by
      intro i
      by_cases h : i < m
      · obtain ⟨x, h1⟩ := hcell i h
        exact ⟨x, fun _ => h1⟩
      · exact ⟨⟨0, 0, 0, 0, 0, ⟨#[]⟩, ⟨#[]⟩⟩, fun h' => absurd h' h⟩
    obtain ⟨F, hF⟩ := Classical.axiomOfChoice hch
    refine ⟨some a, cap, (List.range len).map F, ?_, ?_, ?_, ?_, ?_, ?_⟩
    · simp
    · simpa using hl
    · intro hne
      have hpos : 0 < len := by
        rcases Nat.eq_zero_or_pos len with h0 | h0
        · subst h0; simp [rcCells] at hne
        · exact h0
      obtain ⟨g, off, spot⟩ := a
      have hc0 := (hF 0 (by omega)).1 0 _ rfl
      have hspot : spot = none := by simpa [Addr.add] using World.cell?_spot hc0
      subst hspot
      have hadd : ∀ k, (⟨g, off, none⟩ : Addr).add k = ⟨g, off + k, none⟩ := fun k => by unfold Addr.add; split <;> simp_all
      refine rd_recs (l := (List.range len).map F) ?_ ?_ hne
      · have := World.block_lt_of_cell? w _ hc0
        rw [hadd] at this
        exact this
      · intro k x hx j v hv
        rw [List.getElem?_map] at hx
        obtain ⟨z, hz1, hz2⟩ := Option.map_eq_some_iff.1 hx
        obtain ⟨hq, hz3⟩ := List.getElem?_eq_some_iff.1 hz1
        simp only [List.getElem_range] at hz3
        subst hz3
        have hq' : k < m := by simp at hq; omega
        have := (hF k hq').1
        rw [hz2] at this
        rw [← hadd]
        exact this j v hv
    · intro x hx
      obtain ⟨i, hi1, rfl⟩ := List.mem_map.1 hx
      have hi2 : i < len := by simpa using hi1
      exact (hF i (by omega)).2 hi2
    · simp; omega
    · have h1 := bulk_len (H := H) ((List.range len).map D)
      simp only [Rows.uptoBulk, List.length_map, List.length_range] at h1 ⊢
      omega
end
end Go.Proofs.Ytjipebedibjoiaa
