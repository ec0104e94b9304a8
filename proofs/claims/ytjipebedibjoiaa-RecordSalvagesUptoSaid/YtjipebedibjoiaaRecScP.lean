/- Rows of records in bytes: in plain words. -/
import Derived.Test.YtjipebedibjoiaaRecDP2
namespace Go.Proofs.Ytjipebedibjoiaa
open Go Go.RowKit
set_option linter.unusedVariables false
set_option linter.unusedSimpArgs false

/-- What is read: a record that may be, and just its bytes. -/
theorem rdec_cases (b : List Nat) : (∃ x n, rdec b = (x, n, 0) ∧ May x ∧ 14 ≤ n ∧ n ≤ 1124 ∧ n ≤ b.length ∧ b.take n = wrap 169 (bdy x) ∧ n = (bdy x).length + 9) ∨ rdec b = (rc0, 0, 40) ∨ rdec b = (rc0, 0, 41) := by
  unfold rdec
  split
  · exact .inr (.inl rfl)
  split
  · exact .inr (.inr rfl)
  split
  · exact .inr (.inl rfl)
  split
  · exact .inr (.inr rfl)
  split
  · exact .inr (.inl rfl)
  split
  · rename_i h0 h1 h2 h3 h4 h
    obtain ⟨hc, hw⟩ := h
    have hm := chk_may hc
    have hl := congrArg List.length hw
    rw [wrap_length, List.length_take] at hl
    refine .inl ⟨_, _, rfl, hm, by omega, by omega, by omega, hw.symm, by omega⟩
  · exact .inr (.inr rfl)
theorem rdec_len (b : List Nat) : (rdec b).2.1 ≤ b.length := by
  rcases rdec_cases b with ⟨x, n, h, _, _, _, hn, _⟩ | h | h <;> rw [h]
  · exact hn
  · simp
  · simp
/-- The last one's offset. -/
def lo (l : List Rc) : Int := match l.getLast? with
  | some x => x.o
  | none => -1
theorem lo_nil : lo [] = -1 := rfl
theorem lo_snoc (l : List Rc) (x : Rc) : lo (l ++ [x]) = x.o := by unfold lo; rw [List.getLast?_concat]
theorem lo_get {l : List Rc} {x : Rc} (h : l[l.length - 1]? = some x) : lo l = x.o := by
  unfold lo
  rw [List.getLast?_eq_getElem?, h]
/-- From place p on, with these found. -/
def scanW (b : List Nat) (p : Nat) (acc : List Rc) : List Rc × Nat × Nat :=
  if h : p < b.length ∧ 0 < (rdec (b.drop p)).2.1 ∧ (rdec (b.drop p)).2.2 = 0 ∧ lo acc < (rdec (b.drop p)).1.o then
    scanW b (p + (rdec (b.drop p)).2.1) (acc ++ [(rdec (b.drop p)).1])
  else (acc, p, if p < b.length then (if (rdec (b.drop p)).2.2 = 0 then 41 else (rdec (b.drop p)).2.2) else 0)
termination_by b.length - p
decreasing_by omega
theorem scan_end {b : List Nat} {p : Nat} {acc : List Rc} (h : ¬ p < b.length) : scanW b p acc = (acc, p, 0) := by
  rw [scanW, dif_neg (fun h' => h h'.1), if_neg h]
theorem scan_err {b : List Nat} {p : Nat} {acc : List Rc} {z : Nat} (h : p < b.length) (hz : (rdec (b.drop p)).2.2 = z) (h0 : z ≠ 0) : scanW b p acc = (acc, p, z) := by
  rw [scanW, dif_neg (fun h' => h0 (hz ▸ h'.2.2.1)), if_pos h, hz, if_neg h0]
theorem scan_low {b : List Nat} {p n : Nat} {acc : List Rc} {x : Rc} (h : p < b.length) (hz : rdec (b.drop p) = (x, n, 0)) (hx : x.o ≤ lo acc) : scanW b p acc = (acc, p, 41) := by
  rw [scanW, dif_neg (fun h' => by have := h'.2.2.2; rw [hz] at this; simp only at this; omega), if_pos h, hz, if_pos rfl]
theorem scan_step {b : List Nat} {p n : Nat} {acc : List Rc} {x : Rc} (h : p < b.length) (hz : rdec (b.drop p) = (x, n, 0)) (hn : 0 < n) (hx : lo acc < x.o) : scanW b p acc = scanW b (p + n) (acc ++ [x]) := by
  rw [scanW, dif_pos ⟨h, by rw [hz]; exact hn, by rw [hz], by rw [hz]; exact hx⟩, hz]
/-- How many there may be. -/
structure Few (acc : List Rc) : Prop where
  len : (acc.length : Int) ≤ lo acc + 1
  top : lo acc < 1099511627776
theorem Few.nil : Few [] := ⟨by rw [lo_nil]; simp, by rw [lo_nil]; omega⟩
theorem Few.step {acc : List Rc} {x : Rc} (h : Few acc) (hm : May x) (hx : lo acc < x.o) : Few (acc ++ [x]) :=
  ⟨by rw [lo_snoc, List.length_append]; have := h.len; simp; omega, by rw [lo_snoc]; exact hm.o.2⟩
theorem Few.most {acc : List Rc} (h : Few acc) : acc.length ≤ 1099511627776 := by have := h.len; have := h.top; omega
theorem scan_few' (b : List Nat) : ∀ (d p : Nat) (acc : List Rc), b.length - p ≤ d → Few acc → Few (scanW b p acc).1 := by
  intro d
  induction d with
  | zero => intro p acc hd h; rw [scan_end (by omega)]; exact h
  | succ d ih =>
    intro p acc hd h
    by_cases hp : p < b.length
    · rcases rdec_cases (b.drop p) with ⟨x, n, e, hm, h14, _⟩ | e | e
      · by_cases hx : lo acc < x.o
        · rw [scan_step hp e (by omega) hx]
          exact ih _ _ (by omega) (h.step hm hx)
        · rw [scan_low hp e (by omega)]; exact h
      · rw [scan_err hp (by rw [e]) (by decide)]; exact h
      · rw [scan_err hp (by rw [e]) (by decide)]; exact h
    · rw [scan_end hp]; exact h
theorem scan_few (b : List Nat) : Few (scanW b 0 []).1 := scan_few' b _ 0 [] (Nat.le_refl _) Few.nil
/-- Every whole record, wherever it stands. -/
def salvW (b : List Nat) (p : Nat) (acc : List (Nat × Rc)) : List (Nat × Rc) :=
  if p < b.length then
    if h : 0 < (rdec (b.drop p)).2.1 ∧ (rdec (b.drop p)).2.2 = 0 then salvW b (p + (rdec (b.drop p)).2.1) (acc ++ [(p, (rdec (b.drop p)).1)])
    else salvW b (p + 1) acc
  else acc
termination_by b.length - p
decreasing_by all_goals omega
theorem salv_end {b : List Nat} {p : Nat} {acc : List (Nat × Rc)} (h : ¬ p < b.length) : salvW b p acc = acc := by rw [salvW, if_neg h]
theorem salv_no {b : List Nat} {p : Nat} {acc : List (Nat × Rc)} (h : p < b.length) (hz : (rdec (b.drop p)).2.2 ≠ 0) : salvW b p acc = salvW b (p + 1) acc := by
  rw [salvW, if_pos h, dif_neg (fun h' => hz h'.2)]
theorem salv_yes {b : List Nat} {p n : Nat} {acc : List (Nat × Rc)} {x : Rc} (h : p < b.length) (hz : rdec (b.drop p) = (x, n, 0)) (hn : 0 < n) : salvW b p acc = salvW b (p + n) (acc ++ [(p, x)]) := by
  rw [salvW, if_pos h, dif_pos ⟨by rw [hz]; exact hn, by rw [hz]⟩, hz]
end Go.Proofs.Ytjipebedibjoiaa
