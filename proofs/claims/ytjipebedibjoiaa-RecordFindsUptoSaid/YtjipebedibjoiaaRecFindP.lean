/- What Salvage tells: of a row of records all; of any bytes what stands there, and no record outside of it. In plain words. -/
import Derived.Test.YtjipebedibjoiaaD3
namespace Go.Proofs.Ytjipebedibjoiaa
open Go Go.RowKit
set_option linter.unusedVariables false
set_option linter.unusedSimpArgs false

def fpos : Nat → List Rc → List (Nat × Rc)
  | _, [] => []
  | p, x :: r => (p, x) :: fpos (p + (rwx x).length) r
theorem fpos_len : ∀ (l : List Rc) (p : Nat), (fpos p l).length = l.length
  | [], _ => rfl
  | x :: r, p => by simp only [fpos, List.length_cons, fpos_len r]
theorem fpos_get : ∀ (l : List Rc) (p k : Nat) (x : Rc), l[k]? = some x → ∃ q, (fpos p l)[k]? = some (q, x)
  | x :: r, p, 0, y, h => by
    simp only [List.getElem?_cons_zero, Option.some.injEq] at h
    subst h
    exact ⟨p, rfl⟩
  | x :: r, p, k + 1, y, h => by
    rw [List.getElem?_cons_succ] at h
    obtain ⟨q, hq⟩ := fpos_get r (p + (rwx x).length) k y h
    exact ⟨q, by simp only [fpos]; rw [List.getElem?_cons_succ]; exact hq⟩
theorem salv_flat : ∀ (rest done : List Rc) (acc : List (Nat × Rc)), (∀ x ∈ rest, May x) → salvW (flat (done ++ rest)) (flat done).length acc = acc ++ fpos (flat done).length rest
  | [], done, acc, h => by
    rw [List.append_nil, salv_end (by omega)]
    simp [fpos]
  | x :: r, done, acc, h => by
    have hm := h x (by simp)
    have hw : 0 < (rwx x).length := by rw [rwx_len]; omega
    have hp : (flat done).length < (flat (done ++ x :: r)).length := by rw [flat_append, flat_cons, List.length_append, List.length_append]; omega
    have hd : (flat (done ++ x :: r)).drop (flat done).length = rwx x ++ flat r := by rw [flat_append, List.drop_left, flat_cons]
    have hr : rdec ((flat (done ++ x :: r)).drop (flat done).length) = (x, (rwx x).length, 0) := by
      rw [hd, rwx_len]
      exact rdec_wrap hm _
    rw [salv_yes hp hr hw]
    have ea : done ++ x :: r = (done ++ [x]) ++ r := by simp
    have el : (flat done).length + (rwx x).length = (flat (done ++ [x])).length := by rw [flat_snoc, List.length_append]
    have ih := salv_flat r (done ++ [x]) (acc ++ [((flat done).length, x)]) (fun y hy => h y (by simp [hy]))
    rw [← el, ← ea] at ih
    rw [ih]
    simp [fpos]
/-- They stand there, one behind the other, and no record stands outside. -/
inductive SalvOk (b : List Nat) : Nat → List (Nat × Rc) → Prop
  | nil (t : Nat) (h : t ≤ b.length) (hn : ∀ k, t ≤ k → k < b.length → (rdec (b.drop k)).2.2 ≠ 0) : SalvOk b t []
  | cons (t p n : Nat) (x : Rc) (r : List (Nat × Rc)) (h1 : t ≤ p) (h2 : p + n ≤ b.length) (h3 : 0 < n) (hn : ∀ k, t ≤ k → k < p → (rdec (b.drop k)).2.2 ≠ 0) (hr : rdec (b.drop p) = (x, n, 0)) (h : SalvOk b (p + n) r) : SalvOk b t ((p, x) :: r)
theorem SalvOk.back {b : List Nat} {t : Nat} {l : List (Nat × Rc)} (h : SalvOk b (t + 1) l) (hz : (rdec (b.drop t)).2.2 ≠ 0) : SalvOk b t l := by
  cases h with
  | nil _ h hn => exact .nil t (by omega) (fun k h1 h2 => by rcases Nat.eq_or_lt_of_le h1 with rfl | h3; exact hz; exact hn k h3 h2)
  | cons _ p n x r h1 h2 h3 hn hr h => exact .cons t p n x r (by omega) h2 h3 (fun k h4 h5 => by rcases Nat.eq_or_lt_of_le h4 with rfl | h6; exact hz; exact hn k h6 h5) hr h
theorem salv_ok (b : List Nat) : ∀ (d p : Nat) (acc : List (Nat × Rc)), b.length - p ≤ d → p ≤ b.length → ∃ l, salvW b p acc = acc ++ l ∧ SalvOk b p l := by
  intro d
  induction d with
  | zero => intro p acc hd h; exact ⟨[], by rw [salv_end (by omega)]; simp, .nil p h (fun k h1 h2 => by omega)⟩
  | succ d ih =>
    intro p acc hd h
    by_cases hp : p < b.length
    · rcases rdec_cases (b.drop p) with ⟨x, n, e, hm, h14, _, hn, _⟩ | e | e
      · rw [List.length_drop] at hn
        obtain ⟨l, h1, h2⟩ := ih (p + n) (acc ++ [(p, x)]) (by omega) (by omega)
        exact ⟨(p, x) :: l, by rw [salv_yes hp e (by omega), h1]; simp, .cons p p n x l (Nat.le_refl _) (by omega) (by omega) (fun k h3 h4 => by omega) e h2⟩
      · obtain ⟨l, h1, h2⟩ := ih (p + 1) acc (by omega) (by omega)
        have hz : (rdec (b.drop p)).2.2 ≠ 0 := by rw [e]; decide
        exact ⟨l, by rw [salv_no hp hz, h1], h2.back hz⟩
      · obtain ⟨l, h1, h2⟩ := ih (p + 1) acc (by omega) (by omega)
        have hz : (rdec (b.drop p)).2.2 ≠ 0 := by rw [e]; decide
        exact ⟨l, by rw [salv_no hp hz, h1], h2.back hz⟩
    · exact ⟨[], by rw [salv_end hp]; simp, .nil p h (fun k h1 h2 => by omega)⟩
theorem SalvOk.at_ {b : List Nat} {t j : Nat} {l : List (Nat × Rc)} {p : Nat} {x : Rc} (h : SalvOk b t (l.drop j)) (hj : l[j]? = some (p, x)) :
    ∃ n, t ≤ p ∧ p + n ≤ b.length ∧ 0 < n ∧ (∀ k, t ≤ k → k < p → (rdec (b.drop k)).2.2 ≠ 0) ∧ rdec (b.drop p) = (x, n, 0) ∧ SalvOk b (p + n) (l.drop (j + 1)) := by
  obtain ⟨hjl, hjx⟩ := List.getElem?_eq_some_iff.1 hj
  rw [List.drop_eq_getElem_cons hjl, hjx] at h
  cases h with
  | cons _ _ n _ _ h1 h2 h3 hn hr h => exact ⟨n, h1, h2, h3, hn, hr, h⟩
theorem SalvOk.last {b : List Nat} {t j : Nat} {l : List (Nat × Rc)} (h : SalvOk b t (l.drop j)) (hj : l.length ≤ j) : t ≤ b.length ∧ ∀ k, t ≤ k → k < b.length → (rdec (b.drop k)).2.2 ≠ 0 := by
  rw [List.drop_eq_nil_of_le hj] at h
  cases h with
  | nil _ h hn => exact ⟨h, hn⟩
theorem SalvOk.len {b : List Nat} {t : Nat} {l : List (Nat × Rc)} (h : SalvOk b t l) : t + l.length ≤ b.length := by
  induction h with
  | nil t h hn => simpa using h
  | cons t p n x r h1 h2 h3 hn hr h ih => simp only [List.length_cons]; omega
end Go.Proofs.Ytjipebedibjoiaa
