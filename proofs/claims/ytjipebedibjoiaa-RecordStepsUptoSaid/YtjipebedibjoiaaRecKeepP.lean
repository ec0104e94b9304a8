/- What a merge keeps, as a part of the list: in plain words. -/
import Derived.Test.YtjipebedibjoiaaG1
import Derived.Test.YtjipebedibjoiaaC1
import Derived.Test.YtjipebedibjoiaaD3
namespace Go.Proofs.Ytjipebedibjoiaa
open Go Go.RowKit
set_option linter.unusedVariables false
set_option linter.unusedSimpArgs false

open Classical in
noncomputable def flt (P : Rc → Prop) : List Rc → List Rc
  | [] => []
  | x :: r => if (∀ y ∈ r, y.key ≠ x.key) ∧ P x then x :: flt P r else flt P r
def Kp (now H : Int) (x : Rc) : Prop := x.k = 1 ∨ now < x.t + H
def Vl (x : Rc) : Prop := x.k = 1
theorem flt_sub (P : Rc → Prop) : ∀ {l : List Rc} {z : Rc}, z ∈ flt P l → z ∈ l ∧ P z
  | [], z, h => by simp [flt] at h
  | x :: r, z, h => by
    unfold flt at h
    split at h
    next hc =>
      rcases List.mem_cons.1 h with rfl | h
      · exact ⟨List.mem_cons_self .., hc.2⟩
      · exact ⟨List.mem_cons_of_mem _ (flt_sub P h).1, (flt_sub P h).2⟩
    next hc => exact ⟨List.mem_cons_of_mem _ (flt_sub P h).1, (flt_sub P h).2⟩
open Classical in
theorem flt_flt {P Q : Rc → Prop} (hqp : ∀ x, Q x → P x) (d : List Rc) : ∀ t : List Rc, flt Q (flt P t ++ d) = flt Q (t ++ d)
  | [] => rfl
  | x :: r => by
    have ih := flt_flt hqp d r
    have e1 : flt Q (x :: r ++ d) = if (∀ y ∈ r ++ d, y.key ≠ x.key) ∧ Q x then x :: flt Q (r ++ d) else flt Q (r ++ d) := rfl
    rw [e1]
    by_cases h1 : (∀ y ∈ r, y.key ≠ x.key) ∧ P x
    · have e2 : flt P (x :: r) = x :: flt P r := by rw [flt, if_pos h1]
      rw [e2, List.cons_append, flt, ih]
      have e3 : (∀ y ∈ flt P r ++ d, y.key ≠ x.key) ↔ ∀ y ∈ r ++ d, y.key ≠ x.key := by
        constructor
        · intro h y hy
          rcases List.mem_append.1 hy with hy | hy
          · exact h1.1 y hy
          · exact h y (List.mem_append_right _ hy)
        · intro h y hy
          rcases List.mem_append.1 hy with hy | hy
          · exact h1.1 y (flt_sub P hy).1
          · exact h y (List.mem_append_right _ hy)
      by_cases h2 : (∀ y ∈ r ++ d, y.key ≠ x.key) ∧ Q x
      · rw [if_pos h2, if_pos ⟨e3.2 h2.1, h2.2⟩]
      · rw [if_neg h2, if_neg (fun h => h2 ⟨e3.1 h.1, h.2⟩)]
    · have e2 : flt P (x :: r) = flt P r := by rw [flt, if_neg h1]
      rw [e2, ih, if_neg (fun h => h1 ⟨fun y hy => h.1 y (List.mem_append_left _ hy), hqp x h.2⟩)]
theorem last_drop {l : List Rc} {n : Nat} {x : Rc} : Last l n x ↔ ∀ y ∈ l.drop (n + 1), y.key ≠ x.key := by
  constructor
  · intro h y hy
    obtain ⟨j, hj, rfl⟩ := List.getElem_of_mem hy
    have e : (l.drop (n + 1))[j]? = l[n + 1 + j]? := List.getElem?_drop
    exact h (n + 1 + j) _ (by omega) (by rw [← e]; exact List.getElem?_eq_getElem hj)
  · intro h k y hk hy
    obtain ⟨hk2, rfl⟩ := List.getElem?_eq_some_iff.1 hy
    refine h _ ?_
    have e : (l.drop (n + 1))[k - (n + 1)]? = some l[k] := by
      rw [List.getElem?_drop, show n + 1 + (k - (n + 1)) = k by omega]
      exact hy
    exact List.mem_of_getElem? e
theorem cmp_flt (l : List Rc) (now H : Int) : ∀ n, n ≤ l.length → (cmpF l now H n).1 ++ flt (Kp now H) (l.drop n) = flt (Kp now H) l
  | 0, _ => rfl
  | n + 1, hn => by
    have ih := cmp_flt l now H n (by omega)
    have hx : l[n]? = some l[n] := List.getElem?_eq_getElem (by omega)
    have hd : l.drop n = l[n] :: l.drop (n + 1) := List.drop_eq_getElem_cons (by omega)
    rw [hd] at ih
    rw [← ih]
    by_cases h1 : Last l n l[n]
    · by_cases h2 : Kp now H l[n]
      · have e : flt (Kp now H) (l[n] :: l.drop (n + 1)) = l[n] :: flt (Kp now H) (l.drop (n + 1)) := by rw [flt, if_pos ⟨last_drop.1 h1, h2⟩]
        rw [cmp_keep hx h1 h2, e, List.append_assoc]
        rfl
      · have e : flt (Kp now H) (l[n] :: l.drop (n + 1)) = flt (Kp now H) (l.drop (n + 1)) := by rw [flt, if_neg (fun h => h2 h.2)]
        rw [cmp_drop hx h1 h2, e]
    · have e : flt (Kp now H) (l[n] :: l.drop (n + 1)) = flt (Kp now H) (l.drop (n + 1)) := by rw [flt, if_neg (fun h => h1 (last_drop.2 h.1))]
      rw [cmp_skip hx h1, e]
theorem cmp_all (l : List Rc) (now H : Int) : (cmpF l now H l.length).1 = flt (Kp now H) l := by
  have := cmp_flt l now H l.length (Nat.le_refl _)
  rw [List.drop_length] at this
  simpa [flt] using this
theorem cmp_none {l : List Rc} {now H : Int} (h : ∀ x ∈ l, Kp now H x) : ∀ n, (cmpF l now H n).2 = 0
  | 0 => rfl
  | n + 1 => by
    have ih := cmp_none h n
    cases hx : l[n]? with
    | none => rw [cmpF, hx]; exact ih
    | some x =>
      by_cases h1 : Last l n x
      · rw [cmp_keep hx h1 (h x (List.mem_of_getElem? hx))]; exact ih
      · rw [cmp_skip hx h1]; exact ih
theorem cmp_mono (l : List Rc) (now H : Int) : ∀ (d n : Nat), (cmpF l now H n).2 ≤ (cmpF l now H (n + d)).2
  | 0, n => Int.le_refl _
  | d + 1, n => by
    refine Int.le_trans (cmp_mono l now H d n) ?_
    rw [← Nat.add_assoc]
    generalize n + d = k
    cases hx : l[k]? with
    | none => rw [cmpF, hx]; exact Int.le_refl _
    | some x =>
      by_cases h1 : Last l k x
      · by_cases h2 : x.k = 1 ∨ now < x.t + H
        · rw [cmp_keep hx h1 h2]; exact Int.le_refl _
        · rw [cmp_drop hx h1 h2]; simp only; omega
      · rw [cmp_skip hx h1]; exact Int.le_refl _
theorem mem_flt (P : Rc → Prop) (z : Rc) : ∀ l : List Rc, z ∈ flt P l ↔ ∃ i, l[i]? = some z ∧ P z ∧ Last l i z
  | [] => by simp [flt]
  | x :: r => by
    have ih := mem_flt P z r
    have h0 : Last (x :: r) 0 x ↔ ∀ y ∈ r, y.key ≠ x.key := last_drop
    have hs : ∀ j, Last (x :: r) (j + 1) z ↔ Last r j z := fun j => last_drop.trans (last_drop (l := r) (n := j)).symm
    constructor
    · intro h
      unfold flt at h
      split at h
      next hc =>
        rcases List.mem_cons.1 h with rfl | h
        · exact ⟨0, rfl, hc.2, h0.2 hc.1⟩
        · obtain ⟨i, a, b, c⟩ := ih.1 h
          exact ⟨i + 1, by simpa using a, b, (hs i).2 c⟩
      next hc =>
        obtain ⟨i, a, b, c⟩ := ih.1 h
        exact ⟨i + 1, by simpa using a, b, (hs i).2 c⟩
    · rintro ⟨i, a, b, c⟩
      cases i with
      | zero =>
        simp only [List.getElem?_cons_zero, Option.some.injEq] at a
        subst a
        rw [flt, if_pos ⟨h0.1 c, b⟩]
        exact List.mem_cons_self ..
      | succ i =>
        have h := ih.2 ⟨i, by simpa using a, b, (hs i).1 c⟩
        unfold flt
        split
        · exact List.mem_cons_of_mem _ h
        · exact h
theorem fold_eq {a b : List Rc} (h : flt Vl a = flt Vl b) : foldW a = foldW b := by
  refine up_ext (foldW_up a) (foldW_up b) (fun z => ?_)
  have e : ∀ l, z ∈ foldW l ↔ z ∈ flt Vl l := fun l => by rw [foldW_mem, mem_flt]; rfl
  rw [e, e, h]
theorem fold_keep (now H : Int) (t d : List Rc) : foldW (flt (Kp now H) t ++ d) = foldW (t ++ d) := fold_eq (flt_flt (fun x h => .inl h) d t)
/-- Rising offsets. -/
theorem Rise.lo_le {m : List Rc} (h : Rise m) : ∀ x ∈ m, x.o ≤ lo m := by
  induction h with
  | nil => intro x hx; cases hx
  | snoc m x h hm ho ih =>
    intro y hy
    rw [lo_snoc]
    rcases List.mem_append.1 hy with hy | hy
    · have := ih y hy; omega
    · simp only [List.mem_singleton] at hy; subst hy; exact Int.le_refl _
theorem Rise.pair {m : List Rc} (h : Rise m) : m.Pairwise (fun x y => x.o < y.o) := by
  induction h with
  | nil => exact List.Pairwise.nil
  | snoc m x h hm ho ih =>
    refine List.pairwise_append.2 ⟨ih, List.pairwise_singleton _ _, fun y hy z hz => ?_⟩
    simp only [List.mem_singleton] at hz
    subst hz
    have := h.lo_le y hy
    omega
theorem Rise.sub {m : List Rc} (h : Rise m) (now hor : Int) (h1 : ¬ now < 0) (h2 : ¬ hor < 0) : cmpW m now hor = cmpF m now (min hor 1099511627776) m.length :=
  cmpW_yes h1 h2 (fun x hx => may_chk (h.may x hx))
/-- At place i of a row: what is kept from there on. -/
theorem keep_at {m : List Rc} (hr : Rise m) {now H : Int} {i : Nat} {x : Rc} (hx : m[i]? = some x) (K : List Rc) (hK : K = flt (Kp now H) m) :
    (Last m i x ∧ Kp now H x → K[(cmpF m now H i).1.length]? = some x ∧ (cmpF m now H (i + 1)).1.length = (cmpF m now H i).1.length + 1) ∧
    (¬ (Last m i x ∧ Kp now H x) → (∀ y, K[(cmpF m now H i).1.length]? = some y → x.o < y.o) ∧ (cmpF m now H (i + 1)).1.length = (cmpF m now H i).1.length) := by
  obtain ⟨hi, rfl⟩ := List.getElem?_eq_some_iff.1 hx
  constructor
  · rintro ⟨h1, h2⟩
    have e := cmp_flt m now H (i + 1) (by omega)
    rw [cmp_keep hx h1 h2] at e ⊢
    refine ⟨?_, by simp⟩
    rw [hK, ← e, List.append_assoc, List.getElem?_append_right (Nat.le_refl _), Nat.sub_self]
    rfl
  · intro h
    have e1 : (cmpF m now H (i + 1)).1 = (cmpF m now H i).1 := by
      by_cases h1 : Last m i m[i]
      · by_cases h2 : Kp now H m[i]
        · exact absurd ⟨h1, h2⟩ h
        · rw [cmp_drop hx h1 h2]
      · rw [cmp_skip hx h1]
    refine ⟨fun y hy => ?_, by rw [e1]⟩
    have e := cmp_flt m now H (i + 1) (by omega)
    rw [e1] at e
    rw [hK, ← e, List.getElem?_append_right (Nat.le_refl _), Nat.sub_self] at hy
    have hm := (flt_sub _ (List.mem_of_getElem? hy)).1
    obtain ⟨j, hj, rfl⟩ := List.getElem_of_mem hm
    have e2 : (m.drop (i + 1))[j] = m[i + 1 + j]'(by simp at hj; omega) := List.getElem_drop ..
    rw [e2]
    exact List.pairwise_iff_getElem.1 hr.pair i (i + 1 + j) _ _ (by omega)
theorem mark_at {m : List Rc} {now H : Int} {i : Nat} {x : Rc} (hx : m[i]? = some x) (h1 : Last m i x) (h2 : ¬ Kp now H x) : x.o < (cmpF m now H m.length).2 := by
  have hi := (List.getElem?_eq_some_iff.1 hx).1
  have a := cmp_mono m now H (m.length - (i + 1)) (i + 1)
  rw [show i + 1 + (m.length - (i + 1)) = m.length by omega, cmp_drop hx h1 h2] at a
  simp only at a
  omega
end Go.Proofs.Ytjipebedibjoiaa
