/- Several texts in one: AftPlain, OrdPlain, RecFoldP, RecFoldC, RecLay, RecSort, RecFold, RecFold2. -/
import Derived.Test.YtjipebedibjoiaaF1
import Derived.Laws.RangeAny
import Derived.Laws.Strings
import Derived.Test.YtjipebedibjoiaaC1
import Derived.Shelf.SlSortFuncK.WholeK
import Derived.Shelf.GgSortFunc.Tiny
import Derived.Test.YtjipebedibjoiaaD3
import Derived.BigQuiet
import Derived.Maps.RangeWalk
import Derived.Sort.KeysCollected
import Derived.Deep.RegionLaw
/- What stands above all texts that begin with one: plain lists of bytes; and how far a letter reaches. -/
namespace Go.Proofs.Ytjipebedibjoiaa
open Go Go.RowKit

/-- How many bytes there are up to the last one that is not 255. -/
def lst : List Nat → Nat
  | [] => 0
  | x :: r => if lst r = 0 then (if x = 255 then 0 else 1) else lst r + 1

theorem lst_le : ∀ l : List Nat, lst l ≤ l.length := by
  intro l
  induction l with
  | nil => simp [lst]
  | cons x r ih => simp only [lst, List.length_cons]; split <;> (try split) <;> omega

theorem lst_snoc : ∀ (l : List Nat) (x : Nat), lst (l ++ [x]) = if x = 255 then lst l else l.length + 1 := by
  intro l
  induction l with
  | nil => intro x; simp [lst]
  | cons y r ih =>
    intro x
    simp only [List.cons_append, lst, ih, List.length_cons]
    by_cases h : x = 255
    · simp [h]
    · simp [h]

theorem lst_take_succ (l : List Nat) (k x : Nat) (h : l[k]? = some x) : lst (l.take (k + 1)) = if x = 255 then lst (l.take k) else k + 1 := by
  have hk : k < l.length := (List.getElem?_eq_some_iff.1 h).1
  have hx : l[k] = x := (List.getElem?_eq_some_iff.1 h).2
  rw [List.take_succ_eq_append_getElem hk, lst_snoc, hx]
  simp [Nat.min_eq_left (Nat.le_of_lt hk)]

theorem lst_spec : ∀ l : List Nat, 0 < lst l → ∃ x, l[lst l - 1]? = some x ∧ x ≠ 255 := by
  intro l
  induction l with
  | nil => simp [lst]
  | cons x r ih =>
    intro h
    simp only [lst] at h ⊢
    by_cases h0 : lst r = 0
    · rw [if_pos h0] at h ⊢
      by_cases hx : x = 255
      · rw [if_pos hx] at h; omega
      · rw [if_neg hx]; exact ⟨x, by simp, hx⟩
    · rw [if_neg h0] at h ⊢
      obtain ⟨y, hy, hne⟩ := ih (by omega)
      refine ⟨y, ?_, hne⟩
      have : lst r + 1 - 1 = (lst r - 1) + 1 := by omega
      rw [this, List.getElem?_cons_succ]
      exact hy

/-- A letter's bytes: it is not empty, it does not reach beyond the end, and its last byte, if it has more than one, is not 255. -/
theorem decode_wide (s : ByteArray) (i : Nat) (h : i < s.size) :
    1 ≤ (Utf8.decode s i).2 ∧ i + (Utf8.decode s i).2 ≤ s.size ∧ ((Utf8.decode s i).2 = 1 ∨ ∃ x, (sb s)[i + (Utf8.decode s i).2 - 1]? = some x ∧ x ≠ 255) := by
  have key : ∀ k, i + k < s.size → (s.get! (i + k)).toNat / 64 = 2 → ∃ x, (sb s)[i + k]? = some x ∧ x ≠ 255 := by
    intro k hk hc
    refine ⟨_, sb_get s (i + k) hk, ?_⟩
    have : s.get! (i + k) = s[i + k] := by
      simp [ByteArray.get!, getElem!_pos, hk]
      rfl
    rw [this] at hc
    omega
  unfold Utf8.decode
  simp only
  split
  · exact ⟨by simp, by simp; omega, .inl rfl⟩
  · split
    · rename_i hc
      simp only [Bool.and_eq_true, decide_eq_true_eq, beq_iff_eq] at hc
      split
      · exact ⟨by simp, by simp; omega, .inr (key 1 hc.2.1 hc.2.2)⟩
      · exact ⟨by simp, by simp; omega, .inl rfl⟩
    · split
      · rename_i hc
        simp only [Bool.and_eq_true, decide_eq_true_eq, beq_iff_eq] at hc
        split
        · exact ⟨by simp, by simp; omega, .inr (key 2 hc.2.1 hc.2.2)⟩
        · exact ⟨by simp, by simp; omega, .inl rfl⟩
      · split
        · rename_i hc
          simp only [Bool.and_eq_true, decide_eq_true_eq, beq_iff_eq] at hc
          split
          · exact ⟨by simp, by simp; omega, .inr (key 3 hc.2.1 hc.2.2)⟩
          · exact ⟨by simp, by simp; omega, .inl rfl⟩
        · exact ⟨by simp, by simp; omega, .inl rfl⟩

/-- The bytes of what stands above: without what is 255 at the end, and the last one raised. -/
def aft (l : List Nat) : List Nat := l.take (lst l - 1) ++ [l.getD (lst l - 1) 0 + 1]

theorem aft_by {l : List Nat} (h : By l) (h0 : 0 < lst l) : By (aft l) := by
  obtain ⟨x, hx, hne⟩ := lst_spec l h0
  unfold aft
  refine By.append (h.take _) (fun b hb => ?_)
  simp only [List.mem_singleton] at hb
  rw [List.getD_eq_getElem?_getD, hx] at hb
  have := h x (List.mem_of_getElem? hx)
  simp at hb
  omega

theorem set_last (l : List Nat) (n b : Nat) (hn : 0 < n) (hl : n ≤ l.length) : (l.take n).set (n - 1) b = l.take (n - 1) ++ [b] := by
  have e : l.take n = l.take (n - 1) ++ [l[n - 1]] := by
    have := List.take_succ_eq_append_getElem (show n - 1 < l.length by omega)
    rw [show n - 1 + 1 = n from by omega] at this
    exact this
  rw [e, List.set_append_right _ _ (by rw [List.length_take]; omega)]
  simp [Nat.min_eq_left (show n - 1 ≤ l.length by omega)]
end Go.Proofs.Ytjipebedibjoiaa

/- The order of texts: plain laws. -/
namespace Go.Proofs.Ytjipebedibjoiaa
open Go Go.RowKit

theorem cmp_range : ∀ (a b : List Nat), cmp a b = -1 ∨ cmp a b = 0 ∨ cmp a b = 1 := by
  intro a
  induction a with
  | nil => intro b; cases b <;> simp [cmp]
  | cons x r ih =>
    intro b
    cases b with
    | nil => simp [cmp]
    | cons y t => simp only [cmp]; split <;> (try split) <;> first | exact .inl rfl | exact .inr (.inr rfl) | exact ih t

theorem cmp_swap : ∀ (a b : List Nat), cmp b a = -cmp a b := by
  intro a
  induction a with
  | nil => intro b; cases b <;> simp [cmp]
  | cons x r ih =>
    intro b
    cases b with
    | nil => simp [cmp]
    | cons y t =>
      simp only [cmp]
      by_cases h1 : x < y
      · rw [if_neg (by omega), if_pos h1, if_pos h1]; rfl
      · by_cases h2 : y < x
        · rw [if_pos h2, if_neg h1, if_pos h2]
        · rw [if_neg h2, if_neg h1, if_neg h1, if_neg h2]; exact ih t

theorem cmp_zero : ∀ (a b : List Nat), cmp a b = 0 ↔ a = b := by
  intro a
  induction a with
  | nil => intro b; cases b <;> simp [cmp]
  | cons x r ih =>
    intro b
    cases b with
    | nil => simp [cmp]
    | cons y t =>
      simp only [cmp]
      by_cases h1 : x < y
      · rw [if_pos h1]; simp; omega
      · by_cases h2 : y < x
        · rw [if_neg h1, if_pos h2]; simp; omega
        · rw [if_neg h1, if_neg h2, ih t]
          have : x = y := by omega
          simp [this]

theorem cmp_trans : ∀ (a b c : List Nat), cmp a b ≤ 0 → cmp b c ≤ 0 → cmp a c ≤ 0 := by
  intro a
  induction a with
  | nil => intro b c _ _; cases c <;> simp [cmp]
  | cons x r ih =>
    intro b c h1 h2
    cases b with
    | nil => simp [cmp] at h1
    | cons y t =>
      cases c with
      | nil => simp [cmp] at h2
      | cons z u =>
        simp only [cmp] at h1 h2 ⊢
        by_cases h3 : x < y
        · by_cases h4 : y < z
          · rw [if_pos (by omega)]; omega
          · rw [if_neg h4] at h2
            by_cases h5 : z < y
            · rw [if_pos h5] at h2; omega
            · rw [if_pos (by omega)]; omega
        · rw [if_neg h3] at h1
          by_cases h4 : y < x
          · rw [if_pos h4] at h1; omega
          · rw [if_neg h4] at h1
            by_cases h5 : y < z
            · rw [if_pos (by omega)]; omega
            · rw [if_neg h5] at h2
              by_cases h6 : z < y
              · rw [if_pos h6] at h2; omega
              · rw [if_neg h6] at h2
                rw [if_neg (by omega), if_neg (by omega)]
                exact ih t u h1 h2

theorem lst_tail : ∀ l : List Nat, l.drop (lst l) = List.replicate (l.length - lst l) 255 := by
  intro l
  induction l with
  | nil => simp [lst]
  | cons x r ih =>
    simp only [lst]
    by_cases h0 : lst r = 0
    · rw [h0] at ih
      simp only [List.drop_zero, Nat.sub_zero] at ih
      rw [if_pos h0]
      by_cases hx : x = 255
      · rw [if_pos hx, hx]
        simp only [List.drop_zero, List.length_cons, Nat.sub_zero, List.replicate_succ]
        rw [← ih]
      · rw [if_neg hx]
        simpa using ih
    · rw [if_neg h0]
      simpa using ih

/-- Against a row of 255: not below it, just where one begins so. -/
theorem cmp_full : ∀ (k : Nat) (r : List Nat), By r → (0 ≤ cmp r (List.replicate k 255) ↔ r.take k = List.replicate k 255) := by
  intro k
  induction k with
  | zero => intro r _; cases r <;> simp [cmp]
  | succ k ih =>
    intro r hr
    cases r with
    | nil => simp [cmp, List.replicate_succ]
    | cons y t =>
      have hy := hr y (by simp)
      simp only [List.replicate_succ, cmp, List.take_succ_cons, List.cons.injEq]
      by_cases h1 : y < 255
      · rw [if_pos h1]; simp; omega
      · rw [if_neg h1, if_neg (by omega), ih t (fun b hb => hr b (by simp [hb]))]
        simp; omega

theorem cmp_begin : ∀ (p a : List Nat), a.take p.length = p → 0 ≤ cmp a p := by
  intro p
  induction p with
  | nil => intro a _; cases a <;> simp [cmp]
  | cons x r ih =>
    intro a h
    cases a with
    | nil => simp at h
    | cons y t =>
      simp only [List.length_cons, List.take_succ_cons, List.cons.injEq] at h
      simp only [cmp]
      rw [if_neg (by omega), if_neg (by omega)]
      exact ih t h.2

/-- The range of the texts that begin with one. -/
theorem cmp_inside : ∀ (u : List Nat) (x k : Nat) (a : List Nat), By a → x < 255 →
    ((0 ≤ cmp a (u ++ x :: List.replicate k 255) ∧ cmp a (u ++ [x + 1]) < 0) ↔ a.take (u.length + (k + 1)) = u ++ x :: List.replicate k 255) := by
  intro u
  induction u with
  | nil =>
    intro x k a ha hx
    cases a with
    | nil => simp [cmp]
    | cons y t =>
      have ht : By t := fun b hb => ha b (by simp [hb])
      simp only [List.nil_append, List.length_nil, Nat.zero_add, List.take_succ_cons, List.cons.injEq, cmp]
      rcases Nat.lt_trichotomy y x with h | h | h
      · rw [if_pos h]; simp; omega
      · subst h
        rw [if_neg (by omega), if_neg (by omega), if_pos (by omega), cmp_full k t ht]
        simp
      · rw [if_neg (by omega), if_pos h]
        by_cases h2 : y < x + 1
        · omega
        · rw [if_neg h2]
          have hge : ¬ ((if x + 1 < y then (1 : Int) else cmp t []) < 0) := by
            split
            · omega
            · cases t <;> simp [cmp]
          constructor
          · intro ⟨_, h3⟩; exact absurd h3 hge
          · intro ⟨h3, _⟩; omega
  | cons z u ih =>
    intro x k a ha hx
    cases a with
    | nil => simp [cmp]
    | cons y t =>
      have ht : By t := fun b hb => ha b (by simp [hb])
      have e : (z :: u).length + (k + 1) = (u.length + (k + 1)) + 1 := by simp; omega
      rw [e]
      simp only [List.cons_append, List.take_succ_cons, List.cons.injEq, cmp]
      by_cases h1 : y < z
      · rw [if_pos h1, if_pos h1]; simp; omega
      · rw [if_neg h1, if_neg h1]
        by_cases h2 : z < y
        · rw [if_pos h2, if_pos h2]; simp; omega
        · rw [if_neg h2, if_neg h2, ih x k t ht hx]
          have : y = z := by omega
          simp [this]

theorem lst_parts (p : List Nat) (h : 0 < lst p) : ∃ x, p = p.take (lst p - 1) ++ x :: List.replicate (p.length - lst p) 255 ∧ p[lst p - 1]? = some x ∧ x ≠ 255 := by
  obtain ⟨x, hx, hne⟩ := lst_spec p h
  have hl := lst_le p
  refine ⟨x, ?_, hx, hne⟩
  have h1 := (List.take_append_drop (lst p - 1) p).symm
  have hk : lst p - 1 < p.length := by omega
  rw [List.drop_eq_getElem_cons hk, show lst p - 1 + 1 = lst p from by omega, lst_tail] at h1
  have hx2 : p[lst p - 1] = x := (List.getElem?_eq_some_iff.1 hx).2
  rw [hx2] at h1
  exact h1

theorem aft_inside (p a : List Nat) (hp : By p) (ha : By a) (h : 0 < lst p) : (0 ≤ cmp a p ∧ cmp a (aft p) < 0) ↔ a.take p.length = p := by
  obtain ⟨x, hx, hg, hne⟩ := lst_parts p h
  have hx255 : x < 256 := hp x (List.mem_of_getElem? hg)
  have hl := lst_le p
  have key := cmp_inside (p.take (lst p - 1)) x (p.length - lst p) a ha (by omega)
  rw [← hx] at key
  have e1 : p.take (lst p - 1) ++ [x + 1] = aft p := by
    unfold aft
    rw [List.getD_eq_getElem?_getD, hg]
    rfl
  rw [e1] at key
  have e2 : (p.take (lst p - 1)).length + (p.length - lst p + 1) = p.length := by rw [List.length_take]; omega
  rw [e2] at key
  exact key

theorem lst_zero (p : List Nat) (h : lst p = 0) : ∀ (i x : Nat), p[i]? = some x → x = 255 := by
  intro i x hi
  have ht := lst_tail p
  rw [h] at ht
  simp only [List.drop_zero] at ht
  rw [ht] at hi
  have := List.mem_of_getElem? hi
  exact (List.mem_replicate.1 this).2

theorem less_list : ∀ (a b : List UInt8), Op.bytesLess a b = decide (cmp (a.map UInt8.toNat) (b.map UInt8.toNat) < 0) := by
  intro a
  induction a with
  | nil => intro b; cases b <;> simp [Op.bytesLess, cmp]
  | cons x r ih =>
    intro b
    cases b with
    | nil => simp [Op.bytesLess, cmp]
    | cons y t =>
      simp only [Op.bytesLess, List.map_cons, cmp, ih]
      by_cases h1 : x.toNat < y.toNat
      · have : x < y := h1
        simp [this, h1]
      · have h1' : ¬ x < y := h1
        by_cases h2 : y.toNat < x.toNat
        · have hne : (x == y) = false := by
            rw [beq_eq_false_iff_ne]
            rintro rfl
            omega
          rw [if_neg h1, if_pos h2]
          simp [h1', hne]
        · have he : x = y := UInt8.toNat_inj.1 (by omega)
          subst he
          simp [h1', h1]

theorem less_eq (s t : ByteArray) : Op.bytesLess s.toList t.toList = decide (cmp (sb s) (sb t) < 0) := by
  rw [less_list, ByteArray.toList_eq, ByteArray.toList_eq]
  rfl
end Go.Proofs.Ytjipebedibjoiaa

/- What a list of records comes to: in plain words. -/
namespace Go.Proofs.Ytjipebedibjoiaa
open Go Go.RowKit
set_option linter.unusedVariables false
set_option linter.unusedSimpArgs false

/-- By the keys' order. -/
def kcmp (x y : Rc) : Int := cmp (sb x.key) (sb y.key)
def insK (x : Rc) : List Rc → List Rc
  | [] => [x]
  | y :: r => if kcmp y x < 0 then y :: insK x r else x :: y :: r
open Classical in
noncomputable def foldF (l : List Rc) : Nat → List Rc
  | 0 => []
  | n + 1 => match l[n]? with
    | some x => if x.k = 1 ∧ Last l n x then insK x (foldF l n) else foldF l n
    | none => foldF l n
noncomputable def foldW (l : List Rc) : List Rc := foldF l l.length
theorem fold_put {l : List Rc} {n : Nat} {x : Rc} (hx : l[n]? = some x) (h1 : x.k = 1) (h2 : Last l n x) : foldF l (n + 1) = insK x (foldF l n) := by
  rw [foldF, hx]; simp only; rw [if_pos ⟨h1, h2⟩]
theorem fold_skip {l : List Rc} {n : Nat} {x : Rc} (hx : l[n]? = some x) (h : ¬ (x.k = 1 ∧ Last l n x)) : foldF l (n + 1) = foldF l n := by
  rw [foldF, hx]; simp only; rw [if_neg h]
theorem insK_mem {x z : Rc} : ∀ {l : List Rc}, z ∈ insK x l ↔ z = x ∨ z ∈ l
  | [] => by simp [insK]
  | y :: r => by
    unfold insK
    split
    · rw [List.mem_cons, insK_mem (l := r), List.mem_cons]
      constructor
      · rintro (h | h | h)
        · exact .inr (.inl h)
        · exact .inl h
        · exact .inr (.inr h)
      · rintro (h | h | h)
        · exact .inr (.inl h)
        · exact .inl h
        · exact .inr (.inr h)
    · simp
theorem insK_len {x : Rc} : ∀ {l : List Rc}, (insK x l).length = l.length + 1
  | [] => rfl
  | y :: r => by
    unfold insK
    split
    · rw [List.length_cons, insK_len, List.length_cons]
    · rfl
theorem foldF_len (l : List Rc) : ∀ n, (foldF l n).length ≤ n
  | 0 => Nat.le_refl _
  | n + 1 => by
    have ih := foldF_len l n
    cases hx : l[n]? with
    | none => rw [foldF, hx]; simp only; omega
    | some x =>
      by_cases h : x.k = 1 ∧ Last l n x
      · rw [fold_put hx h.1 h.2, insK_len]; omega
      · rw [fold_skip hx h]; omega
theorem foldF_mem (l : List Rc) (z : Rc) : ∀ n, z ∈ foldF l n ↔ ∃ i, i < n ∧ l[i]? = some z ∧ z.k = 1 ∧ Last l i z
  | 0 => by simp [foldF]
  | n + 1 => by
    have ih := foldF_mem l z n
    cases hx : l[n]? with
    | none =>
      rw [foldF, hx]; simp only; rw [ih]
      constructor
      · rintro ⟨i, h1, h2⟩; exact ⟨i, by omega, h2⟩
      · rintro ⟨i, h1, h2, h3⟩
        by_cases hi : i = n
        · subst hi; rw [hx] at h2; cases h2
        · exact ⟨i, by omega, h2, h3⟩
    | some x =>
      by_cases h : x.k = 1 ∧ Last l n x
      · rw [fold_put hx h.1 h.2, insK_mem, ih]
        constructor
        · rintro (rfl | ⟨i, h1, h2⟩)
          · exact ⟨n, by omega, hx, h.1, h.2⟩
          · exact ⟨i, by omega, h2⟩
        · rintro ⟨i, h1, h2, h3⟩
          by_cases hi : i = n
          · subst hi; rw [hx] at h2; injection h2 with h2; exact .inl h2.symm
          · exact .inr ⟨i, by omega, h2, h3⟩
      · rw [fold_skip hx h, ih]
        constructor
        · rintro ⟨i, h1, h2⟩; exact ⟨i, by omega, h2⟩
        · rintro ⟨i, h1, h2, h3⟩
          by_cases hi : i = n
          · subst hi; rw [hx] at h2; injection h2 with h2; subst h2; exact absurd h3 h
          · exact ⟨i, by omega, h2, h3⟩
theorem kcmp_self (x : Rc) : kcmp x x = 0 := (cmp_zero _ _).2 rfl
theorem kcmp_swap (x y : Rc) : kcmp y x = - kcmp x y := cmp_swap _ _
theorem kcmp_zero {x y : Rc} : kcmp x y = 0 ↔ x.key = y.key := by
  unfold kcmp
  rw [cmp_zero]
  exact ⟨sb_inj, fun h => by rw [h]⟩
theorem kcmp_trans {x y z : Rc} (h1 : kcmp x y < 0) (h2 : kcmp y z < 0) : kcmp x z < 0 := by
  have h := cmp_trans (sb x.key) (sb y.key) (sb z.key) (Int.le_of_lt h1) (Int.le_of_lt h2)
  rcases Int.lt_or_eq_of_le h with h | h
  · exact h
  · have e := (cmp_zero _ _).1 h
    have h3 := kcmp_swap x y
    unfold kcmp at h1 h2 h3
    rw [← e] at h2
    omega
/-- Rising keys. -/
def Up (l : List Rc) : Prop := l.Pairwise (fun x y => kcmp x y < 0)
theorem insK_up {x : Rc} : ∀ {l : List Rc}, Up l → (∀ y ∈ l, y.key ≠ x.key) → Up (insK x l)
  | [], _, _ => by simp [insK, Up]
  | y :: r, h, hne => by
    obtain ⟨h1, h2⟩ := List.pairwise_cons.1 h
    have hyx : kcmp y x ≠ 0 := fun e => hne y (List.mem_cons_self ..) (kcmp_zero.1 e)
    unfold insK
    split
    next hlt =>
      refine List.pairwise_cons.2 ⟨fun z hz => ?_, insK_up h2 (fun z hz => hne z (List.mem_cons_of_mem _ hz))⟩
      rcases insK_mem.1 hz with rfl | hz
      · exact hlt
      · exact h1 z hz
    next hlt =>
      have hxy : kcmp x y < 0 := by have := kcmp_swap x y; omega
      refine List.pairwise_cons.2 ⟨fun z hz => ?_, h⟩
      rcases List.mem_cons.1 hz with rfl | hz
      · exact hxy
      · exact kcmp_trans hxy (h1 z hz)
theorem foldF_up (l : List Rc) : ∀ n, Up (foldF l n)
  | 0 => List.Pairwise.nil
  | n + 1 => by
    have ih := foldF_up l n
    cases hx : l[n]? with
    | none => rw [foldF, hx]; exact ih
    | some x =>
      by_cases h : x.k = 1 ∧ Last l n x
      · rw [fold_put hx h.1 h.2]
        refine insK_up ih (fun y hy e => ?_)
        obtain ⟨i, h1, h2, h3, h4⟩ := (foldF_mem l y n).1 hy
        exact h4 n x h1 hx e.symm
      · rw [fold_skip hx h]; exact ih
theorem foldW_mem {l : List Rc} {z : Rc} : z ∈ foldW l ↔ ∃ i, l[i]? = some z ∧ z.k = 1 ∧ Last l i z := by
  unfold foldW
  rw [foldF_mem]
  constructor
  · rintro ⟨i, _, h⟩; exact ⟨i, h⟩
  · rintro ⟨i, h1, h2⟩; exact ⟨i, (List.getElem?_eq_some_iff.1 h1).1, h1, h2⟩
theorem foldW_up (l : List Rc) : Up (foldW l) := foldF_up l _
theorem foldW_len (l : List Rc) : (foldW l).length ≤ l.length := foldF_len l _
/-- Two rising lists of the same records are one. -/
theorem up_ext : ∀ {a b : List Rc}, Up a → Up b → (∀ z, z ∈ a ↔ z ∈ b) → a = b
  | [], [], _, _, _ => rfl
  | [], y :: r, _, _, h => by have := (h y).2 (List.mem_cons_self ..); cases this
  | x :: r, [], _, _, h => by have := (h x).1 (List.mem_cons_self ..); cases this
  | x :: r, y :: s, ha, hb, h => by
    obtain ⟨a1, a2⟩ := List.pairwise_cons.1 ha
    obtain ⟨b1, b2⟩ := List.pairwise_cons.1 hb
    have hxy : x = y := by
      rcases List.mem_cons.1 ((h x).1 (List.mem_cons_self ..)) with e | e
      · exact e
      · rcases List.mem_cons.1 ((h y).2 (List.mem_cons_self ..)) with e2 | e2
        · exact e2.symm
        · have h1 := b1 x e
          have h2 := a1 y e2
          have h3 := kcmp_swap x y
          omega
    subst hxy
    congr 1
    refine up_ext a2 b2 (fun z => ⟨fun hz => ?_, fun hz => ?_⟩)
    · rcases List.mem_cons.1 ((h z).1 (List.mem_cons_of_mem _ hz)) with e | e
      · subst e; have := a1 z hz; rw [kcmp_self] at this; omega
      · exact e
    · rcases List.mem_cons.1 ((h z).2 (List.mem_cons_of_mem _ hz)) with e | e
      · subst e; have := b1 z hz; rw [kcmp_self] at this; omega
      · exact e
/-- Where a record is put in. -/
theorem insK_at {x : Rc} : ∀ {l : List Rc} {p : Nat}, p ≤ l.length → (∀ j y, j < p → l[j]? = some y → kcmp y x < 0) → (∀ y, l[p]? = some y → ¬ kcmp y x < 0) → insK x l = l.take p ++ x :: l.drop p
  | [], p, hp, _, _ => by
    obtain rfl : p = 0 := by simpa using hp
    rfl
  | y :: r, 0, _, _, h2 => by
    unfold insK
    rw [if_neg (h2 y rfl)]
    rfl
  | y :: r, p + 1, hp, h1, h2 => by
    unfold insK
    rw [if_pos (h1 0 y (by omega) rfl), insK_at (l := r) (p := p) (by simpa using hp) (fun j z hj hz => h1 (j + 1) z (by omega) (by simpa using hz)) (fun z hz => h2 z (by simpa using hz))]
    rfl
/-- What the map's entries are. -/
theorem lasD_has (l : List Rc) (kl : Lit) : ∀ n, n ≤ l.length → Maps.has (lasD l n) kl = true → ∃ i x, i < n ∧ l[i]? = some x ∧ kl = klOf x.key ∧ (∀ k y, i < k → k < n → l[k]? = some y → y.key ≠ x.key) ∧ ∀ zd, (lasD l n).atKey kl zd = .lit (.int .i64 (i : Int))
  | 0, _, h => by simp [lasD, Maps.has] at h
  | n + 1, hn, h => by
    obtain ⟨z, hz⟩ : ∃ z, l[n]? = some z := ⟨_, List.getElem?_eq_getElem (by omega)⟩
    by_cases he : kl = klOf z.key
    · subst he
      refine ⟨n, z, by omega, hz, rfl, fun k y h1 h2 => by omega, fun zd => ?_⟩
      rw [lasD_step hz, Maps.atKey_put_same (lasD_map l n) (by simp [klOf, WideAt.IsKeyLit])]
    · have h' : Maps.has (lasD l n) kl = true := by
        rw [lasD_step hz] at h
        rw [← h]
        first
          | rw [Maps.has_put_other he]
          | exact (Maps.has_put_other he).symm
      obtain ⟨i, x, h1, h2, rfl, h3, h4⟩ := lasD_has l kl n (by omega) h'
      have hne : z.key ≠ x.key := fun e => he (by rw [e])
      refine ⟨i, x, by omega, h2, rfl, fun k y h5 h6 h7 => ?_, fun zd => ?_⟩
      · by_cases hk : k = n
        · subst hk; rw [hz] at h7; injection h7 with h7; subst h7; exact hne
        · exact h3 k y h5 (by omega) h7
      · rw [lasD_step hz, Maps.atKey_put_other he, h4]
theorem has_lasD {l : List Rc} {x : Rc} : ∀ n, n ≤ l.length → (∃ i, i < n ∧ l[i]? = some x) → Maps.has (lasD l n) (klOf x.key) = true
  | 0, _, ⟨i, h, _⟩ => by omega
  | n + 1, hn, ⟨i, h1, h2⟩ => by
    obtain ⟨z, hz⟩ : ∃ z, l[n]? = some z := ⟨_, List.getElem?_eq_getElem (by omega)⟩
    by_cases he : klOf x.key = klOf z.key
    · rw [lasD_step hz, he]
      exact Maps.has_put_same (lasD_map l n) (show WideAt.IsKeyLit (klOf z.key) by simp [klOf, WideAt.IsKeyLit]) _
    · have hin : i ≠ n := fun e => by subst e; rw [hz] at h2; injection h2 with h2; subst h2; exact he rfl
      rw [lasD_step hz, Maps.has_put_other he]
      exact has_lasD n (by omega) ⟨i, by omega, h2⟩
end Go.Proofs.Ytjipebedibjoiaa

/- Collecting over a map: what has been met so far. -/
namespace Go.Proofs.Ytjipebedibjoiaa
open Go Go.RowKit
set_option linter.unusedVariables false
set_option linter.unusedSimpArgs false

structure Col (l : List Rc) (n : Nat) (left : Lit → Bool) (cnt : Nat) (acc : List Rc) : Prop where
  c1 : ∀ kl, left kl = true → Maps.has (lasD l n) kl = true
  c2 : ∀ x ∈ acc, left (klOf x.key) = false ∧ ∃ i, l[i]? = some x ∧ x.k = 1 ∧ Last l i x
  c3 : ∀ i x, l[i]? = some x → x.k = 1 → Last l i x → left (klOf x.key) = true ∨ x ∈ acc
  c4 : acc.Pairwise (fun x y => x.key ≠ y.key)
  c5 : acc.length + cnt ≤ n
theorem klOf_key (s : ByteArray) : WideAt.IsKeyLit (klOf s) := by simp [klOf, WideAt.IsKeyLit]
theorem Col.start {l : List Rc} {n cnt : Nat} (hn : l.length = n) (hc : cnt ≤ n) : Col l n (Maps.has (lasD l n)) cnt [] :=
  ⟨fun _ h => h, (fun x h => by cases h), fun i x h _ _ => .inl (has_lasD n (by omega) ⟨i, by rw [← hn]; exact (List.getElem?_eq_some_iff.1 h).1, h⟩), List.Pairwise.nil, by simpa using hc⟩
theorem Col.step {l : List Rc} {n cnt cnt' : Nat} {left : Lit → Bool} {acc : List Rc} (h : Col l n left cnt acc) (hn : l.length = n) {kl : Lit} (hk : left kl = true) (hc : cnt' < cnt) :
    ∃ i x, i < n ∧ l[i]? = some x ∧ (∀ zd, (lasD l n).atKey kl zd = .lit (.int .i64 (i : Int))) ∧
      (x.k = 1 → Col l n (fun z => left z && !z.sameKey kl) cnt' (acc ++ [x])) ∧ (x.k ≠ 1 → Col l n (fun z => left z && !z.sameKey kl) cnt' acc) := by
  obtain ⟨i, x, h1, h2, rfl, h3, h4⟩ := lasD_has l kl n (by omega) (h.c1 _ hk)
  have hlast : Last l i x := fun k y a b => h3 k y a (by rw [← hn]; exact (List.getElem?_eq_some_iff.1 b).1) b
  have h5 := h.c5
  have e1 : ∀ kl', (left kl' && !kl'.sameKey (klOf x.key)) = true → Maps.has (lasD l n) kl' = true := fun kl' h' => by
    simp only [Bool.and_eq_true] at h'
    exact h.c1 _ h'.1
  have e2 : ∀ y ∈ acc, (left (klOf y.key) && !(klOf y.key).sameKey (klOf x.key)) = false ∧ ∃ i, l[i]? = some y ∧ y.k = 1 ∧ Last l i y := fun y hy => by
    have := h.c2 y hy
    exact ⟨by simp [this.1], this.2⟩
  have e3 : ∀ j y, l[j]? = some y → y.k = 1 → Last l j y → ((left (klOf y.key) && !(klOf y.key).sameKey (klOf x.key)) = true ∨ y ∈ acc) ∨ y = x := fun j y a b c => by
    rcases h.c3 j y a b c with d | d
    · by_cases he : klOf y.key = klOf x.key
      · right
        have hk : y.key = x.key := klOf_inj he
        rcases Nat.lt_trichotomy i j with g | g | g
        · exact absurd hk (hlast j y g a)
        · subst g; rw [h2] at a; injection a with a; exact a.symm
        · exact absurd hk.symm (c i x g h2)
      · left; left
        rw [d, Maps.sameKey_ne he]
        rfl
    · exact .inl (.inr d)
  refine ⟨i, x, h1, h2, h4, fun hx => ⟨e1, ?_, ?_, ?_, by simp; omega⟩, fun hx => ⟨e1, e2, ?_, h.c4, by omega⟩⟩
  · intro y hy
    rcases List.mem_append.1 hy with hy | hy
    · exact e2 y hy
    · simp only [List.mem_singleton] at hy
      subst hy
      exact ⟨by rw [WideAt.sameKey_self (klOf_key _)]; simp, i, h2, hx, hlast⟩
  · intro j y a b c
    rcases e3 j y a b c with (d | d) | d
    · exact .inl d
    · exact .inr (List.mem_append_left _ d)
    · exact .inr (by rw [d]; simp)
  · refine List.pairwise_append.2 ⟨h.c4, List.pairwise_singleton _ _, fun y hy z hz => ?_⟩
    simp only [List.mem_singleton] at hz
    subst hz
    intro e
    have := (h.c2 y hy).1
    rw [e, hk] at this
    cases this
  · intro j y a b c
    rcases e3 j y a b c with d | d
    · exact d
    · exact absurd (d ▸ b) hx
theorem Col.fin {l : List Rc} {n cnt : Nat} {left : Lit → Bool} {acc acc' : List Rc} (h : Col l n left cnt acc) (h0 : ∀ kl, left kl = false) (hp : acc'.Perm acc) (hs : acc'.Pairwise (fun x y => ¬ kcmp y x < 0)) : acc' = foldW l := by
  refine up_ext ?_ (foldW_up l) (fun z => ?_)
  · have h4 : acc'.Pairwise (fun x y => x.key ≠ y.key) := (hp.pairwise_iff (fun {_ _} hne => Ne.symm hne)).2 h.c4
    refine (hs.and h4).imp (fun {x y} ⟨a, b⟩ => ?_)
    have := kcmp_swap x y
    have hz : kcmp x y ≠ 0 := fun e => b (kcmp_zero.1 e)
    omega
  · rw [hp.mem_iff, foldW_mem]
    constructor
    · exact fun hz => (h.c2 z hz).2
    · rintro ⟨i, a, b, c⟩
      rcases h.c3 i z a b c with d | d
      · rw [h0] at d; cases d
      · exact d
end Go.Proofs.Ytjipebedibjoiaa

/- sort.Slice at this program: the laying of the library's contract (printed by laytext.py, gen_reclay.py). -/
namespace Go.Proofs.Ytjipebedibjoiaa
open Go.Proofs Go.Shelf
set_option linter.unusedVariables false

def sl6_ren : Go.Shelf.Ren := ⟨fun | 6 => 61 | 10 => 95 | 11 => 96 | 12 => 97 | 13 => 98 | 14 => 99 | 24 => 130 | 25 => 131 | 26 => 132 | 27 => 133 | 28 => 134 | 29 => 135 | 30 => 136 | 31 => 137 | 32 => 138 | 33 => 139 | 34 => 150 | 35 => 151 | 36 => 152 | 37 => 153 | 38 => 154 | 39 => 159 | n => n, fun | 20 => 20 | 26 => 82 | 35 => 114 | 0 => 0 | 37 => 116 | 3 => 3 | 41 => 90 | 44 => 121 | 49 => 67 | 51 => 86 | 4 => 4 | 54 => 145 | 53 => 144 | 58 => 149 | 5 => 5 | 9 => 9 | 60 => 160 | 64 => 163 | 66 => 174 | 67 => 152 | 17 => 17 | 32 => 111 | 33 => 112 | 82 => 191 | 12 => 12 | 75 => 184 | 76 => 185 | 77 => 186 | 78 => 187 | 79 => 188 | 80 => 189 | n => n, fun | n => n⟩
theorem sl6 : Go.Proofs.LaysGg.n6 Try.prog sl6_ren := {
  mixed := by kernel_rfl
  f6 := Try.func61.trans (congrArg some (by kernel_rfl))
  f10 := Try.func95.trans (congrArg some (by kernel_rfl))
  f11 := Try.func96.trans (congrArg some (by kernel_rfl))
  f12 := Try.func97.trans (congrArg some (by kernel_rfl))
  f13 := Try.func98.trans (congrArg some (by kernel_rfl))
  f14 := Try.func99.trans (congrArg some (by kernel_rfl))
  f24 := Try.func130.trans (congrArg some (by kernel_rfl))
  f25 := Try.func131.trans (congrArg some (by kernel_rfl))
  f26 := Try.func132.trans (congrArg some (by kernel_rfl))
  f27 := Try.func133.trans (congrArg some (by kernel_rfl))
  f28 := Try.func134.trans (congrArg some (by kernel_rfl))
  f29 := Try.func135.trans (congrArg some (by kernel_rfl))
  f30 := Try.func136.trans (congrArg some (by kernel_rfl))
  f31 := Try.func137.trans (congrArg some (by kernel_rfl))
  f32 := Try.func138.trans (congrArg some (by kernel_rfl))
  f33 := Try.func139.trans (congrArg some (by kernel_rfl))
  f34 := Try.func150.trans (congrArg some (by kernel_rfl))
  f35 := Try.func151.trans (congrArg some (by kernel_rfl))
  f36 := Try.func152.trans (congrArg some (by kernel_rfl))
  f37 := Try.func153.trans (congrArg some (by kernel_rfl))
  f38 := Try.func154.trans (congrArg some (by kernel_rfl))
  f39 := Try.func159.trans (congrArg some (by kernel_rfl))
  t0 := Try.underlying0
  a0 := Try.isAgg0
  z0 := Try.sizeOf0
  v0 := Try.zeroValue0
  i0 := by kernel_rfl
  t3 := Try.underlying3
  a3 := Try.isAgg3
  z3 := Try.sizeOf3
  v3 := Try.zeroValue3
  i3 := by kernel_rfl
  t4 := Try.underlying4
  a4 := Try.isAgg4
  z4 := Try.sizeOf4
  v4 := Try.zeroValue4
  i4 := by kernel_rfl
  t5 := Try.underlying5
  a5 := Try.isAgg5
  z5 := Try.sizeOf5
  v5 := Try.zeroValue5
  i5 := by kernel_rfl
  t9 := Try.underlying9
  a9 := Try.isAgg9
  z9 := Try.sizeOf9
  v9 := Try.zeroValue9
  i9 := by kernel_rfl
  t12 := Try.underlying12
  a12 := Try.isAgg12
  z12 := Try.sizeOf12
  v12 := Try.zeroValue12
  i12 := by kernel_rfl
  t17 := Try.underlying17
  a17 := Try.isAgg17
  z17 := Try.sizeOf17
  v17 := Try.zeroValue17
  i17 := by kernel_rfl
  t20 := Try.underlying20
  a20 := Try.isAgg20
  z20 := Try.sizeOf20
  v20 := Try.zeroValue20
  i20 := by kernel_rfl
  t26 := Try.underlying82
  a26 := Try.isAgg82
  z26 := Try.sizeOf82
  v26 := Try.zeroValue82
  i26 := by kernel_rfl
  t32 := Try.underlying111
  a32 := Try.isAgg111
  z32 := Try.sizeOf111
  v32 := Try.zeroValue111
  i32 := by kernel_rfl
  t33 := Try.underlying112
  a33 := Try.isAgg112
  z33 := Try.sizeOf112
  v33 := Try.zeroValue112
  i33 := by kernel_rfl
  t35 := Try.underlying114
  a35 := Try.isAgg114
  z35 := Try.sizeOf114
  v35 := Try.zeroValue114
  i35 := by kernel_rfl
  t37 := Try.underlying116
  a37 := Try.isAgg116
  z37 := Try.sizeOf116
  v37 := Try.zeroValue116
  i37 := by kernel_rfl
  t41 := Try.underlying90
  a41 := Try.isAgg90
  z41 := Try.sizeOf90
  v41 := Try.zeroValue90
  i41 := by kernel_rfl
  t44 := Try.underlying121
  a44 := Try.isAgg121
  z44 := Try.sizeOf121
  v44 := Try.zeroValue121
  i44 := by kernel_rfl
  t49 := Try.underlying67
  a49 := Try.isAgg67
  z49 := Try.sizeOf67
  v49 := Try.zeroValue67
  i49 := by kernel_rfl
  t51 := Try.underlying86
  a51 := Try.isAgg86
  z51 := Try.sizeOf86
  v51 := Try.zeroValue86
  i51 := by kernel_rfl
  t53 := Try.underlying144
  a53 := Try.isAgg144
  z53 := Try.sizeOf144
  v53 := Try.zeroValue144
  i53 := by kernel_rfl
  t54 := Try.underlying145
  a54 := Try.isAgg145
  z54 := Try.sizeOf145
  v54 := Try.zeroValue145
  i54 := by kernel_rfl
  t58 := Try.underlying149
  a58 := Try.isAgg149
  z58 := Try.sizeOf149
  v58 := Try.zeroValue149
  i58 := by kernel_rfl
  t60 := Try.underlying160
  a60 := Try.isAgg160
  z60 := Try.sizeOf160
  v60 := Try.zeroValue160
  i60 := by kernel_rfl
  t64 := Try.underlying163
  a64 := Try.isAgg163
  z64 := Try.sizeOf163
  v64 := Try.zeroValue163
  i64 := by kernel_rfl
  t66 := Try.underlying174
  a66 := Try.isAgg174
  z66 := Try.sizeOf174
  v66 := Try.zeroValue174
  i66 := by kernel_rfl
  t67 := Try.underlying152
  a67 := Try.isAgg152
  z67 := Try.sizeOf152
  v67 := Try.zeroValue152
  i67 := by kernel_rfl
  t75 := Try.underlying184
  a75 := Try.isAgg184
  z75 := Try.sizeOf184
  v75 := Try.zeroValue184
  i75 := by kernel_rfl
  t76 := Try.underlying185
  a76 := Try.isAgg185
  z76 := Try.sizeOf185
  v76 := Try.zeroValue185
  i76 := by kernel_rfl
  t77 := Try.underlying186
  a77 := Try.isAgg186
  z77 := Try.sizeOf186
  v77 := Try.zeroValue186
  i77 := by kernel_rfl
  t78 := Try.underlying187
  a78 := Try.isAgg187
  z78 := Try.sizeOf187
  v78 := Try.zeroValue187
  i78 := by kernel_rfl
  t79 := Try.underlying188
  a79 := Try.isAgg188
  z79 := Try.sizeOf188
  v79 := Try.zeroValue188
  i79 := by kernel_rfl
  t80 := Try.underlying189
  a80 := Try.isAgg189
  z80 := Try.sizeOf189
  v80 := Try.zeroValue189
  i80 := by kernel_rfl
  t82 := Try.underlying191
  a82 := Try.isAgg191
  z82 := Try.sizeOf191
  v82 := Try.zeroValue191
  i82 := by kernel_rfl }
end Go.Proofs.Ytjipebedibjoiaa

/- sort.Slice over a row of records, by their keys. -/
namespace Go.Proofs.Ytjipebedibjoiaa
open Go Go.RowKit Go.Proofs
set_option linter.unusedVariables false
set_option linter.unusedSimpArgs false

/-- A record whose key is no longer than a string can be. -/
abbrev RcS := {x : Rc // x.key.size ≤ 140737488355328}
instance : Inhabited RcS := ⟨⟨⟨0, 0, 0, 0, 0, ⟨#[]⟩, ⟨#[]⟩⟩, by decide⟩⟩
def encS (x : RcS) : List Value := x.val.cells
def ltS (x y : RcS) : Bool := decide (kcmp x.val y.val < 0)
theorem swo_ltS : Sort.SWO ltS where
  irrefl := fun x => by simp [ltS, kcmp_self]
  trans := fun x y z h1 h2 => by
    simp only [ltS, decide_eq_true_eq] at *
    exact kcmp_trans h1 h2
  ntrans := fun x y z h1 h2 => by
    simp only [ltS, decide_eq_false_iff_not] at *
    intro h
    have a := kcmp_swap x.val y.val
    have b := kcmp_swap y.val z.val
    have hyx : cmp (sb y.val.key) (sb x.val.key) ≤ 0 := by unfold kcmp at *; omega
    have hzy : cmp (sb z.val.key) (sb y.val.key) ≤ 0 := by unfold kcmp at *; omega
    have := cmp_trans _ _ _ hzy hyx
    have c := kcmp_swap x.val z.val
    unfold kcmp at *
    omega
set_option maxHeartbeats 2000000 in
set_option maxRecDepth 100000 in
/-- Fold's own closure. -/
theorem foldless_is (blk c Bs size : Nat) (W : World) (G : Nat → ByteArray) (hG : ∀ t, (G t).size ≤ 140737488355328) (hs : W.cell? ⟨Bs, 0, none⟩ = some (.slice (some ⟨blk, 0, none⟩) size c))
    (hc : ∀ t, t < size → W.cell? ⟨blk, t * 7 + 5, none⟩ = some (.string (G t))) (i j : Nat) (hi : i < size) (hj : j < size) (hsz : size ≤ 1099511627776) :
    Calls Try.prog 62 #[.int .i64 i, .int .i64 j, .pointer (some ⟨Bs, 0, none⟩)] W fun e w' => e = .returned (.bool (decide (cmp (sb (G i)) (sb (G j)) < 0))) ∧ ∃ q, w' = W.drewN q := by
  have ci := hc i hi
  have cj := hc j hj
  obtain ⟨a, ha⟩ : ∃ a, a = G i := ⟨_, rfl⟩
  obtain ⟨b, hb⟩ : ∃ b, b = G j := ⟨_, rfl⟩
  have la := hG i
  have lb := hG j
  rw [← ha] at ci la ⊢
  rw [← hb] at cj lb ⊢
  have PC := Lib.hid (fun W => compare_any a b W la lb)
  have i0 : (0 : Int) ≤ (i : Int) := by omega
  have i1 : (i : Int) < (size : Int) := by omega
  have j0 : (0 : Int) ≤ (j : Int) := by omega
  have j1 : (j : Int) < (size : Int) := by omega
  clear hc hG ha hb la lb
  go_enter Try.func62, Try.ntmps62
  go_wp2
  go_quiet (exact Calls.quiet_of (PC.out _))
  go_wp2
  go_ret
  exact ⟨rfl, nq, rfl⟩
theorem onCells_cells (f : Array Value → Array Value) (c : Array Value) (e : TypeId) (fr : Nat × Nat) : Sort.onCells f (.cells c e fr) = .cells (f c) e fr := rfl
/-- The row written anew. -/
theorem own_putRow {w : World} {base g n cap k : Nat} {e : TypeId} {xs : List Value} (h : w.ownsRow base e k (.slice (some ⟨g, 0, none⟩) n cap) n xs) (F : Array Value) (hF : F.size = n * k) (q : Nat) :
    (Sort.putRow id (Sort.ahead w q) g 0 F).ownsRow base e k (.slice (some ⟨g, 0, none⟩) n cap) n F.toList ∧ w.grownBy (Sort.putRow id (Sort.ahead w q) g 0 F) (some g) := by
  rcases h.2 with ⟨h', _⟩ | ⟨g', cap', cur, h', hb, hg, hnc, hcm, hcs, htake⟩
  · simp at h'
  · simp only [Value.slice.injEq, Option.some.injEq, Addr.mk.injEq, and_true, true_and] at h'
    obtain ⟨rfl, rfl⟩ := h'
    have hnk : n * k ≤ cap * k := Nat.mul_le_mul_right k hnc
    refine ⟨⟨by simpa using hF, .inr ⟨g, cap, Sort.putCells id 0 F cur, rfl, hb, ?_, hnc, hcm, ?_, ?_⟩⟩, ⟨rfl, rfl, rfl, ?_, ?_⟩⟩
    · simp [Sort.putRow, Sort.mapBlock, Sort.ahead, Array.getElem?_modify, hg, onCells_cells]
    · simpa [Sort.putCells] using hcs
    · apply List.ext_getElem?
      intro j
      by_cases hj : j < n * k
      · rw [List.getElem?_take_of_lt hj]
        simp [Sort.putCells, hF, hj, show j < cur.size by omega, show j < F.size by omega]
      · rw [List.getElem?_eq_none (by simp; omega), List.getElem?_eq_none (by simp; omega)]
    · simp [Sort.putRow, Sort.mapBlock, Sort.ahead]
    · intro j hj hne
      have hgj : ¬ g = j := fun e => hne (by rw [e])
      simp [Sort.putRow, Sort.mapBlock, Sort.ahead, Array.getElem?_modify, hgj]
theorem grow_grownBy (w : World) (os : Array Obj) (r : Option Nat) : w.grownBy (Sort.grow w os) r := by
  refine ⟨rfl, rfl, rfl, by simp [Sort.grow], fun j hj _ => ?_⟩
  simp [Sort.grow, Array.getElem?_append_left hj]
theorem flatK_list (d : Array RcS) : (Sort.flatK encS 7 d).toList = rcCells (d.toList.map Subtype.val) := by
  apply List.ext_getElem?
  intro j
  by_cases hj : j < d.size * 7
  · obtain ⟨q, r, hr, rfl⟩ : ∃ q r, r < 7 ∧ j = q * 7 + r := ⟨j / 7, j % 7, Nat.mod_lt _ (by omega), by omega⟩
    have hq : q < d.size := by omega
    have hx : (d.toList.map Subtype.val)[q]? = some d[q].val := by simp [hq]
    rw [rcCells_get hx r hr]
    have hd : (q * 7 + r) / 7 = q := by omega
    have hm : (q * 7 + r) % 7 = r := by omega
    have hlen : (d[q].val.cells).length = 7 := rfl
    simp [Sort.flatK, hj, hd, hm, encS, getElem!_pos d q hq, hlen, hr]
  · rw [List.getElem?_eq_none (by simp; omega), List.getElem?_eq_none (by rw [rcCells_length]; simp; omega)]
noncomputable def sliceT : TypeInfo := (Try.prog.info? 22).get (by kernel_rfl)
noncomputable def sliceE : TypeInfo := (Try.prog.info? 31).get (by kernel_rfl)
theorem sliceK (n : Nat) (h2 : 2 ≤ n) : Lib.swapperK n sliceE 25 = 9 := by
  have a : sliceE.hasPointers = true := by kernel_rfl
  have b : sliceE.bytes = 72 := by kernel_rfl
  have c : (n == 0) = false := by simp; omega
  have d : (n == 1) = false := by simp; omega
  simp [Lib.swapperK, a, b, c, d]
/-- Behind sort.Slice: the row's records in the order of their keys. -/
def SortPost (w : World) (base : Nat) (v : Value) (n : Nat) (l : List Rc) (e : Ending) (w' : World) : Prop :=
  e = .returned (.tuple #[]) ∧ ∃ l' : List Rc, l'.Perm l ∧ l'.Pairwise (fun x y => ¬ kcmp y x < 0) ∧ w'.ownsRow base 31 7 v n (rcCells l') ∧ w.grownBy w' v.ownBlock
theorem subS : ∀ (l : List Rc), (∀ x ∈ l, x.key.size ≤ 140737488355328) → ∃ d : List RcS, d.map Subtype.val = l
  | [], _ => ⟨[], rfl⟩
  | x :: r, h => by
    obtain ⟨d, hd⟩ := subS r (fun y hy => h y (List.mem_cons_of_mem _ hy))
    exact ⟨⟨x, h x (List.mem_cons_self ..)⟩ :: d, by rw [List.map_cons, hd]⟩
theorem sort_few (base c n : Nat) (A : Option Addr) (l : List Rc) (lf : Fn) (la lb : Array Value) (w : World) (ho : w.ownsRow base 31 7 (.slice A n c) n (rcCells l)) (hl : l.length = n) (h1 : n ≤ 1) :
    Calls Try.prog 61 #[.iface 22 (.slice A n c), .func lf la lb] w (SortPost w base (.slice A n c) n l) := by
  have hsw : Lib.swapperK n sliceE 25 = 1 ∨ Lib.swapperK n sliceE 25 = 2 := by
    unfold Lib.swapperK
    rcases (show n = 0 ∨ n = 1 by omega) with rfl | rfl
    · exact .inl rfl
    · exact .inr rfl
  have fin : ∀ e w', (e = .returned (.tuple #[]) ∧ ∃ os, w' = Sort.grow w os) → SortPost w base (.slice A n c) n l e w' := by
    rintro e w' ⟨rfl, os, rfl⟩
    refine ⟨rfl, l, List.Perm.refl _, ?_, ?_, grow_grownBy w os _⟩
    · match l, hl with
      | [], _ => exact List.Pairwise.nil
      | [x], _ => exact List.pairwise_singleton _ _
      | x :: y :: r, h => simp at h; omega
    · exact ho.kept (grow_grownBy w os none) (by cases A <;> simp [Value.ownBlock])
  rcases hsw with h | h
  · exact (Any.sort_Slice_tiny sl6 22 31 sliceT sliceE (by kernel_rfl) (by kernel_rfl) (by kernel_rfl) (by kernel_rfl) 25 (fun _ => by kernel_rfl) A n c h1 121 (by rw [h]; kernel_rfl) lf la lb w).mono fin
  · exact (Any.sort_Slice_tiny sl6 22 31 sliceT sliceE (by kernel_rfl) (by kernel_rfl) (by kernel_rfl) (by kernel_rfl) 25 (fun _ => by kernel_rfl) A n c h1 122 (by rw [h]; kernel_rfl) lf la lb w).mono fin
theorem sort_many (base Bs g c n : Nat) (l : List Rc) (w : World) (ho : w.ownsRow base 31 7 (.slice (some ⟨g, 0, none⟩) n c) n (rcCells l)) (hl : l.length = n) (h2 : 2 ≤ n) (hn : n ≤ 1099511627776)
    (hk : ∀ x ∈ l, x.key.size ≤ 140737488355328) (hBs : w.cell? ⟨Bs, 0, none⟩ = some (.slice (some ⟨g, 0, none⟩) n c)) (hB1 : Bs < w.heap.size) (hB2 : Bs ≠ g) :
    Calls Try.prog 61 #[.iface 22 (.slice (some ⟨g, 0, none⟩) n c), .func (.func 62) #[] #[.pointer (some ⟨Bs, 0, none⟩)]] w (SortPost w base (.slice (some ⟨g, 0, none⟩) n c) n l) := by
  obtain ⟨dl, hdl⟩ := subS l hk
  obtain ⟨d, hd⟩ : ∃ d : Array RcS, d = dl.toArray := ⟨_, rfl⟩
  have hds : d.size = n := by rw [hd, ← hl, ← hdl]; simp
  have hdv : d.toList.map Subtype.val = l := by rw [hd]; exact hdl
  have hgl : g < w.heap.size := (ho.lt g rfl).2
  have hfl := flatK_list d
  rw [hdv] at hfl
  have hH : Sort.HoldsK encS 7 w g 0 d := by
    intro j hj
    have hj' : j < n * 7 := by rw [Sort.size_flatK, hds] at hj; exact hj
    refine ⟨?_, by rw [Nat.zero_add]; exact ho.frozenAt j⟩
    rw [Nat.zero_add, ho.cellAt j hj', ← hfl, getElem!_pos _ j hj]
    simp [hj]
  have hless : LessReadsK Try.prog 62 #[.pointer (some ⟨Bs, 0, none⟩)] encS 7 ltS g 0 d.size w := by
    intro m os dk hs i j hi hj
    have e : sortWorldK encS 7 w g 0 m dk os = Sort.putRowK encS 7 (Sort.grow (Sort.ahead w m) os) g 0 dk := by
      unfold sortWorldK; rw [Sort.putRowK_grow _ _ (Sort.ahead w m) _ g 0 _ hgl]
    have hHg : Sort.HoldsK encS 7 (Sort.grow (Sort.ahead w m) os) g 0 d := Sort.holdsK_grow _ _ _ _ g 0 d hgl (Sort.holdsK_ahead _ _ _ _ _ _ _ hH)
    have := foldless_is g c Bs d.size (sortWorldK encS 7 w g 0 m dk os) (fun t => dk[t]!.val.key) (fun t => dk[t]!.property) ?_ (fun t ht => ?_) i j hi hj (by omega)
    · exact this
    · rw [e, Sort.cell?_putRowK_other _ _ _ g 0 dk _ (by exact hB2), Sort.cell?_grow _ _ _ (by exact hB1), hds]
      exact hBs
    · rw [e]
      have hc := ((Sort.holdsK_putRowK _ _ _ g 0 d dk hHg hs).cell (i := t) (c := 5) (by omega) (by omega)).1
      rw [Nat.zero_add] at hc
      exact hc
  have hS := Any.sort_Slice_cells_sorted sl6 22 31 sliceT sliceE (by kernel_rfl) (by kernel_rfl) (by kernel_rfl) (by kernel_rfl) 25 (fun _ => by kernel_rfl) encS 7 (fun _ => rfl) (by kernel_rfl) (fun _ => by kernel_rfl)
    (fun x v hv => by simp only [encS, Rc.cells, List.mem_cons, List.not_mem_nil, or_false] at hv; rcases hv with rfl | rfl | rfl | rfl | rfl | rfl | rfl <;> rfl) ltS swo_ltS 62 #[.pointer (some ⟨Bs, 0, none⟩)]
    (enters_of Try.func62 (by kernel_rfl) rfl) g 0 c d (by omega) (by omega) 129 (by rw [sliceK _ (by omega)]; kernel_rfl) false
    (fun args W => run_callFunc_extern Try.func129 (by kernel_rfl) (by kernel_rfl) (by kernel_rfl) (e := Extern.ReflectliteSwapper.swap false) (by kernel_rfl) args W) w hless hH hgl
  rw [hds] at hS
  refine Calls.mono hS ?_
  rintro e w' ⟨rfl, d', m, os, hp, hso, rfl⟩
  obtain ⟨hp1, _, hp3⟩ := hp
  have hs' : d'.size = n := hp1.trans hds
  have e1 : d'.extract 0 n = d' := by rw [← hs']; simp
  have e2 : d.extract 0 n = d := by rw [← hds]; simp
  rw [e1, e2] at hp3
  have ho' := own_putRow ho (Sort.flatK encS 7 d') (by rw [Sort.size_flatK, hs']) m
  rw [flatK_list] at ho'
  refine ⟨rfl, d'.toList.map Subtype.val, hdv ▸ hp3.map _, ?_, ?_, ?_⟩
  · rw [List.pairwise_iff_getElem]
    intro i j hi hj hij
    have hi' : i < d'.size := by simpa using hi
    have hj' : j < d'.size := by simpa using hj
    have := hso i j (Nat.zero_le _) hij (by omega)
    rw [getElem!_pos d' i hi', getElem!_pos d' j hj'] at this
    simpa [ltS] using this
  · exact ho'.1.kept (grow_grownBy _ os none) (by simp [Value.ownBlock])
  · exact grown_trans ho'.2 (grow_grownBy _ os _)
end Go.Proofs.Ytjipebedibjoiaa

/- record.Fold. -/
namespace Go.Proofs.Ytjipebedibjoiaa
open Go Go.RowKit Go.Maps Go.WideMaps
set_option linter.unusedVariables false
set_option linter.unusedSimpArgs false

def FoldPost (w : World) (q : List Rc) (e : Ending) (w' : World) : Prop :=
  ∃ A c, e = .returned (.slice A q.length c) ∧ w'.ownsRow w.heap.size 31 7 (.slice A q.length c) q.length (rcCells q) ∧ Below w.heap.size w w'
set_option maxRecDepth 100000 in
/-- One record behind a row of the call's own, as a step of a region that draws. -/
theorem step_pushR (w : World) {ops : Array Oper} {o : Oper} {a : Act} {K : Act → World → Prop} {Q : Exit → Act → World → Prop} {E : Prop} (hgd : o.guard = none) (s x : Operand)
    (ho : o.op = .call { callee := .builtin .append, args := #[s, x], argTypes := #[22, 22] })
    (base : Nat) (v : Value) (n : Nat) (xs : List Value) (hs : a.eval s = v) (hown : w.ownsRow base 31 7 v n xs) (y : Rc) (q : Nat) (hq : q = w.heap.size)
    (hx : a.eval x = .slice (some ⟨q, 0, none⟩) 1 1)
    (hbytes : (n + 1) * 72 ≤ 140737488355328) (hbase : base ≤ w.heap.size)
    (h : ∀ v' w', w'.ownsRow base 31 7 v' (n + 1) (xs ++ y.cells) → w.grownBy w' v.ownBlock → K (a.put o.dst v') w') :
    if Region.wanted o (yielded ops a.tmps) = true then Oper.wp Try.prog o a (w.alloc (.cells #[.int .i64 y.k, .int .i64 y.o, .int .i64 y.t, .int .i64 y.p, .int .i64 y.s, .string y.key, .string y.val] 31)) K Q else E := by
  subst hq
  have hw : Region.wanted o (yielded ops a.tmps) = true := by simp [Region.wanted, hgd]
  rw [if_pos hw]
  obtain ⟨i0, hi, hz0, hz1, hz2⟩ := info_parts infoRec
  have hr : Rd (w.alloc (.cells #[.int .i64 y.k, .int .i64 y.o, .int .i64 y.t, .int .i64 y.p, .int .i64 y.s, .string y.key, .string y.val] 31)) (some ⟨w.heap.size, 0, none⟩) y.cells := rd_lit w _ _
  obtain ⟨v', w', hrun, h2, h3, _, h5⟩ := run_append_own_at (P := Try.prog) (w.alloc (.cells #[.int .i64 y.k, .int .i64 y.o, .int .i64 y.t, .int .i64 y.p, .int .i64 y.s, .string y.key, .string y.val] 31)) base 22 o.type 31 i0 _ 7 72 Try.underlying22 hi hz0 hz1 hz2 rfl (by omega) v n xs (hown.alloc _) ⟨w.heap.size, 0, none⟩ 1 1 y.cells rfl
    (by
      intro j u hj
      obtain ⟨g, off, e, _, hc⟩ := hr (by simp [Rc.cells])
      injection e with e
      injection e with e1 e2
      subst e1 e2
      have h1 := hc j u hj
      rw [Nat.zero_add] at h1
      have e3 : (⟨w.heap.size, 0, none⟩ : Addr).add j = ⟨w.heap.size, j, none⟩ := by
        unfold Addr.add
        split
        next h0 => rw [show j = 0 from h0]
        next h0 => simp
      rw [e3]
      exact h1)
    (fun u hu => rcCells_one [y] u (by simpa [rcCells] using hu)) (by unfold maxLen; omega) hbytes (by simp; omega)
  unfold Oper.wp execOp
  simp only [ho, resolve, invoke, builtin, Sem.run_bind, Sem.run_pure, Result.andThen_ok, List.map_toArray, List.map_cons, List.map_nil, hs, hx, hrun]
  exact h v' w' h2 (grown_trans (World.grownBy_alloc w _ _) h3)
structure FoldS (w wr : World) (Bm r RB n : Nat) (l : List Rc) (left : Lit → Bool) (cnt : Nat) (acc : List Rc) (v : Value) : Prop where
  bx : wr.cell? ⟨w.heap.size, 0, none⟩ = some v
  fx : wr.frozen? ⟨w.heap.size, 0, none⟩ = false
  rg : wr.ranges Try.prog 9 (plainElem Try.prog 3) Bm r n (lasD l n) left cnt
  ow : wr.ownsRow RB 31 7 v acc.length (rcCells acc)
  be : Below w.heap.size w wr
  b1 : w.heap.size < Bm
  b2 : Bm < r
  b3 : r < RB
  b4 : RB ≤ wr.heap.size
section
variable {w wr w2 w' : World} {Bm r RB n : Nat} {l : List Rc} {left left' : Lit → Bool} {cnt cnt' : Nat} {acc : List Rc} {v v' : Value}
theorem FoldS.next (h : FoldS w wr Bm r RB n l left cnt acc v) (hrg : w2.ranges Try.prog 9 (plainElem Try.prog 3) Bm r n (lasD l n) left' cnt') (hg : wr.grownBy w2 (some r)) : FoldS w w2 Bm r RB n l left' cnt' acc v := by
  have h1 := h.b1
  have h2 := h.b2
  have h3 := h.b3
  have h4 := h.b4
  refine ⟨hg.cell h.bx (by intro e; injection e with e; have e' : w.heap.size = r := e; omega), (World.frozen?_of_block (hg.block w.heap.size (by omega) (by simp; omega))).trans h.fx, hrg, ?_, ?_, h1, h2, h3, Nat.le_trans h4 hg.size⟩
  · exact own_keepG h.ow hg (fun q hq e => by injection hq with hq; subst hq; have := (h.ow.lt _ e).1; omega)
  · exact h.be.trans (below_of_grown hg h.be.size (fun k hk => by injection hk with hk; omega))
theorem FoldS.drawn (h : FoldS w wr Bm r RB n l left cnt acc v) (q : Nat) : FoldS w (wr.drewN q) Bm r RB n l left cnt acc v :=
  ⟨h.bx, h.fx, h.rg.kept (row := none) ⟨rfl, rfl, rfl, Nat.le_refl _, fun _ _ _ => rfl⟩ (by simp) (by simp), own_below h.ow (below_drewN (Below.refl _ _) q), below_drewN h.be q, h.b1, h.b2, h.b3, h.b4⟩
theorem FoldS.push {x : Rc} {N : Nat} (hN : N = acc.length) (h : FoldS w wr Bm r RB n l left cnt acc v) (ho : w'.ownsRow RB 31 7 v' (N + 1) (rcCells acc ++ x.cells)) (hg : wr.drew.grownBy w' v.ownBlock) : FoldS w (w'.setCell ⟨w.heap.size, 0, none⟩ v') Bm r RB n l left cnt (acc ++ [x]) v' := by
  subst hN
  have h1 := h.b1
  have h2 := h.b2
  have h3 := h.b3
  have h4 := h.b4
  have hg0 : wr.grownBy w' v.ownBlock := ⟨hg.os, hg.tape, hg.output, hg.size, hg.block⟩
  have hne : ∀ q, q < RB → some q ≠ v.ownBlock := fun q hq e => by have := (h.ow.lt _ e.symm).1; omega
  have hs : w'.grownBy (w'.setCell ⟨w.heap.size, 0, none⟩ v') (some w.heap.size) := ⟨rfl, rfl, rfl, by simp, fun k _ hk => heap_setCell_other w' ⟨w.heap.size, 0, none⟩ k v' (fun e => hk (by simp [e]))⟩
  have hbx := hg0.cell h.bx (hne w.heap.size (by omega))
  have hfx := (World.frozen?_of_block (hg0.block w.heap.size (by omega) (hne _ (by omega)))).trans h.fx
  refine ⟨World.cell?_setCell_same w' _ _ hbx, (World.frozen?_setCell _ _ _ _).trans hfx, (h.rg.kept hg0 (hne _ (by omega)) (hne _ (by omega))).kept hs (by simp; omega) (by simp; omega), ?_, ?_, h1, h2, h3, ?_⟩
  · have e : rcCells (acc ++ [x]) = rcCells acc ++ x.cells := by rw [rcCells_append]; simp [rcCells]
    rw [List.length_append, e]
    exact own_keepG ho hs (fun q hq e => by injection hq with hq; subst hq; have := (ho.lt _ e).1; omega)
  · exact (h.be.trans (below_of_grown hg0 h.be.size (fun k hk => by have := (h.ow.lt _ hk).1; omega))).trans (below_of_grown hs (Nat.le_trans h.be.size hg0.size) (fun k hk => by injection hk with hk; omega))
  · simp
    exact Nat.le_trans h4 hg0.size
end
end Go.Proofs.Ytjipebedibjoiaa

/- record.Fold: its walk. -/
namespace Go.Proofs.Ytjipebedibjoiaa
open Go Go.RowKit Go.Maps Go.WideMaps
set_option linter.unusedVariables false
set_option linter.unusedSimpArgs false

theorem foldpost_mk {w W : World} {q : List Rc} {A : Option Addr} {n c RB : Nat} (hn : n = q.length) (ho : W.ownsRow RB 31 7 (.slice A n c) n (rcCells q)) (hRB : w.heap.size ≤ RB) (hb : Below w.heap.size w W) : FoldPost w q (.returned (.slice A n c)) W := by
  subst hn
  exact ⟨A, c, rfl, own_lower ho hRB, hb⟩
theorem map_size_le {w : World} {P : Program} {k : TypeId} {R : Value → Option (DataW Unit × List MemPlace)} {b n : Nat} {D : DataW Unit} (h : w.ownsMap P k R b n D) : Maps.size D ≤ n := by
  obtain ⟨es, clock, hb, F, hs, rfl⟩ := h
  simp [Maps.size, length_sorted]
  exact hs
set_option maxHeartbeats 4000000 in
set_option maxRecDepth 100000 in
theorem fold_is (A : Option Addr) (n c : Nat) (l : List Rc) (w : World) (hr : Rd w A (rcCells l)) (hn : l.length = n) (hk : ∀ x ∈ l, x.key.size ≤ 140737488355328) (hl : n ≤ 1099511627776) :
    Calls Try.prog 37 #[.slice A n c] w (FoldPost w (foldW l)) := by
  have HR := Lib.hid hr
  have HN := Lib.hid hn
  have HK := Lib.hid hk
  have PL := Lib.hid (fun W (hW : Below w.heap.size w W) => lasts_is A n c l W (hr.below hW) hn (fun x hx => by have := hk x hx; unfold maxLen; omega) hl)
  obtain ⟨q, hq⟩ : ∃ q, q = foldW l := ⟨_, rfl⟩
  rw [← hq]
  have HQ := Lib.hid hq
  clear hr hn hk hq
  go_enter Try.func37, Try.ntmps37
  go_wp2_with fail
  refine (PL.out _ ((Below.refl _ _).alloc (Nat.le_refl _) _)).mono ?_
  rintro e w1 ⟨he, hm1, hb1⟩
  obtain ⟨W0, hW0⟩ : ∃ W0, W0 = w.alloc (.cells #[.slice none 0 0] 22) := ⟨_, rfl⟩
  rw [← hW0] at he hm1 hb1
  have hsz : W0.heap.size = w.heap.size + 1 := by rw [hW0]; simp
  have hbx1 : w1.cell? ⟨w.heap.size, 0, none⟩ = some (.slice none 0 0) := (hb1.cell (p := ⟨w.heap.size, 0, none⟩) (by rw [hsz]; exact Nat.lt_succ_self _)).trans (by rw [hW0]; simp)
  have hfx1 : w1.frozen? ⟨w.heap.size, 0, none⟩ = false := (hb1.frozen (p := ⟨w.heap.size, 0, none⟩) (by rw [hsz]; exact Nat.lt_succ_self _)).trans (by rw [hW0]; simp)
  have hbe0 : Below w.heap.size w W0 := by rw [hW0]; exact (Below.refl _ _).alloc (Nat.le_refl _) _
  have hbe1 : Below w.heap.size w w1 := hbe0.trans (hb1.mono (by omega))
  have hmlt := hm1.lt
  rw [hsz] at he hm1 hmlt
  obtain ⟨Bm, hBm⟩ : ∃ Bm, Bm = w.heap.size + 1 := ⟨_, rfl⟩
  rw [← hBm] at he hm1 hmlt
  subst he
  have HM1 := Lib.hid hm1
  have HBX1 := Lib.hid hbx1
  have HFX1 := Lib.hid hfx1
  have HBE1 := Lib.hid hbe1
  have HBM := Lib.hid hBm
  clear hm1 hbx1 hfx1 hbe0 hbe1 hb1 hsz hW0 PL hBm
  go_wp2_with (at_range; refine wpList_range_own _ rfl _ 60 rfl 9 3 klaw Try.underlying60 _ Bm n (lasD l n) rfl HM1.out ?_; intro w0 hrg0 hg0 hs0)
  go_frame
  obtain ⟨r, hr⟩ : ∃ r, r = w1.heap.size := ⟨_, rfl⟩
  rw [← hr] at hrg0 hs0 hmlt ⊢
  obtain ⟨RB, hRB⟩ : ∃ RB, RB = r + 1 := ⟨_, rfl⟩
  have hst : FoldS w w0 Bm r RB n l (Maps.has (lasD l n)) (Maps.size (lasD l n)) [] (.slice none 0 0) :=
    ⟨hg0.cell HBX1.out (by simp), (World.frozen?_of_block (hg0.block w.heap.size (by have := HBM.out; omega) (by simp))).trans HFX1.out, hrg0, World.ownsRow_nil _ _ _ _, HBE1.out.trans (below_of_grown hg0 HBE1.out.size (fun k hk => by cases hk)), by have := HBM.out; omega, hmlt, by omega, by omega⟩
  have HST := Lib.hid hst
  have HC0 := Lib.hid (Col.start HN.out (map_size_le HM1.out))
  clear hst hrg0 hg0 hs0 HBX1 HFX1 HBE1 HM1 hr hRB hmlt
  go_loopw [5] (fun _ wr => ∃ left cnt acc v, FoldS w wr Bm r RB n l left cnt acc v ∧ Col l n left cnt acc) (fun _ wr => wr.rangeLeft Bm r)
  case atStart => exact ⟨_, _, _, _, HST.out, HC0.out⟩
  case round =>
    obtain ⟨left, cnt, acc, v, hF, hC⟩ := hrel
    have HF := Lib.hid hF
    have HC := Lib.hid hC
    have h5 := hC.c5
    have hb1 := hF.b1
    have hb2 := hF.b2
    have hb3 := hF.b3
    have hb4 := hF.b4
    obtain ⟨N, hN⟩ : ∃ N, N = acc.length := ⟨_, rfl⟩
    have HNN := Lib.hid hN
    rw [← hN] at h5
    obtain ⟨A5, c5, hv5, hc5a, hc5b, hA5⟩ := own_shape hF.ow
    rw [← hN] at hv5 hc5a
    subst hv5
    have HO : Hid (wr.ownsRow RB 31 7 (.slice A5 N c5) N (rcCells acc)) := Lib.hid (by rw [hN]; exact hN ▸ hF.ow)
    clear hF hC hN hA5 HST HC0
    go_wp2_with (at_next; refine wpList_next_ranges _ rfl _ rfl 9 klaw _ encStr (Value.int .i64) (fun key kl hk => by obtain ⟨x, hx, _⟩ := Maps.keyOf_str Try.underlying9 hk; exact ⟨x, hx⟩) (fun v y hv => by obtain ⟨c, rfl, _⟩ := plainElem_int_inv Try.underlying3 hv; exact ⟨c, rfl⟩) Bm r n _ _ _ rfl HF.out.rg ?_ ?_)
    · intro hc0 hl0
      have HL0 := Lib.hid hl0
      have hbx := HF.out.bx
      have hbw : w.heap.size < wr.heap.size := by omega
      clear hl0 hc0
      go_wp2_with fail
      have fin : ∀ e w', SortPost wr RB (.slice A5 N c5) N acc e w' → e = .returned (.tuple #[]) ∧ w'.cell? ⟨w.heap.size, 0, none⟩ = some (.slice A5 N c5) ∧ FoldPost w q (.returned (.slice A5 N c5)) w' := by
        rintro e w' ⟨rfl, acc', hp, hs, ho, hg⟩
        have hqa := (HC.out.fin HL0.out hp hs).trans HQ.out.symm
        refine ⟨rfl, hg.cell hbx (fun e => by have h0 := (HO.out.lt w.heap.size e.symm).1; omega), ?_⟩
        have hlen : N = q.length := by rw [← hqa, hp.length_eq, HNN.out]
        exact foldpost_mk hlen (hqa ▸ ho) (by omega) (HF.out.be.trans (below_of_grown hg HF.out.be.size (fun k hk => by have := (HO.out.lt _ hk).1; omega)))
      by_cases hN1 : N ≤ 1
      · refine ((sort_few RB c5 N A5 acc _ _ _ wr HO.out HNN.out.symm hN1).mono fin).mono ?_
        rintro e w3 ⟨rfl, hbx3, hfin⟩
        have HFI := Lib.hid hfin
        clear hfin fin
        go_wp2_with fail
        go_ret
        exact HFI.out
      · obtain ⟨g, hA, hg1, hg2, _, _⟩ := own_pos HO.out (by omega)
        subst hA
        have hkk : ∀ x ∈ acc, x.key.size ≤ 140737488355328 := fun x hx => by
          obtain ⟨_, i, hi, _⟩ := HC.out.c2 x hx
          exact HK.out x (List.mem_of_getElem? hi)
        refine ((sort_many RB w.heap.size g c5 N acc wr HO.out HNN.out.symm (by omega) (by omega) hkk hbx hbw (by omega)).mono fin).mono ?_
        rintro e w3 ⟨rfl, hbx3, hfin⟩
        have HFI := Lib.hid hfin
        clear hfin fin
        go_wp2_with fail
        go_ret
        exact HFI.out
    · intro x c kl yd yp w2 cnt2 hkey hlk hv hat hrg2 hlt hg2 hs2 hen
      have hF2 := HF.out.next hrg2 hg2
      obtain ⟨i, y, hin, hy, hat2, hput, hskip⟩ := HC.out.step HN.out hlk hlt
      have hci : c = (i : Int) := by
        obtain ⟨c', e1, e2, _⟩ := plainElem_int_inv Try.underlying3 hv
        injection e1 with _ e1
        injection e2 with e2 e3
        have := (hat .nil).symm.trans (hat2 .nil)
        rw [e2] at this
        rw [e1]
        exact lit_i64 this
      subst hci
      obtain ⟨g, off, rfl, hg, x0, x1, x2, x3, x4, x5, x6⟩ := (HR.out.below hF2.be).rec hy
      have HF2 := Lib.hid hF2
      have hbx3 : (w2.alloc (rcObj y)).cell? ⟨w.heap.size, 0, none⟩ = some (.slice A5 N c5) := (((Below.refl w2.heap.size w2).alloc (Nat.le_refl _) (rcObj y)).cell (p := ⟨w.heap.size, 0, none⟩) (by have := hF2.b4; show w.heap.size < w2.heap.size; omega)).trans hF2.bx
      unfold rcObj at hbx3
      have HOW2 := Lib.hid hF2.ow
      have hb42 := hF2.b4
      have hbx2 := hF2.bx
      have hfx2 := hF2.fx
      have i0 : (0 : Int) ≤ (i : Int) := by omega
      have i1 : (i : Int) < (n : Int) := by omega
      have HLT := Lib.hid hlt
      have HRG := Lib.hid (HF.out.rg.left_eq)
      have HRG2 := Lib.hid (hrg2.left_eq)
      have HPUT := Lib.hid hput
      have HSKIP := Lib.hid hskip
      obtain ⟨yk, yo, yt, yp', ys, ykey, yval⟩ := y
      simp only at x0 x1 x2 x3 x4 x5 x6 HPUT HSKIP hbx3
      clear hF2 hy hat2 hput hskip hkey hlk hv hat hrg2 hlt hg2 hs2
      by_cases hk1 : yk = 1
      · have HP := Lib.hid (HPUT.out hk1)
        have hkb : (yk == 1) = true := by rw [beq_iff_eq]; exact hk1
        clear HPUT HSKIP hk1
        go_wp2_with fail
        go_region_law (refine step_pushR _ rfl (.tmp 19) (.tmp 24) rfl RB _ N (rcCells acc) rfl (own_below (HNN.out ▸ HOW2.out) (below_drewN (Below.refl _ _) 1)) ⟨yk, yo, yt, yp', ys, ykey, yval⟩ _ (by simp) rfl (by omega) (by simp; omega) ?_; intro v' w' hown' hgr'; obtain ⟨A', c', hv', _⟩ := own_shape hown'; subst hv'; have hcb := hgr'.cell (a := ⟨w.heap.size, 0, none⟩) hbx2 (fun e => by have h0 := (HOW2.out.lt w.heap.size e.symm).1; omega); have hfb := (World.frozen?_of_block (hgr'.block w.heap.size (by simp; omega) (fun e => by have h0 := (HOW2.out.lt w.heap.size e.symm).1; omega))).trans hfx2; have HPU := Lib.hid (FoldS.push (x := ⟨yk, yo, yt, yp', ys, ykey, yval⟩) HNN.out HF2.out hown' hgr'); clear hown' hgr')
        all_goals
          go_roundw
          case rel => first | exact ⟨_, _, _, _, HPU.out, HP.out⟩ | ((repeat apply Exists.intro); exact ⟨⟨_, _, _, _, HPU.out, HP.out⟩, rfl⟩)
          case measure => rw [HPU.out.rg.left_eq, HRG.out]; exact HLT.out
      · have HP := Lib.hid (HSKIP.out hk1)
        have hkb : (yk == 1) = false := by rw [beq_eq_false_iff_ne]; exact hk1
        clear HPUT HSKIP hk1
        go_wp2_with fail
        go_roundw
        case rel => exact ⟨_, _, _, _, HF2.out, HP.out⟩
        case measure => rw [HRG2.out, HRG.out]; exact HLT.out
end Go.Proofs.Ytjipebedibjoiaa
