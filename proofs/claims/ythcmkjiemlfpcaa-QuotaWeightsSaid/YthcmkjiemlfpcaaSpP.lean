/- Spread in plain words: the bases, the rests, who gets one more; and the laws of it. -/
import Derived.Test.YthcmkjiemlfpcaaStbP2
namespace Go.Proofs.Ythcmkjiemlfpcaa
open Go.Sort
set_option linter.unusedVariables false
set_option linter.unusedSimpArgs false

/-- The element at a place; 0 behind the end. -/
def at0 (l : List Int) (k : Nat) : Int := l[k]?.getD 0
theorem at0_of {l : List Int} {k : Nat} {x : Int} (h : l[k]? = some x) : at0 l k = x := by unfold at0; rw [h]; rfl
theorem at0_map {l : List Int} {f : Int → Int} {k : Nat} (hk : k < l.length) : at0 (l.map f) k = f (at0 l k) := by
  unfold at0
  rw [List.getElem?_map, List.getElem?_eq_getElem hk]
  rfl
def bas (t a : Int) (l : List Int) : List Int := l.map (fun w => t * w / a)
def rst (t a : Int) (l : List Int) : List Int := l.map (fun w => t * w % a)
theorem bas_length (t a : Int) (l : List Int) : (bas t a l).length = l.length := by simp [bas]
theorem rst_length (t a : Int) (l : List Int) : (rst t a l).length = l.length := by simp [rst]
/-- k stands ahead of i: its rest is greater, or as great and it comes first. -/
def bef (r : List Int) (k i : Nat) : Bool := decide (at0 r i < at0 r k) || (decide (at0 r k = at0 r i) && decide (k < i))
theorem bef_irrefl (r : List Int) (i : Nat) : bef r i i = false := by simp [bef]
theorem bef_iff (r : List Int) (k i : Nat) : bef r k i = true ↔ (at0 r i < at0 r k ∨ (at0 r k = at0 r i ∧ k < i)) := by simp [bef]
theorem bef_not (r : List Int) (k i : Nat) : bef r k i = false ↔ ¬ (at0 r i < at0 r k ∨ (at0 r k = at0 r i ∧ k < i)) := by
  rw [← bef_iff]; cases bef r k i <;> simp
theorem bef_swo (r : List Int) : SWO (bef r) where
  irrefl := bef_irrefl r
  trans := fun x y z h1 h2 => by rw [bef_iff] at *; omega
  ntrans := fun x y z h1 h2 => by rw [bef_not] at *; omega
theorem bef_total {r : List Int} {x y : Nat} (h : x ≠ y) : bef r x y = true ∨ bef r y x = true := by rw [bef_iff, bef_iff]; omega
/-- How many stand ahead. -/
def ahead (r : List Int) (i : Nat) : Nat := (List.range r.length).countP (fun k => bef r k i)
/-- What is left for the rests. -/
def splft (t a : Int) (l : List Int) : Int := t - (bas t a l).sum
/-- One more where fewer stand ahead than are left. -/
def spr (t : Int) (l : List Int) : List Int := (List.range l.length).map (fun i => at0 (bas t l.sum l) i + if ((ahead (rst t l.sum l) i : Nat) : Int) < splft t l.sum l then 1 else 0)
theorem spr_length (t : Int) (l : List Int) : (spr t l).length = l.length := by simp [spr]
/-- May it be shared. -/
def spOk (t : Int) (l : List Int) : Prop := l.length ≤ 64 ∧ (0 ≤ t ∧ t ≤ 1099511627776) ∧ (∀ w ∈ l, 0 ≤ w ∧ w ≤ 1048576) ∧ l.sum ≠ 0
/-- What is answered. -/
def SpRes (t : Int) (l res : List Int) (er : Int) : Prop := (spOk t l ∧ res = spr t l ∧ er = 0) ∨ (¬ spOk t l ∧ res = [] ∧ er = 131)
theorem spRes_ex (t : Int) (l : List Int) : ∃ res er, SpRes t l res er := by
  by_cases h : spOk t l
  · exact ⟨_, _, .inl ⟨h, rfl, rfl⟩⟩
  · exact ⟨_, _, .inr ⟨h, rfl, rfl⟩⟩
theorem spRes_len {t : Int} {l res : List Int} {er : Int} (h : SpRes t l res er) : res.length ≤ 64 := by
  rcases h with ⟨h, rfl, _⟩ | ⟨_, rfl, _⟩
  · rw [spr_length]; exact h.1
  · simp

/-- The sums. -/
theorem sum_take_succ {l : List Int} {k : Nat} {x : Int} (hx : l[k]? = some x) : (l.take (k + 1)).sum = (l.take k).sum + x := by
  obtain ⟨hk, rfl⟩ := List.getElem?_eq_some_iff.1 hx
  rw [List.take_succ_eq_append_getElem hk, List.sum_append, List.sum_cons, List.sum_nil, Int.add_zero]
theorem sum_bd {l : List Int} {M : Int} (h : ∀ w ∈ l, 0 ≤ w ∧ w ≤ M) : 0 ≤ l.sum ∧ l.sum ≤ (l.length : Int) * M := by
  induction l with
  | nil => simp
  | cons a r ih =>
    have h1 := ih (fun w hw => h w (List.mem_cons_of_mem _ hw))
    have h2 := h a (List.mem_cons_self ..)
    rw [List.sum_cons, List.length_cons]
    push_cast
    rw [Int.add_mul]
    omega
theorem sum_take_le {l : List Int} (h : ∀ w ∈ l, 0 ≤ w) (k : Nat) : 0 ≤ (l.take k).sum ∧ (l.take k).sum ≤ l.sum := by
  induction l generalizing k with
  | nil => simp
  | cons a r ih =>
    have h0 := h a (List.mem_cons_self ..)
    have hr := ih (fun w hw => h w (List.mem_cons_of_mem _ hw))
    cases k with
    | zero =>
      have := hr 0
      rw [List.take_zero, List.sum_cons]
      simp at this ⊢
      omega
    | succ k =>
      have := hr k
      rw [List.take_succ_cons, List.sum_cons, List.sum_cons]
      omega
/-- What is left: the rests over the sum. -/
theorem rests_sum (t a : Int) (l : List Int) : a * (bas t a l).sum + (rst t a l).sum = t * l.sum := by
  induction l with
  | nil => simp [bas, rst]
  | cons w r ih =>
    have := Int.mul_ediv_add_emod (t * w) a
    simp only [bas, rst, List.map_cons, List.sum_cons] at ih ⊢
    rw [Int.mul_add, Int.mul_add]
    omega
theorem rst_bd {t a : Int} {l : List Int} (ha : 0 < a) : ∀ x ∈ rst t a l, 0 ≤ x ∧ x < a := by
  intro x hx
  obtain ⟨w, _, rfl⟩ := List.mem_map.1 hx
  exact ⟨Int.emod_nonneg _ (by omega), Int.emod_lt_of_pos _ ha⟩
theorem splft_mul {t : Int} {l : List Int} : l.sum * splft t l.sum l = (rst t l.sum l).sum := by
  have := rests_sum t l.sum l
  unfold splft
  rw [Int.mul_sub, Int.mul_comm l.sum t]
  omega
theorem splft_bd {t : Int} {l : List Int} (ha : 0 < l.sum) : 0 ≤ splft t l.sum l ∧ splft t l.sum l ≤ l.length := by
  have h1 := splft_mul (t := t) (l := l)
  have h2 := sum_bd (l := rst t l.sum l) (M := l.sum) (fun x hx => ⟨(rst_bd ha x hx).1, by have := (rst_bd ha x hx).2; omega⟩)
  rw [rst_length] at h2
  constructor
  · refine Int.not_lt.1 (fun hc => ?_)
    have := Int.mul_neg_of_pos_of_neg ha hc
    omega
  · refine Int.not_lt.1 (fun hc => ?_)
    have h3 : (l.length : Int) * l.sum < splft t l.sum l * l.sum := Int.mul_lt_mul_of_pos_right hc ha
    rw [Int.mul_comm (splft t l.sum l)] at h3
    omega
/-- Counting those that stand ahead in a row that is sorted so. -/
theorem countP_lt (n p : Nat) (f : Nat → Bool) (h1 : ∀ q, q < p → f q = true) (h2 : ∀ q, p ≤ q → q < n → f q = false) (hp : p ≤ n) : (List.range n).countP f = p := by
  induction n generalizing p with
  | zero => simp; omega
  | succ n ih =>
    rw [List.range_succ, List.countP_append]
    by_cases hpn : p ≤ n
    · rw [ih p h1 (fun q q1 q2 => h2 q q1 (by omega)) hpn]
      simp [h2 n hpn (by omega)]
    · obtain rfl : p = n + 1 := by omega
      rw [ih n (fun q hq => h1 q (by omega)) (fun q q1 q2 => by omega) (Nat.le_refl _)]
      simp [h1 n (by omega)]
/-- A row of places, each once, in the order: at place p stands the one with p ahead of it. -/
theorem ahead_at {r : List Int} {o : List Nat} (hp : o.Perm (List.range r.length)) (hs : o.Pairwise (fun x y => bef r y x = false)) {p i : Nat} (hi : o[p]? = some i) : ahead r i = p := by
  obtain ⟨hpl, rfl⟩ := List.getElem?_eq_some_iff.1 hi
  unfold ahead
  rw [← hp.countP_eq]
  have e : o = (List.range o.length).map (fun q => o[q]?.getD 0) := by
    apply List.ext_getElem
    · simp
    · intro q h1 h2
      simp [h1]
  have hnd : o.Nodup := hp.nodup_iff.2 List.nodup_range
  have e2 : List.countP (fun k => bef r k o[p]) o = List.countP (fun q => bef r (o[q]?.getD 0) o[p]) (List.range o.length) := by
    have := congrArg (List.countP (fun k => bef r k o[p])) e
    rw [List.countP_map] at this
    exact this
  rw [e2]
  refine countP_lt _ p _ ?_ ?_ (by omega)
  · intro q hq
    have hql : q < o.length := by omega
    simp only [List.getElem?_eq_getElem hql, Option.getD_some]
    have h1 := List.pairwise_iff_getElem.1 hs q p hql hpl hq
    have hne : o[q] ≠ o[p] := (List.pairwise_iff_getElem.1 hnd) q p hql hpl hq
    rcases bef_total (r := r) hne with h | h
    · exact h
    · rw [h] at h1; cases h1
  · intro q h1 h2
    simp only [List.getElem?_eq_getElem h2, Option.getD_some]
    rcases Nat.lt_or_eq_of_le h1 with h3 | rfl
    · exact List.pairwise_iff_getElem.1 hs p q hpl h2 h3
    · exact bef_irrefl r _
end Go.Proofs.Ythcmkjiemlfpcaa
