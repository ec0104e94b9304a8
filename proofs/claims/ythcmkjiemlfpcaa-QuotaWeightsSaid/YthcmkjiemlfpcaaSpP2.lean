/- Spread in plain words: one more, one after another. -/
import Derived.Test.YthcmkjiemlfpcaaSpP
namespace Go.Proofs.Ythcmkjiemlfpcaa
open Go.Sort
set_option linter.unusedVariables false
set_option linter.unusedSimpArgs false

/-- One more for those with fewer than k ahead. -/
def sprK (t a : Int) (l : List Int) (k : Nat) : List Int := (List.range l.length).map (fun i => at0 (bas t a l) i + if ahead (rst t a l) i < k then 1 else 0)
theorem sprK_length (t a : Int) (l : List Int) (k : Nat) : (sprK t a l k).length = l.length := by simp [sprK]
theorem bas_get (t a : Int) {l : List Int} {k : Nat} {x : Int} (h : l[k]? = some x) : (bas t a l)[k]? = some (t * x / a) := by unfold bas; rw [List.getElem?_map, h]; rfl
theorem rst_get (t a : Int) {l : List Int} {k : Nat} {x : Int} (h : l[k]? = some x) : (rst t a l)[k]? = some (t * x % a) := by unfold rst; rw [List.getElem?_map, h]; rfl
theorem sprK_get (t a : Int) (l : List Int) (k : Nat) {i : Nat} (hi : i < l.length) : (sprK t a l k)[i]? = some (at0 (bas t a l) i + if ahead (rst t a l) i < k then 1 else 0) := by
  unfold sprK
  rw [List.getElem?_map, List.getElem?_range hi]
  rfl
theorem sprK_zero (t a : Int) (l : List Int) : sprK t a l 0 = bas t a l := by
  apply List.ext_getElem?
  intro i
  by_cases hi : i < l.length
  · rw [sprK_get t a l 0 hi]
    obtain ⟨x, hx⟩ : ∃ x, l[i]? = some x := ⟨_, List.getElem?_eq_getElem hi⟩
    rw [bas_get t a hx, at0_of (bas_get t a hx)]
    simp
  · rw [List.getElem?_eq_none (by rw [sprK_length]; omega), List.getElem?_eq_none (by rw [bas_length]; omega)]
/-- The places, in their order. -/
structure Ord (r : List Int) (o : List Nat) : Prop where
  perm : o.Perm (List.range r.length)
  srt : o.Pairwise (fun x y => bef r y x = false)
theorem Ord.len {r : List Int} {o : List Nat} (h : Ord r o) : o.length = r.length := by have := h.perm.length_eq; simpa using this
theorem Ord.lt {r : List Int} {o : List Nat} (h : Ord r o) {k i : Nat} (hk : o[k]? = some i) : i < r.length := by
  have := h.perm.mem_iff.1 (List.mem_of_getElem? hk)
  simpa using this
theorem Ord.pos {r : List Int} {o : List Nat} (h : Ord r o) {i : Nat} (hi : i < r.length) : o[ahead r i]? = some i := by
  have hm : i ∈ o := h.perm.mem_iff.2 (by simpa using hi)
  obtain ⟨p, hp, e⟩ := List.getElem_of_mem hm
  have h2 : o[p]? = some i := by rw [List.getElem?_eq_getElem hp, e]
  rw [ahead_at h.perm h.srt h2]
  exact h2
theorem sprK_old {t a : Int} {l : List Int} {o : List Nat} (h : Ord (rst t a l) o) {k i : Nat} (hk : o[k]? = some i) : (sprK t a l k)[i]? = some (at0 (bas t a l) i) := by
  have hi := h.lt hk
  rw [rst_length] at hi
  rw [sprK_get t a l k hi, ahead_at h.perm h.srt hk, if_neg (Nat.lt_irrefl _)]
  simp
theorem sprK_step {t a : Int} {l : List Int} {o : List Nat} (h : Ord (rst t a l) o) {k i : Nat} (hk : o[k]? = some i) : (sprK t a l k).set i (at0 (bas t a l) i + 1) = sprK t a l (k + 1) := by
  have hi := h.lt hk
  rw [rst_length] at hi
  apply List.ext_getElem?
  intro j
  rw [List.getElem?_set]
  by_cases hj : j < l.length
  · rw [sprK_get t a l (k + 1) hj]
    by_cases hij : i = j
    · subst hij
      rw [if_pos rfl, if_pos (by rw [sprK_length]; exact hi), ahead_at h.perm h.srt hk, if_pos (Nat.lt_succ_self _)]
    · rw [if_neg hij, sprK_get t a l k hj]
      have hne : ahead (rst t a l) j ≠ k := fun e => by
        have h2 := h.pos (i := j) (by rw [rst_length]; exact hj)
        rw [e, hk] at h2
        injection h2 with h2
        exact hij h2
      by_cases hc : ahead (rst t a l) j < k
      · rw [if_pos hc, if_pos (by omega)]
      · rw [if_neg hc, if_neg (by omega)]
  · by_cases hij : i = j
    · omega
    · rw [if_neg hij, List.getElem?_eq_none (by rw [sprK_length]; omega), List.getElem?_eq_none (by rw [sprK_length]; omega)]
theorem sprK_end {t : Int} {l : List Int} {k : Nat} (h : (k : Int) = splft t l.sum l) : sprK t l.sum l k = spr t l := by
  unfold sprK spr
  rw [← h]
  apply List.map_congr_left
  intro i _
  by_cases hc : ahead (rst t l.sum l) i < k
  · rw [if_pos hc, if_pos (by omega)]
  · rw [if_neg hc, if_neg (by omega)]
theorem bas_bd {t : Int} {l : List Int} (ht : 0 ≤ t) (hw : ∀ x ∈ l, 0 ≤ x) (ha : 0 < l.sum) : ∀ x ∈ bas t l.sum l, 0 ≤ x := by
  intro x hx
  obtain ⟨w, hm, rfl⟩ := List.mem_map.1 hx
  exact Int.ediv_nonneg (Int.mul_nonneg ht (hw w hm)) (Int.le_of_lt ha)
theorem mem_le_sum {l : List Int} (h : ∀ x ∈ l, 0 ≤ x) : ∀ x ∈ l, x ≤ l.sum := by
  induction l with
  | nil => intro x hx; cases hx
  | cons y r ih =>
    intro x hx
    have h0 := h y (List.mem_cons_self ..)
    have hr := sum_take_le (l := r) (fun z hz => h z (List.mem_cons_of_mem _ hz)) 0
    rw [List.sum_cons]
    rcases List.mem_cons.1 hx with rfl | hx
    · simp at hr; omega
    · have := ih (fun z hz => h z (List.mem_cons_of_mem _ hz)) x hx; omega
theorem sum_pos {t : Int} {l : List Int} (h : spOk t l) : 0 < l.sum ∧ 1 ≤ l.length := by
  have h1 := sum_bd (l := l) (M := 1048576) h.2.2.1
  have h2 := h.2.2.2
  refine ⟨by omega, ?_⟩
  cases l with
  | nil => exact absurd rfl h2
  | cons x r => simp
end Go.Proofs.Ythcmkjiemlfpcaa
