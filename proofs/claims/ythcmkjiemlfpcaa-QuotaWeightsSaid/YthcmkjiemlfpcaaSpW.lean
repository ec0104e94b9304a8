/- Shares by weights, in plain words: what they add up to, how far they are off, which is greater. -/
import Derived.Test.YthcmkjiemlfpcaaSpP2
namespace Go.Proofs.Ythcmkjiemlfpcaa
open Go.Sort
set_option linter.unusedVariables false
set_option linter.unusedSimpArgs false

theorem list_at0 (l : List Int) : l = (List.range l.length).map (at0 l) := by
  apply List.ext_getElem
  · simp
  · intro i h1 h2
    simp [at0, h1]
theorem sum_map_if {α : Type} (g : α → Int) (p : α → Prop) [DecidablePred p] (xs : List α) : (xs.map (fun i => g i + if p i then 1 else 0)).sum = (xs.map g).sum + ((xs.countP (fun i => decide (p i)) : Nat) : Int) := by
  induction xs with
  | nil => rfl
  | cons x r ih =>
    rw [List.map_cons, List.sum_cons, ih, List.map_cons, List.sum_cons, List.countP_cons]
    by_cases h : p x
    · simp only [h, if_true, decide_true]; push_cast; omega
    · simp only [h, if_false, decide_false]; push_cast; simp; omega
/-- The places may be laid in their order. -/
theorem ord_exists (r : List Int) : ∃ o, Ord r o := by
  have h := insertionSort_holds (bef_swo r) (List.range r.length).toArray 0 r.length (Nat.zero_le _) (by simp)
  obtain ⟨⟨h1, _, h3⟩, h4⟩ := h
  obtain ⟨d, hd⟩ : ∃ d, d = Sort.insertionSort (bef r) (List.range r.length).toArray 0 r.length := ⟨_, rfl⟩
  rw [← hd] at h1 h3 h4
  have hs : d.size = r.length := by simpa using h1
  refine ⟨d.toList, ?_, ?_⟩
  · have e1 : d.extract 0 r.length = d := by rw [← hs]; simp
    rw [e1] at h3
    simpa using h3
  · rw [List.pairwise_iff_getElem]
    intro i j hi hj hij
    have hi' : i < d.size := by simpa using hi
    have hj' : j < d.size := by simpa using hj
    have := h4 i j (Nat.zero_le _) hij (by omega)
    rw [getElem!_pos d i hi', getElem!_pos d j hj'] at this
    simpa using this
theorem countP_ahead {r : List Int} {L : Nat} (hL : L ≤ r.length) : (List.range r.length).countP (fun i => decide (ahead r i < L)) = L := by
  obtain ⟨o, ho⟩ := ord_exists r
  rw [← ho.perm.countP_eq]
  have hlen := ho.len
  have e : o = (List.range o.length).map (fun q => o[q]?.getD 0) := by
    apply List.ext_getElem
    · simp
    · intro q h1 h2
      simp [h1]
  have e2 := congrArg (List.countP (fun i => decide (ahead r i < L))) e
  rw [List.countP_map] at e2
  rw [e2]
  have hq : ∀ q, q < o.length → ahead r (o[q]?.getD 0) = q := fun q hq => ahead_at ho.perm ho.srt (by rw [List.getElem?_eq_getElem hq]; rfl)
  refine countP_lt _ L _ ?_ ?_ (by omega)
  · intro q h1
    show decide (ahead r (o[q]?.getD 0) < L) = true
    rw [hq q (by omega)]
    exact decide_eq_true h1
  · intro q h1 h2
    show decide (ahead r (o[q]?.getD 0) < L) = false
    rw [hq q h2]
    exact decide_eq_false (by omega)
theorem spr_sum {t : Int} {l : List Int} (h : spOk t l) : (spr t l).sum = t := by
  obtain ⟨hp, _⟩ := sum_pos h
  obtain ⟨h1, h2⟩ := splft_bd (t := t) hp
  obtain ⟨L, hL⟩ : ∃ L : Nat, (L : Int) = splft t l.sum l := ⟨(splft t l.sum l).toNat, by omega⟩
  have hLn : L ≤ l.length := by omega
  unfold spr
  rw [sum_map_if, ← hL]
  have e : ∀ i, decide (((ahead (rst t l.sum l) i : Nat) : Int) < (L : Int)) = decide (ahead (rst t l.sum l) i < L) := fun i => by by_cases hh : ahead (rst t l.sum l) i < L <;> simp [hh]
  simp only [e]
  have h3 := countP_ahead (r := rst t l.sum l) (L := L) (by rw [rst_length]; exact hLn)
  rw [rst_length] at h3
  rw [h3]
  have h4 := list_at0 (bas t l.sum l)
  rw [bas_length] at h4
  rw [← h4, hL]
  unfold splft
  omega
theorem sum_le_count {r : List Int} {a : Int} (h : ∀ x ∈ r, 0 ≤ x ∧ x < a) : r.sum ≤ ((r.countP (fun x => decide (0 < x)) : Nat) : Int) * a := by
  induction r with
  | nil => simp
  | cons x r ih =>
    have h1 := h x (List.mem_cons_self ..)
    have h2 := ih (fun y hy => h y (List.mem_cons_of_mem _ hy))
    rw [List.sum_cons, List.countP_cons]
    by_cases hx : 0 < x
    · simp only [hx, decide_true, if_true]
      push_cast
      rw [Int.add_mul]
      omega
    · simp only [hx, decide_false]
      simp
      omega
/-- Who gets one more has a rest. -/
theorem more_rest {t : Int} {l : List Int} (h : spOk t l) {i : Nat} (hi : ((ahead (rst t l.sum l) i : Nat) : Int) < splft t l.sum l) : 0 < at0 (rst t l.sum l) i ∨ at0 (rst t l.sum l) i < 0 := by
  refine Classical.byContradiction fun hc => ?_
  have h0 : at0 (rst t l.sum l) i = 0 := by omega
  obtain ⟨hp, _⟩ := sum_pos h
  have h1 := sum_le_count (r := rst t l.sum l) (a := l.sum) (rst_bd hp)
  rw [← splft_mul] at h1
  have h2 : (rst t l.sum l).countP (fun x => decide (0 < x)) ≤ ahead (rst t l.sum l) i := by
    have e := congrArg (List.countP (fun x => decide (0 < x))) (list_at0 (rst t l.sum l))
    rw [List.countP_map] at e
    rw [e]
    refine List.countP_mono_left ?_
    intro k _ hk
    rw [bef_iff]
    simp only [Function.comp, decide_eq_true_eq] at hk
    omega
  have h3 : splft t l.sum l ≤ (((rst t l.sum l).countP (fun x => decide (0 < x)) : Nat) : Int) := by
    refine Int.not_lt.1 fun hlt => ?_
    have := Int.mul_lt_mul_of_pos_left hlt hp
    rw [Int.mul_comm l.sum (((rst t l.sum l).countP (fun x => decide (0 < x)) : Nat) : Int)] at this
    omega
  omega
/-- One share: base and rest. -/
theorem spr_one {t : Int} {l : List Int} (h : spOk t l) {i : Nat} {x w : Int} (hx : (spr t l)[i]? = some x) (hw : l[i]? = some w) :
    ∃ b r d : Int, 0 ≤ b ∧ l.sum * b + r = t * w ∧ (0 ≤ r ∧ r < l.sum) ∧ x = b + d ∧ r = at0 (rst t l.sum l) i ∧ ((d = 1 ∧ 0 < r ∧ ((ahead (rst t l.sum l) i : Nat) : Int) < splft t l.sum l) ∨ (d = 0 ∧ ¬ ((ahead (rst t l.sum l) i : Nat) : Int) < splft t l.sum l)) := by
  obtain ⟨hp, _⟩ := sum_pos h
  have hil : i < l.length := (List.getElem?_eq_some_iff.1 hw).1
  have hs := hx
  unfold spr at hs
  rw [List.getElem?_map, List.getElem?_range hil] at hs
  injection hs with hs
  change at0 (bas t l.sum l) i + (if ((ahead (rst t l.sum l) i : Nat) : Int) < splft t l.sum l then 1 else 0) = x at hs
  rw [at0_of (bas_get t l.sum hw)] at hs
  have hr := at0_of (rst_get t l.sum hw)
  have hwo := h.2.2.1 w (List.mem_of_getElem? hw)
  have hb0 : 0 ≤ t * w / l.sum := Int.ediv_nonneg (Int.mul_nonneg h.2.1.1 hwo.1) (Int.le_of_lt hp)
  have hm := Int.mul_ediv_add_emod (t * w) l.sum
  have hr0 : 0 ≤ t * w % l.sum ∧ t * w % l.sum < l.sum := ⟨Int.emod_nonneg _ (by omega), Int.emod_lt_of_pos _ hp⟩
  by_cases hc : ((ahead (rst t l.sum l) i : Nat) : Int) < splft t l.sum l
  · rw [if_pos hc] at hs
    have h1 := more_rest h hc
    rw [hr] at h1
    exact ⟨_, _, 1, hb0, hm, hr0, hs.symm, hr.symm, .inl ⟨rfl, by omega, hc⟩⟩
  · rw [if_neg hc] at hs
    exact ⟨_, _, 0, hb0, hm, hr0, hs.symm, hr.symm, .inr ⟨rfl, hc⟩⟩
theorem spr_bd {t : Int} {l : List Int} (h : spOk t l) {i : Nat} {x w : Int} (hx : (spr t l)[i]? = some x) (hw : l[i]? = some w) : 0 ≤ x ∧ x ≤ 1099511627777 := by
  obtain ⟨hp, _⟩ := sum_pos h
  obtain ⟨b, r, d, hb, hm, hr, rfl, _, hd⟩ := spr_one h hx hw
  have hwo := h.2.2.1 w (List.mem_of_getElem? hw)
  have hws := mem_le_sum (fun y hy => (h.2.2.1 y hy).1) w (List.mem_of_getElem? hw)
  have h1 : l.sum * b ≤ l.sum * t := by
    have := Int.mul_le_mul_of_nonneg_left hws h.2.1.1
    rw [Int.mul_comm l.sum t]
    omega
  have h2 : b ≤ t := Int.le_of_mul_le_mul_left h1 hp
  have := h.2.1
  omega
/-- Off by less than one; nothing for no weight. -/
theorem spr_off {t : Int} {l : List Int} (h : spOk t l) {i : Nat} {x w : Int} (hx : (spr t l)[i]? = some x) (hw : l[i]? = some w) : -l.sum < x * l.sum - t * w ∧ x * l.sum - t * w < l.sum ∧ (w = 0 → x = 0) := by
  obtain ⟨hp, _⟩ := sum_pos h
  obtain ⟨b, r, d, hb, hm, hr, rfl, _, hd⟩ := spr_one h hx hw
  rw [Int.add_mul, Int.mul_comm b]
  refine ⟨?_, ?_, ?_⟩
  · rcases hd with ⟨rfl, h1, _⟩ | ⟨rfl, _⟩ <;> simp <;> omega
  · rcases hd with ⟨rfl, h1, _⟩ | ⟨rfl, _⟩ <;> simp <;> omega
  · intro hw0
    subst hw0
    rw [Int.mul_zero] at hm
    have hb1 : 0 ≤ l.sum * b := Int.mul_nonneg (Int.le_of_lt hp) hb
    have hr1 : r = 0 := by omega
    have hb2 : l.sum * b = 0 := by omega
    rcases Int.mul_eq_zero.1 hb2 with h3 | h3
    · omega
    · rcases hd with ⟨rfl, h1, _⟩ | ⟨rfl, _⟩ <;> omega
theorem ahead_mono {r : List Int} {i k : Nat} (h : bef r i k = true) : ahead r i ≤ ahead r k := by
  unfold ahead
  refine List.countP_mono_left ?_
  intro q _ hq
  exact (bef_swo r).trans _ _ _ hq h
/-- A greater weight has no less; the same weight but one more at most. -/
theorem spr_two {t : Int} {l : List Int} (h : spOk t l) {i k : Nat} {x w y v : Int} (hx : (spr t l)[i]? = some x) (hw : l[i]? = some w) (hy : (spr t l)[k]? = some y) (hv : l[k]? = some v) : (v < w → y ≤ x) ∧ (w = v → x ≤ y + 1) := by
  obtain ⟨hp, _⟩ := sum_pos h
  obtain ⟨b, r, d, hb, hm, hr, rfl, hre, hd⟩ := spr_one h hx hw
  obtain ⟨b', r', d', hb', hm', hr', rfl, hre', hd'⟩ := spr_one h hy hv
  have ht := h.2.1.1
  constructor
  · intro hvw
    have h1 : t * v ≤ t * w := Int.mul_le_mul_of_nonneg_left (Int.le_of_lt hvw) ht
    have h2 : b' ≤ b := by
      refine Int.not_lt.1 fun hlt => ?_
      have := Int.mul_le_mul_of_nonneg_left (show b + 1 ≤ b' by omega) (Int.le_of_lt hp)
      rw [Int.mul_add, Int.mul_one] at this
      omega
    rcases Int.lt_or_eq_of_le h2 with h3 | h3
    · omega
    · subst h3
      rcases hd' with ⟨rfl, h4, h5⟩ | ⟨rfl, h5⟩
      · rcases hd with ⟨rfl, _, _⟩ | ⟨rfl, h6⟩
        · omega
        · exfalso
          by_cases ht0 : t = 0
          · subst ht0
            simp only [Int.zero_mul] at hm'
            have hb1 : 0 ≤ l.sum * b' := Int.mul_nonneg (Int.le_of_lt hp) hb'
            omega
          · have h7 : t * v < t * w := Int.mul_lt_mul_of_pos_left hvw (by omega)
            have h8 : bef (rst t l.sum l) i k = true := by rw [bef_iff, ← hre, ← hre']; omega
            have := ahead_mono h8
            omega
      · rcases hd with ⟨rfl, _, _⟩ | ⟨rfl, _⟩ <;> omega
  · intro e
    subst e
    have h2 : b = b' := by
      refine Int.le_antisymm (Int.not_lt.1 fun hlt => ?_) (Int.not_lt.1 fun hlt => ?_)
      · have := Int.mul_le_mul_of_nonneg_left (show b' + 1 ≤ b by omega) (Int.le_of_lt hp)
        rw [Int.mul_add, Int.mul_one] at this
        omega
      · have := Int.mul_le_mul_of_nonneg_left (show b + 1 ≤ b' by omega) (Int.le_of_lt hp)
        rw [Int.mul_add, Int.mul_one] at this
        omega
    rcases hd with ⟨rfl, _, _⟩ | ⟨rfl, _⟩ <;> rcases hd' with ⟨rfl, _, _⟩ | ⟨rfl, _⟩ <;> omega
end Go.Proofs.Ythcmkjiemlfpcaa
