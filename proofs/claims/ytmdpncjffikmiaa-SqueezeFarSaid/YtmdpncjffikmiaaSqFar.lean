/- The tokens of a text that is said twice, with other bytes between. -/
import Derived.Test.YtmdpncjffikmiaaSqPt
namespace Go.Proofs.Ytmdpncjffikmiaa
open Go Go.RowKit
set_option linter.unusedVariables false
set_option linter.unusedSimpArgs false

def fm (p : Nat) : Nat := if p % 2 = 0 then p / 2 % 256 else 100 + p / 512
def fb (b p : Nat) : Nat := if p < 6 then 250 + p else if p < 6 + b then fm (p - 6) else 250 + (p - 6 - b)
def far (b n : Nat) : List Nat := (List.range n).map (fb b)
theorem far_length (b n : Nat) : (far b n).length = n := by simp [far]
theorem far_get {b n i : Nat} (h : i < n) : (far b n)[i]? = some (fb b i) := by simp [far, h]
theorem far_getD {b n i : Nat} (h : i < n) : (far b n).getD i 0 = fb b i := by rw [List.getD_eq_getElem?_getD, far_get h]; rfl
theorem far_succ (b n : Nat) : far b (n + 1) = far b n ++ [fb b n] := by unfold far; rw [List.range_succ, List.map_append]; rfl
theorem fb_1 {b p : Nat} (h : p < 6) : fb b p = 250 + p := if_pos h
theorem fb_3 {b p : Nat} (h : 6 + b ≤ p) : fb b p = 250 + (p - 6 - b) := by unfold fb; rw [if_neg (by omega), if_neg (by omega)]
theorem fb_e {b p : Nat} (h0 : 6 ≤ p) (h : p < 6 + b) (h2 : p % 2 = 0) : fb b p = (p - 6) / 2 % 256 := by unfold fb fm; rw [if_neg (by omega), if_pos h, if_pos (by omega)]
theorem fb_o {b p : Nat} (h0 : 6 ≤ p) (h : p < 6 + b) (h2 : p % 2 = 1) : fb b p = 100 + (p - 6) / 512 := by unfold fb fm; rw [if_neg (by omega), if_pos h, if_neg (by omega)]
theorem fb_lt {b p : Nat} (hb : b ≤ 4000) (hp : p < b + 12) : fb b p < 256 := by
  unfold fb fm
  split
  · omega
  · split
    · split <;> omega
    · omega
theorem far_by {b : Nat} (hb : b ≤ 4000) {n : Nat} (hn : n ≤ b + 12) : By (far b n) := fun x hx => by
  obtain ⟨i, hi, rfl⟩ := List.mem_map.1 hx
  have := List.mem_range.1 hi
  exact fb_lt hb (by omega)
theorem cnt3f {a x : Nat} (h0 : a % 256 = 100 + x / 256) (h1 : (a + 1) % 256 = 100 + (x + 1) / 256) (h2 : (a + 2) % 256 = 100 + (x + 2) / 256) : False := by omega
theorem far_ml {b j d : Nat} (hb : b ≤ 4000) (hd : 1 ≤ d) (hin : j + d ≤ b + 12) (h5 : 5 ≤ ml (far b (b + 12)) (j + d) d) : b + 6 ≤ j + d ∧ d = b + 6 := by
  have hl := ml_len (t := far b (b + 12)) d (by rw [far_length]; exact hin)
  rw [far_length] at hl
  have he : ∀ k, k < 5 → fb b (j + d + k) = fb b (j + k) := fun k hk => by
    have := ml_eq (t := far b (b + 12)) (i := j + d) (d := d) (k := k) (by omega)
    rw [far_getD (by omega), far_getD (by omega)] at this
    rw [this]
    congr 1
    omega
  have hlt : j + d + 4 < b + 12 := by omega
  clear hl h5
  by_cases c1 : 6 + b ≤ j + d
  · by_cases c2 : 6 + b ≤ j
    · have e := he 0 (by omega)
      rw [fb_3 (by omega), fb_3 (by omega)] at e
      omega
    · by_cases c3 : j < 6
      · have e := he 0 (by omega)
        rw [fb_3 (by omega), fb_1 (by omega)] at e
        omega
      · by_cases c4 : j + 1 = 6 + b
        · have e := he 1 (by omega)
          rw [fb_3 (by omega), fb_3 (by omega)] at e
          omega
        · by_cases c5 : j % 2 = 1
          · have e := he 0 (by omega)
            rw [fb_3 (by omega), fb_o (by omega) (by omega) (by omega)] at e
            omega
          · have e := he 1 (by omega)
            rw [fb_3 (by omega), fb_o (by omega) (by omega) (by omega)] at e
            omega
  · exfalso
    by_cases c2 : j + d < 6
    · have e := he 0 (by omega)
      rw [fb_1 (by omega), fb_1 (by omega)] at e
      omega
    · by_cases c3 : j + d + 4 < 6 + b
      · by_cases c4 : j < 6
        · by_cases c5 : (j + d) % 2 = 1
          · have e := he 0 (by omega)
            rw [fb_o (by omega) (by omega) (by omega), fb_1 (by omega)] at e
            omega
          · have e := he 1 (by omega)
            by_cases c6 : j + 1 < 6
            · rw [fb_o (by omega) (by omega) (by omega), fb_1 (by omega)] at e
              omega
            · rw [fb_o (by omega) (by omega) (by omega), fb_e (by omega) (by omega) (by omega)] at e
              omega
        · have e0 := he 0 (by omega)
          have e1 := he 1 (by omega)
          have e2 := he 2 (by omega)
          have e4 := he 4 (by omega)
          by_cases c5 : (j + d) % 2 = 1 <;> by_cases c6 : j % 2 = 1
          · rw [fb_o (by omega) (by omega) (by omega), fb_o (by omega) (by omega) (by omega)] at e0
            rw [fb_e (by omega) (by omega) (by omega), fb_e (by omega) (by omega) (by omega)] at e1
            omega
          · rw [fb_o (by omega) (by omega) (by omega), fb_e (by omega) (by omega) (by omega)] at e0 e2 e4
            refine cnt3f (a := (j - 6) / 2) (x := (j + d - 6) / 2) ?_ ?_ ?_ <;> omega
          · rw [fb_e (by omega) (by omega) (by omega), fb_o (by omega) (by omega) (by omega)] at e0 e2 e4
            refine cnt3f (a := (j + d - 6) / 2) (x := (j - 6) / 2) ?_ ?_ ?_ <;> omega
          · rw [fb_e (by omega) (by omega) (by omega), fb_e (by omega) (by omega) (by omega)] at e0
            rw [fb_o (by omega) (by omega) (by omega), fb_o (by omega) (by omega) (by omega)] at e1
            omega
      · obtain ⟨t, ht⟩ : ∃ t, j + d + t = 6 + b := ⟨6 + b - (j + d), by omega⟩
        have et := he t (by omega)
        by_cases c4 : j + t < 6
        · rw [fb_3 (by omega), fb_1 (by omega)] at et
          omega
        · by_cases c5 : (j + t) % 2 = 1
          · rw [fb_3 (by omega), fb_o (by omega) (by omega) (by omega)] at et
            omega
          · rw [fb_3 (by omega), fb_e (by omega) (by omega) (by omega)] at et
            by_cases c6 : t ≤ 3
            · have e := he (t + 1) (by omega)
              by_cases c7 : j + (t + 1) = 6 + b
              · rw [fb_3 (by omega), fb_3 (by omega)] at e
                omega
              · rw [fb_3 (by omega), fb_o (by omega) (by omega) (by omega)] at e
                omega
            · have ht4 : t = 4 := by omega
              subst ht4
              have e2 := he 2 (by omega)
              have e3 := he 3 (by omega)
              by_cases c7 : (j + d) % 2 = 1
              · rw [fb_o (by omega) (by omega) (by omega), fb_e (by omega) (by omega) (by omega)] at e2
                omega
              · rw [fb_e (by omega) (by omega) (by omega), fb_e (by omega) (by omega) (by omega)] at e2
                rw [fb_o (by omega) (by omega) (by omega), fb_o (by omega) (by omega) (by omega)] at e3
                omega
theorem tok_upto {t : List Nat} {K : Nat} (hK : K ≤ t.length) (h : ∀ i, i < K → (best t i).1 = 0) : ∀ k f, k ≤ K → tok t (f + k) 0 [] = tok t f k (t.take k)
  | 0, f, _ => by simp
  | k + 1, f, hk => by
    have hs := tok_step (f := f) (b := 0) (i := k) rfl (by omega) (Nat.zero_le _) (h k (by omega))
    rw [List.drop_zero, List.drop_zero] at hs
    rw [show f + (k + 1) = (f + 1) + k by omega, tok_upto hK h k (f + 1) (by omega), hs]
theorem far_best0 {b i : Nat} (hb : b ≤ 4000) (hi : i < b + 6) : (best (far b (b + 12)) i).1 = 0 := by
  rw [best_none (by rw [far_length]; omega) (fun d h1 h2 _ => ?_)]
  apply Classical.byContradiction
  intro hc
  have := far_ml (b := b) (j := i - d) (d := d) hb h1 (by omega) (by rw [Nat.sub_add_cancel h2]; omega)
  omega
theorem far_near {b : Nat} (hb : b + 6 ≤ 2048) : tokens (far b (b + 12)) = [⟨(far b (b + 12)).take (b + 6), 0, 0⟩, ⟨[], ((b + 6 : Nat) : Int), ((6 : Nat) : Int)⟩] := by
  have hl : (far b (b + 12)).length = b + 12 := far_length _ _
  have h6 : ml (far b (b + 12)) (b + 6) (b + 6) = 6 := by
    apply Nat.le_antisymm
    · have := ml_len (t := far b (b + 12)) (i := b + 6) (b + 6) (by omega)
      omega
    · refine ml_max (by omega) (by omega) (fun k hk => ?_)
      rw [far_getD (by omega), far_getD (by omega), fb_3 (by omega), fb_1 (by omega)]
      omega
  have hle : ∀ d, 1 ≤ d → d ≤ b + 6 → d ≠ b + 6 → ml (far b (b + 12)) (b + 6) d < 5 := fun d h1 h2 h3 => by
    apply Classical.byContradiction
    intro hc
    have := far_ml (b := b) (j := b + 6 - d) (d := d) (by omega) h1 (by omega) (by rw [Nat.sub_add_cancel h2]; omega)
    omega
  have hbest : best (far b (b + 12)) (b + 6) = (6, b + 6) := by
    have := best_some (t := far b (b + 12)) (i := b + 6) (d := b + 6) (by omega) (by omega) (Nat.le_refl _) (by omega) (by omega) (fun d h1 h2 _ => ?_) (fun d h1 h2 => ?_)
    · rw [this, h6]
    · by_cases hd : d = b + 6
      · rw [hd]; exact Nat.le_refl _
      · have := hle d h1 h2 hd; omega
    · have := hle d h1 (by omega) (by omega); omega
  have h1 := tok_upto (t := far b (b + 12)) (K := b + 6) (by omega) (fun i hi => far_best0 (by omega) hi) (b + 6) 6 (Nat.le_refl _)
  unfold tokens
  generalize far b (b + 12) = F at *
  rw [hl, show b + 12 = 6 + (b + 6) by omega]
  rw [h1, tok_match (by omega) (by rw [hbest]; simp only; omega), hbest, tok_end (by simp only; omega), flush_one (by rw [List.length_take]; omega)]
  rfl
theorem far_far {b : Nat} (h : 2048 < b + 6) (hb : b ≤ 4000) : tokens (far b (b + 12)) = [⟨far b (b + 12), 0, 0⟩] := by
  have hl : (far b (b + 12)).length = b + 12 := far_length _ _
  have := tok_none (t := far b (b + 12)) (fun i hi => by
    rw [best_none hi (fun d h1 h2 h3 => ?_)]
    apply Classical.byContradiction
    intro hc
    have := far_ml (b := b) (j := i - d) (d := d) hb h1 (by omega) (by rw [Nat.sub_add_cancel h2]; omega)
    omega) (b + 12) 0 (by omega) (Nat.zero_le _)
  unfold tokens
  rw [hl]
  rw [List.take_zero] at this
  rw [this, flush_one (by omega)]
end Go.Proofs.Ytmdpncjffikmiaa
