/- Damage of frames is seen: in plain words. -/
import Derived.Test.YtljfmcgeiceagaaDoorWalkWireHeads
import Derived.Test.YtljfmcgeiceagaaDoorRecDmP
namespace Go.Proofs.YtljfmcgeiceagaaDoor
open Go Go.RowKit
set_option linter.unusedVariables false
set_option linter.unusedSimpArgs false

theorem wrap_damage {mark : Nat} (hmk : mark < 256) {B D o : List Nat} {p : Nat} (hB : By B) (hbq : By D) (hlB : B.length ≤ 4087) (ho : By o) (h1 : 1 ≤ o.length) (h4 : o.length ≤ 4) (hp : p + o.length ≤ B.length + 9) (h9 : 9 ≤ p ∨ p + o.length ≤ 9)
    (hre : wrap mark D = over (wrap mark B) p o) : over (wrap mark B) p o = wrap mark B := by
  have hlw := wrap_length mark B
  have hlo := over_length (x := wrap mark B) (o := o) (p := p) (by omega)
  have hlD : D.length = B.length := by
    have := congrArg List.length hre
    rw [wrap_length, hlo, hlw] at this
    omega
  obtain ⟨_, a1, a2, a3⟩ := wrap_parts mark B
  obtain ⟨_, d1, d2, d3⟩ := wrap_parts mark D
  rcases h9 with h9 | h9
  · have hpre : (over (wrap mark B) p o).take 9 = (wrap mark B).take 9 := by
      unfold over
      rw [List.take_append_of_le_length (by rw [List.length_take]; omega), List.take_take, show min 9 p = 9 by omega]
    have h5 : ((over (wrap mark B) p o).drop 5).take 4 = ((wrap mark B).drop 5).take 4 := by
      have := congrArg (List.drop 5) hpre
      rw [List.drop_take, List.drop_take] at this
      exact this
    rw [← hre, d2, a2] at h5
    have hc : crcOf D = crcOf B := by
      have := congrArg val h5
      rw [val_fx (crcOf_lt hbq), val_fx (crcOf_lt hB)] at this
      exact this
    have hd9 : D = ((wrap mark B).take p).drop 9 ++ (o ++ (wrap mark B).drop (p + o.length)) := by
      rw [← d3, hre]
      unfold over
      rw [List.drop_append_of_le_length (by rw [List.length_take]; omega)]
    have hb9 : B = ((wrap mark B).take p).drop 9 ++ (((wrap mark B).drop p).take o.length ++ (wrap mark B).drop (p + o.length)) := by
      have := a3
      rw [over_split (x := wrap mark B) (p := p) (k := o.length) (by omega), List.drop_append_of_le_length (by rw [List.length_take]; omega)] at this
      exact this.symm
    have hby := wrap_by (mark := mark) hmk hB
    unfold crcOf at hc
    rw [hlD] at hc
    have ht := ext_burst (s := Crc.ext 0 (fx B.length 4)) (ext0_lt (fx_by _ _)) (l := ((wrap mark B).take p).drop 9) (t := o) (u := ((wrap mark B).drop p).take o.length) (r := (wrap mark B).drop (p + o.length)) ((hby.take p).drop 9) ho ((hby.drop p).take _) (hby.drop _) (by rw [List.length_take, List.length_drop]; omega) h4 (by rw [← hd9, ← hb9]; exact hc)
    have hs := over_split (x := wrap mark B) (p := p) (k := o.length) (by omega)
    rw [← ht] at hs
    exact hs.symm
  · have hd9 : D = B := by
      have hl : ((wrap mark B).take p ++ o).length = p + o.length := by
        rw [List.length_append, List.length_take]
        omega
      have e : (over (wrap mark B) p o).drop 9 = (wrap mark B).drop 9 := by
        unfold over
        rw [← List.append_assoc, List.drop_append, List.drop_of_length_le (by omega), List.nil_append, hl, List.drop_drop, show p + o.length + (9 - (p + o.length)) = 9 by omega]
      rw [← d3, hre, e, a3]
    rw [← hre, hd9]
theorem over_by {x o : List Nat} {p : Nat} (hx : By x) (ho : By o) : By (over x p o) := By.append (hx.take p) (By.append ho (hx.drop _))
theorem bd_damage {B o : List Nat} {p : Nat} (hB : By B) (hlB : B.length ≤ 4087) (ho : By o) (h1 : 1 ≤ o.length) (h4 : o.length ≤ 4) (hp : p + o.length ≤ B.length + 9) (h9 : 9 ≤ p ∨ p + o.length ≤ 9)
    (h : (bd (over (wrap 197 B) p o)).2 = 0) : over (wrap 197 B) p o = wrap 197 B := by
  have hby := over_by (p := p) (wrap_by (mark := 197) (by omega) hB) ho
  obtain ⟨hw, h9', hd⟩ := bd_wrapped hby h
  exact wrap_damage (by omega) hB (by rw [hd]; exact hby.drop 9) hlB ho h1 h4 hp h9 hw.symm
theorem bd_bad {b : List Nat} (h : (hd b).1 ≠ (b.length : Int)) : bd b = ([], 160) := by
  unfold bd
  rw [if_pos (.inr h)]
theorem bd_less {B : List Nat} (h1 : 0 < B.length) (h2 : B.length ≤ 4087) : bd ((wrap 197 B).take ((wrap 197 B).length - 1)) = ([], 160) := by
  have hl := wrap_length 197 B
  refine bd_bad ?_
  rw [hd_take_hi h1 h2 (by omega) (by omega), List.length_take]
  simp only
  omega
theorem hd_more {B m : List Nat} (h1 : 0 < B.length) (h2 : B.length ≤ 4087) : hd (wrap 197 B ++ m) = (((wrap 197 B).length : Int), 0) := by
  have hl := wrap_length 197 B
  have hw := hd_take_hi h1 h2 (k := (wrap 197 B).length) (by omega) (Nat.le_refl _)
  rw [List.take_of_length_le (Nat.le_refl _)] at hw
  obtain ⟨p0, p1, _, _⟩ := wrap_parts 197 B
  have e0 : (wrap 197 B ++ m).headD 0 = 197 := by rw [← p0]; cases h : wrap 197 B with | nil => rw [h] at hl; simp at hl | cons a r => rfl
  have e1 : ((wrap 197 B ++ m).drop 1).take 4 = fx B.length 4 := by
    rw [List.drop_append_of_le_length (by omega), List.take_append_of_le_length (by rw [List.length_drop]; omega)]
    exact p1
  unfold hd
  rw [e0, e1, val_fx (by omega), List.length_append, hl]
  rw [if_neg (by rintro ⟨_, h⟩; exact h rfl), if_neg (by omega), if_neg (by omega), if_neg (by omega)]
  congr 1
  omega
theorem bd_more {B m : List Nat} (h1 : 0 < B.length) (h2 : B.length ≤ 4087) (hm : 0 < m.length) : bd (wrap 197 B ++ m) = ([], 160) := by
  refine bd_bad ?_
  rw [hd_more h1 h2, List.length_append]
  simp only
  omega
theorem over_nil (x : List Nat) (p : Nat) : over x p [] = x := by unfold over; simp
theorem over_set {x o : List Nat} {p i y : Nat} (h : p + o.length ≤ x.length) (hy : o[i]? = some y) : (over x p (o.take i)).set (p + i) y = over x p (o.take (i + 1)) := by
  obtain ⟨hi, rfl⟩ := List.getElem?_eq_some_iff.1 hy
  have hl1 : (x.take p).length = p := by rw [List.length_take]; omega
  have hl2 : (o.take i).length = i := by rw [List.length_take]; omega
  have hl3 : (o.take (i + 1)).length = i + 1 := by rw [List.length_take]; omega
  unfold over
  rw [hl2, hl3, List.set_append_right _ _ (by omega), hl1, List.set_append_right _ _ (by omega), hl2, show p + i - p - i = 0 by omega, List.drop_eq_getElem_cons (by omega : p + i < x.length), List.set_cons_zero, List.take_succ_eq_append_getElem hi, List.append_assoc]
  rfl
end Go.Proofs.YtljfmcgeiceagaaDoor
