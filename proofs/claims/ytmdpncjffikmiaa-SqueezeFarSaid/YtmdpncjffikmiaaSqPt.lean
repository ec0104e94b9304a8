/- A text in which no five bytes stand twice is one literal. -/
import Derived.Test.YtmdpncjffikmiaaSqHead
import Derived.Test.YtmdpncjffikmiaaSqEnc
namespace Go.Proofs.Ytmdpncjffikmiaa
open Go Go.RowKit
set_option linter.unusedVariables false
set_option linter.unusedSimpArgs false

theorem tok_none {t : List Nat} (h : ∀ i, i ≤ t.length → (best t i).1 = 0) : ∀ f i, t.length ≤ i + f → i ≤ t.length → tok t f i (t.take i) = flush t
  | f, i, hf, hi => by
    by_cases hlt : i < t.length
    · cases f with
      | zero => omega
      | succ f =>
        have hs := tok_step (f := f) (b := 0) rfl hlt (Nat.zero_le _) (h i hi)
        rw [List.drop_zero, List.drop_zero] at hs
        rw [hs]
        exact tok_none h f (i + 1) (by omega) hlt
    · rw [tok_end (by omega), List.take_of_length_le (by omega)]
theorem tokens_none {t : List Nat} (h : ∀ i d, 1 ≤ d → d ≤ i → i ≤ t.length → ml t i d < 5) : tokens t = flush t := by
  have := tok_none (t := t) (fun i hi => by rw [best_none hi (fun d h1 h2 _ => h i d h1 h2 hi)]) t.length 0 (by omega) (Nat.zero_le _)
  simpa [tokens] using this
theorem enc_none {t : List Nat} (h4 : t.length ≤ 4096) (h0 : 0 < t.length) (h : ∀ i d, 1 ≤ d → d ≤ i → i ≤ t.length → ml t i d < 5) : enc t = (Uv.uv t.length ++ (Uv.uv (2 * t.length) ++ t), 0) := by
  rw [enc_short (by omega), tokens_none h, flush_one h0]
  unfold blk
  rw [List.flatMap_cons, List.flatMap_nil, List.append_nil, bt_lit h0]

/-- Pairs of bytes that count. -/
def pb (i : Nat) : Nat := if i % 2 = 0 then i / 2 % 256 else i / 512 % 256
def pt (n : Nat) : List Nat := (List.range n).map pb
theorem pt_length (n : Nat) : (pt n).length = n := by simp [pt]
theorem pt_get {n i : Nat} (h : i < n) : (pt n)[i]? = some (pb i) := by simp [pt, h]
theorem pt_getD {n i : Nat} (h : i < n) : (pt n).getD i 0 = pb i := by rw [List.getD_eq_getElem?_getD, pt_get h]; rfl
theorem pb_lt (i : Nat) : pb i < 256 := by unfold pb; split <;> omega
theorem pt_by (n : Nat) : By (pt n) := fun b hb => by
  obtain ⟨i, _, rfl⟩ := List.mem_map.1 hb
  exact pb_lt i
theorem pb_even (a : Nat) : pb (2 * a) = a % 256 := by unfold pb; rw [if_pos (by omega)]; congr 1; omega
theorem pb_odd {a : Nat} (h : 2 * a + 1 < 4096) : pb (2 * a + 1) = a / 256 := by unfold pb; rw [if_neg (by omega)]; omega
/-- Three that count up by one, and three that stand still but once. -/
theorem cnt3 {a x : Nat} (h0 : a % 256 = x / 256) (h1 : (a + 1) % 256 = (x + 1) / 256) (h2 : (a + 2) % 256 = (x + 2) / 256) (hx : x < 4096) : False := by omega
theorem pt_ml {n i d : Nat} (hn : n ≤ 4096) (hd : 1 ≤ d) (hi : d ≤ i) (hin : i ≤ n) : ml (pt n) i d < 5 := by
  apply Classical.byContradiction
  intro hc
  have hl := ml_len (t := pt n) d (by rw [pt_length]; exact hin)
  rw [pt_length] at hl
  have he : ∀ k, k < 5 → pb (i + k) = pb (i + k - d) := fun k hk => by
    have := ml_eq (t := pt n) (i := i) (d := d) (k := k) (by omega)
    rw [pt_getD (by omega), pt_getD (by omega)] at this
    exact this
  have e0 := he 0 (by omega)
  have e1 := he 1 (by omega)
  have e2 := he 2 (by omega)
  have e3 := he 3 (by omega)
  have e4 := he 4 (by omega)
  clear he
  obtain ⟨a, ha⟩ : ∃ a, i = 2 * a ∨ i = 2 * a + 1 := ⟨i / 2, by omega⟩
  obtain ⟨c, hcc⟩ : ∃ c, i - d = 2 * c ∨ i - d = 2 * c + 1 := ⟨(i - d) / 2, by omega⟩
  rcases ha with ha | ha <;> rcases hcc with hcc | hcc
  · rw [show i + 0 = 2 * a by omega, show 2 * a - d = 2 * c by omega, pb_even, pb_even] at e0
    rw [show i + 1 - d = 2 * c + 1 by omega, show i + 1 = 2 * a + 1 by omega, pb_odd (by omega), pb_odd (by omega)] at e1
    omega
  · rw [show i + 0 = 2 * a by omega, show 2 * a - d = 2 * c + 1 by omega, pb_even, pb_odd (by omega)] at e0
    rw [show i + 2 - d = 2 * (c + 1) + 1 by omega, show i + 2 = 2 * (a + 1) by omega, pb_even, pb_odd (by omega)] at e2
    rw [show i + 4 - d = 2 * (c + 2) + 1 by omega, show i + 4 = 2 * (a + 2) by omega, pb_even, pb_odd (by omega)] at e4
    exact cnt3 e0 e2 e4 (by omega)
  · rw [show i + 0 = 2 * a + 1 by omega, show 2 * a + 1 - d = 2 * c by omega, pb_even, pb_odd (by omega)] at e0
    rw [show i + 2 - d = 2 * (c + 1) by omega, show i + 2 = 2 * (a + 1) + 1 by omega, pb_even, pb_odd (by omega)] at e2
    rw [show i + 4 - d = 2 * (c + 2) by omega, show i + 4 = 2 * (a + 2) + 1 by omega, pb_even, pb_odd (by omega)] at e4
    exact cnt3 e0.symm e2.symm e4.symm (by omega)
  · rw [show i + 1 - d = 2 * (c + 1) by omega, show i + 1 = 2 * (a + 1) by omega, pb_even, pb_even] at e1
    rw [show i + 0 = 2 * a + 1 by omega, show 2 * a + 1 - d = 2 * c + 1 by omega, pb_odd (by omega), pb_odd (by omega)] at e0
    omega
theorem enc_pt {n : Nat} (hn : n ≤ 4096) (h0 : 0 < n) : enc (pt n) = (Uv.uv n ++ (Uv.uv (2 * n) ++ pt n), 0) ∧ (Uv.uv n ++ (Uv.uv (2 * n) ++ pt n)).length = bnd n := by
  constructor
  · have := enc_none (t := pt n) (by rw [pt_length]; exact hn) (by rw [pt_length]; exact h0) (fun i d h1 h2 h3 => pt_ml hn h1 h2 (by rw [pt_length] at h3; exact h3))
    rw [pt_length] at this
    exact this
  · unfold bnd
    rw [if_neg (by omega), List.length_append, List.length_append, pt_length]
    omega
end Go.Proofs.Ytmdpncjffikmiaa
