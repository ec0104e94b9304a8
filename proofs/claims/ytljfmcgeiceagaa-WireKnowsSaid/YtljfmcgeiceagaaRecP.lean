/- A record's bytes. -/
import Derived.Test.YtljfmcgeiceagaaRecT
import Derived.Test.YtljfmcgeiceagaaRefSums
import Derived.Test.YtljfmcgeiceagaaSqDec
import Derived.Test.YtljfmcgeiceagaaF2
import Derived.Test.YtljfmcgeiceagaaWrap
namespace Go.Proofs.Ytljfmcgeiceagaa
open Go Go.RowKit
set_option linter.unusedVariables false
set_option linter.unusedSimpArgs false

/-- A value's bytes as they are written; are they squeezed? -/
def shrt (v : List Nat) : List Nat × Bool := if (enc v).2 = 0 ∧ (enc v).1.length < v.length then ((enc v).1, true) else (v, false)
theorem shrt_len (v : List Nat) : (shrt v).1.length ≤ v.length := by unfold shrt; split <;> simp only <;> omega
theorem shrt_by {v : List Nat} (h : By v) (h4 : v.length ≤ 4096) : By (shrt v).1 := by
  unfold shrt
  split
  · rw [enc_short (by omega)]; exact by_blk h
  · exact h
def flg (x : Rc) : Nat := (if x.k = 2 then 1 else 0) + (if (shrt (sb x.val)).2 = true then 2 else 0) + (if 0 < x.p then 4 else 0)
def nums (x : Rc) : List Nat := if 0 < x.p then Uv.uv x.p.toNat ++ Uv.uv x.s.toNat else []
def bdy (x : Rc) : List Nat := [flg x] ++ Uv.uv x.o.toNat ++ Uv.uv x.t.toNat ++ nums x ++ Uv.uv x.key.size ++ sb x.key ++ (shrt (sb x.val)).1
def renc (x : Rc) : List Nat × Int := if chk x = 0 then (wrap 169 (bdy x), 0) else ([], (chk x : Nat))
theorem flg_lt (x : Rc) : flg x < 8 := by unfold flg; split <;> split <;> split <;> omega
/-- What a record that may be is like. -/
structure May (x : Rc) : Prop where
  k : x.k = 1 ∨ x.k = 2
  o : 0 ≤ x.o ∧ x.o < 1099511627776
  t : 0 ≤ x.t ∧ x.t < 1125899906842624
  p : 0 ≤ x.p ∧ x.p < 4294967296
  s : 0 ≤ x.s ∧ x.s < 1099511627776
  ps : (x.p = 0 ∧ x.s = 0) ∨ (0 < x.p ∧ 1 ≤ x.s)
  key : 1 ≤ x.key.size ∧ x.key.size ≤ 64
  val : x.val.size ≤ 1024
  tomb : x.k = 2 → x.val.size = 0
theorem chk_may {x : Rc} (h : chk x = 0) : May x := by
  unfold chk at h
  by_cases c1 : x.k ≠ 1 ∧ x.k ≠ 2
  · rw [if_pos c1] at h; omega
  rw [if_neg c1] at h
  by_cases c2 : ¬ (0 ≤ x.o ∧ x.o < 1099511627776)
  · rw [if_pos c2] at h; omega
  rw [if_neg c2] at h
  by_cases c3 : ¬ (0 ≤ x.t ∧ x.t < 1125899906842624)
  · rw [if_pos c3] at h; omega
  rw [if_neg c3] at h
  by_cases c4 : ¬ (0 ≤ x.p ∧ x.p < 4294967296)
  · rw [if_pos c4] at h; omega
  rw [if_neg c4] at h
  by_cases c5 : x.p = 0 ∧ x.s ≠ 0
  · rw [if_pos c5] at h; omega
  rw [if_neg c5] at h
  by_cases c6 : 0 < x.p ∧ ¬ (1 ≤ x.s ∧ x.s < 1099511627776)
  · rw [if_pos c6] at h; omega
  rw [if_neg c6] at h
  by_cases c7 : x.key.size < 1 ∨ 64 < x.key.size
  · rw [if_pos c7] at h; omega
  rw [if_neg c7] at h
  by_cases c8 : 1024 < x.val.size ∨ (x.k = 2 ∧ 0 < x.val.size)
  · rw [if_pos c8] at h; omega
  exact ⟨by omega, by omega, by omega, by omega, by omega, by omega, by omega, by omega, by omega⟩
theorem may_chk {x : Rc} (h : May x) : chk x = 0 := by
  obtain ⟨h1, h2, h3, h4, h5, h6, h7, h8, h9⟩ := h
  unfold chk
  rw [if_neg (by omega), if_neg (by omega), if_neg (by omega), if_neg (by omega), if_neg (by omega), if_neg (by omega), if_neg (by omega), if_neg (by omega)]
theorem nums_by {x : Rc} : By (nums x) := by
  unfold nums
  split
  · exact By.append (Uv.uv_lt _) (Uv.uv_lt _)
  · exact fun b hb => by cases hb
theorem bdy_by {x : Rc} (h : May x) : By (bdy x) := by
  unfold bdy
  refine By.append (By.append (By.append (By.append (By.append (By.append ?_ (Uv.uv_lt _)) (Uv.uv_lt _)) nums_by) (Uv.uv_lt _)) (sb_by _)) (shrt_by (sb_by _) (by rw [sb_length]; have := h.val; omega))
  intro b hb
  simp only [List.mem_singleton] at hb
  have := flg_lt x
  omega
theorem nums_len {x : Rc} (h : May x) : (nums x).length ≤ 11 := by
  unfold nums
  split
  · have h3 := Uv.uv_len_pow 4 x.p.toNat (by have := h.p; omega)
    have h4 := Uv.uv_len_pow 5 x.s.toNat (by have := h.s; omega)
    rw [List.length_append]; omega
  · simp
theorem bdy_len {x : Rc} (h : May x) : 5 ≤ (bdy x).length ∧ (bdy x).length ≤ 1115 := by
  have h1 := Uv.uv_len_pow 5 x.o.toNat (by have := h.o; omega)
  have h2 := Uv.uv_len_pow 7 x.t.toNat (by have := h.t; omega)
  have h5 := Uv.uv_len_pow 0 x.key.size (by have := h.key; omega)
  have h6 := shrt_len (sb x.val)
  have h7 := h.val
  have h8 := h.key
  have h9 := nums_len h
  have p1 := Uv.uv_pos x.o.toNat
  have p2 := Uv.uv_pos x.t.toNat
  have p3 := Uv.uv_pos x.key.size
  unfold bdy
  simp only [List.length_append, List.length_cons, List.length_nil, sb_length] at h6 ⊢
  omega
end Go.Proofs.Ytljfmcgeiceagaa
