/- What was written is read; a part of it is torn: in plain words. -/
import Derived.Test.YtjipebedibjoiaaRecScP
namespace Go.Proofs.Ytjipebedibjoiaa
open Go Go.RowKit
set_option linter.unusedVariables false
set_option linter.unusedSimpArgs false

theorem headD_append {l t : List Nat} (h : 0 < l.length) : (l ++ t).headD 0 = l.headD 0 := by
  cases l with
  | nil => simp at h
  | cons a r => rfl
theorem rdec_wrap {x : Rc} (hm : May x) (t : List Nat) : rdec (wrap 169 (bdy x) ++ t) = (x, (bdy x).length + 9, 0) := by
  have hb := bdy_len hm
  have hl := wrap_length 169 (bdy x)
  obtain ⟨p0, p1, p2, p3⟩ := wrap_parts 169 (bdy x)
  have e0 : (wrap 169 (bdy x) ++ t).headD 0 = 169 := by rw [headD_append (by omega), p0]
  have e1 : ((wrap 169 (bdy x) ++ t).drop 1).take 4 = fx (bdy x).length 4 := by
    rw [List.drop_append_of_le_length (by omega), List.take_append_of_le_length (by rw [List.length_drop]; omega), p1]
  have e9 : ((wrap 169 (bdy x) ++ t).drop 9).take (bdy x).length = bdy x := by
    rw [List.drop_append_of_le_length (by omega), p3, List.take_append_of_le_length (by omega), List.take_of_length_le (by omega)]
  have et : (wrap 169 (bdy x) ++ t).take (9 + (bdy x).length) = wrap 169 (bdy x) := by
    rw [List.take_append_of_le_length (by omega), List.take_of_length_le (by omega)]
  have hlen : (wrap 169 (bdy x) ++ t).length = (bdy x).length + 9 + t.length := by rw [List.length_append, hl]
  unfold rdec
  rw [e0, e1, val_fx (by omega), e9, et, rdm_bdy hm, hlen]
  rw [if_neg (by omega), if_neg (by omega), if_neg (by omega), if_neg (by omega), if_neg (by omega), if_pos ⟨may_chk hm, rfl⟩, Nat.add_comm]
theorem rdec_torn {x : Rc} (hm : May x) (i : Nat) (hi : i < (bdy x).length + 9) : rdec ((wrap 169 (bdy x)).take i) = (rc0, 0, 40) := by
  have hb := bdy_len hm
  have hl := wrap_length 169 (bdy x)
  obtain ⟨p0, p1, p2, p3⟩ := wrap_parts 169 (bdy x)
  have hlen : ((wrap 169 (bdy x)).take i).length = i := by rw [List.length_take]; omega
  unfold rdec
  rw [hlen]
  by_cases h0 : i = 0
  · rw [if_pos h0]
  have e0 : ((wrap 169 (bdy x)).take i).headD 0 = 169 := by
    rw [← p0]
    cases h : wrap 169 (bdy x) with
    | nil => rw [h] at hl; simp at hl
    | cons a r =>
      obtain ⟨j, rfl⟩ : ∃ j, i = j + 1 := ⟨i - 1, by omega⟩
      rfl
  rw [if_neg h0, e0, if_neg (by omega)]
  by_cases h5 : i < 5
  · rw [if_pos h5]
  have e1 : (((wrap 169 (bdy x)).take i).drop 1).take 4 = fx (bdy x).length 4 := by
    rw [List.drop_take, List.take_take, show min 4 (i - 1) = 4 by omega, p1]
  rw [if_neg h5, e1, val_fx (by omega), if_neg (by omega), if_pos (by omega)]
/-- A record's bytes. -/
theorem renc_of_rdec {b : List Nat} {x : Rc} {n : Nat} (h : rdec b = (x, n, 0)) : renc x = (b.take n, 0) ∧ May x ∧ n ≤ b.length := by
  rcases rdec_cases b with ⟨x', n', h', hm, _, _, hn, hw, _⟩ | h' | h'
  · rw [h] at h'
    obtain ⟨rfl, rfl, _⟩ := (by simpa using h' : x = x' ∧ n = n' ∧ True)
    exact ⟨by rw [renc, if_pos (may_chk hm), hw], hm, hn⟩
  · rw [h] at h'; simp at h'
  · rw [h] at h'; simp at h'
theorem rdec_bad {b : List Nat} (h : (rdec b).2.2 ≠ 0) : (rdec b).1 = rc0 ∧ (rdec b).2.1 = 0 := by
  rcases rdec_cases b with ⟨x', n', h', _⟩ | h' | h'
  · rw [h'] at h; simp at h
  · rw [h']; exact ⟨rfl, rfl⟩
  · rw [h']; exact ⟨rfl, rfl⟩
end Go.Proofs.Ytjipebedibjoiaa
