/- What is wrapped, in its parts. -/
import Derived.Test.YtljfmcgeiceagaaWrap
import Derived.Test.YtljfmcgeiceagaaRsBack
namespace Go.Proofs.Ytljfmcgeiceagaa
open Go Go.RowKit
set_option linter.unusedVariables false
set_option linter.unusedSimpArgs false

theorem Rs.take_ok {s : Rs} (h0 : s.err = 0) {k : Nat} (hk : k ≤ s.rest) : s.take (k : Int) = ((s.bs.drop s.p).take k, s.go k) := by
  unfold Rs.take
  rw [if_neg (by simp [h0]), if_neg (by omega), if_neg (by omega), show ((k : Int)).toNat = k by omega]
theorem split9 {b : List Nat} (h : 9 ≤ b.length) : b = [b.headD 0] ++ (b.drop 1).take 4 ++ (b.drop 5).take 4 ++ b.drop 9 := by
  cases b with
  | nil => simp at h
  | cons x r =>
    have e1 : r = r.take 4 ++ r.drop 4 := (List.take_append_drop 4 r).symm
    have e2 : r.drop 4 = (r.drop 4).take 4 ++ (r.drop 4).drop 4 := (List.take_append_drop 4 _).symm
    simp only [List.headD_cons, List.drop_succ_cons, List.drop_zero, List.cons_append, List.nil_append, List.cons.injEq, true_and, List.append_assoc]
    rw [List.drop_drop] at e2
    rw [← e2]
    exact e1
theorem wrap_parts (m : Nat) (body : List Nat) : (wrap m body).headD 0 = m ∧ ((wrap m body).drop 1).take 4 = fx body.length 4 ∧ ((wrap m body).drop 5).take 4 = fx (crcOf body) 4 ∧ (wrap m body).drop 9 = body := by
  have h1 := fx_length 4 body.length
  have h2 := fx_length 4 (crcOf body)
  unfold wrap
  refine ⟨by simp, ?_, ?_, ?_⟩
  · simp only [List.cons_append, List.nil_append, List.append_assoc, List.drop_succ_cons, List.drop_zero]
    rw [List.take_left' h1]
  · simp only [List.cons_append, List.nil_append, List.append_assoc, List.drop_succ_cons]
    rw [List.drop_left' h1, List.take_left' h2]
  · simp only [List.cons_append, List.nil_append, List.append_assoc, List.drop_succ_cons]
    rw [← List.append_assoc, List.drop_left' (by rw [List.length_append, h1, h2])]
end Go.Proofs.Ytljfmcgeiceagaa
