/- Readers over bytes that were written. -/
import Derived.Test.YtljfmcgeiceagaaF2
import Derived.Test.YtljfmcgeiceagaaF4
namespace Go.Proofs.Ytljfmcgeiceagaa
open Go Go.RowKit
set_option linter.unusedVariables false
set_option linter.unusedSimpArgs false

theorem ru_all (v : Nat) (t : List Nat) (h : v < 18446744073709551616) : Uv.ru 0 0 (Uv.uv v ++ t) = (v, (Uv.uv v).length, 0) := by
  have := Uv.ru_uv t v 0 0 (by simpa using h) (by omega) (fun h => absurd h (by omega))
  simpa using this
section
variable {pre b post : List Nat}
theorem take_read {n : Nat} (hb : b.length = n) : (⟨pre ++ (b ++ post), pre.length, 0, 0⟩ : Rs).take n = (b, ⟨pre ++ (b ++ post), pre.length + n, 0, 0⟩) := by
  unfold Rs.take Rs.rest Rs.go
  rw [if_neg (by simp), if_neg (by omega), if_neg (by simp; omega)]
  subst hb
  simp
theorem num_read {v : Nat} (hv : v < 18446744073709551616) : (⟨pre ++ (Uv.uv v ++ post), pre.length, 0, 0⟩ : Rs).num = (v, ⟨pre ++ (Uv.uv v ++ post), pre.length + (Uv.uv v).length, 0, 0⟩) := by
  unfold Rs.num Rs.go
  simp [ru_all v post hv]
theorem text_read {s : ByteArray} {most : Int} (hs : s.size ≤ 140737488351232) (hm : (s.size : Int) ≤ most) :
    (⟨pre ++ ((Uv.uv s.size ++ sb s) ++ post), pre.length, 0, 0⟩ : Rs).text most = (sb s, ⟨pre ++ ((Uv.uv s.size ++ sb s) ++ post), pre.length + (Uv.uv s.size ++ sb s).length, 0, 0⟩) := by
  have hn := num_read (pre := pre) (post := sb s ++ post) (v := s.size) (by omega)
  rw [← List.append_assoc (Uv.uv s.size)] at hn
  unfold Rs.text
  rw [hn]
  simp only [ne_eq, not_true_eq_false, if_false]
  rw [if_neg (by omega)]
  unfold Rs.rest Rs.go
  have hl : (sb s).length = s.size := sb_length s
  rw [if_neg (by simp only [List.length_append]; omega)]
  have e1 : pre ++ (Uv.uv s.size ++ sb s ++ post) = (pre ++ Uv.uv s.size) ++ (sb s ++ post) := by simp
  have e2 : (pre ++ Uv.uv s.size).length = pre.length + (Uv.uv s.size).length := List.length_append
  have e3 : ((pre ++ (Uv.uv s.size ++ sb s ++ post)).drop (pre.length + (Uv.uv s.size).length)).take s.size = sb s := by
    rw [e1, ← e2, List.drop_left, List.take_left' hl]
  rw [e3]
  simp only [List.length_append, hl, Nat.add_assoc]
theorem take_back {s : Rs} {n : Nat} (h0 : s.err = 0) (h : (s.take n).2.err = 0) : n ≤ s.rest ∧ s.take n = ((s.bs.drop s.p).take n, s.go n) := by
  unfold Rs.take at h ⊢
  rw [if_neg (by simpa using h0), if_neg (by omega)] at h ⊢
  by_cases hr : (s.rest : Int) < n
  · rw [if_pos hr] at h
    rw [Rs.fail, Rs.failAt_yes _ h0 (by decide)] at h
    simp at h
  · rw [if_neg hr]
    exact ⟨by omega, rfl⟩
theorem num_back {s : Rs} (hok : s.Ok) (h0 : s.err = 0) (h : s.num.2.err = 0) : s.num.1 < 18446744073709551616 ∧ (Uv.uv s.num.1).length ≤ s.rest ∧ s.num.2 = s.go (Uv.uv s.num.1).length ∧ (s.bs.drop s.p).take (Uv.uv s.num.1).length = Uv.uv s.num.1 := by
  obtain ⟨v, k, x, hr, hv, ⟨rfl, hk, hn⟩ | ⟨hx, rfl, hn⟩⟩ := Rs.num_cases hok h0
  · rw [hn]
    obtain ⟨v', a1, a2, a3, a4, _, _⟩ := Uv.ru_taken (s.bs.drop s.p) 0 0 (by_drop hok.by_ s.p) (by omega) (by omega) (by rw [hr])
    rw [hr] at a1 a2
    simp only [Nat.pow_zero, Nat.mul_one, Nat.zero_add] at a1 a2
    subst a1 a2
    simp only [List.length_drop] at a3
    exact ⟨hv, a3, rfl, a4⟩
  · rw [hn] at h
    simp only at h
    omega
theorem ru_cut0 {v k : Nat} (hv : v < 18446744073709551616) (hk : k < (Uv.uv v).length) : Uv.ru 0 0 ((Uv.uv v).take k) = (0, 0, 10) :=
  Uv.ru_cut v 0 0 k (by simpa using hv) (by omega) (fun h => absurd h (by omega)) hk
theorem num_short {v k : Nat} (hv : v < 18446744073709551616) (hk : k < (Uv.uv v).length) : (⟨pre ++ (Uv.uv v).take k, pre.length, 0, 0⟩ : Rs).num = (0, ⟨pre ++ (Uv.uv v).take k, (pre ++ (Uv.uv v).take k).length, 10, pre.length⟩) := by
  unfold Rs.num Rs.fail Rs.failAt
  simp [ru_cut0 hv hk]
theorem take_shortB {n : Nat} (hb : b.length < n) : (⟨pre ++ b, pre.length, 0, 0⟩ : Rs).take n = ([], ⟨pre ++ b, (pre ++ b).length, 10, pre.length⟩) := by
  unfold Rs.take Rs.rest Rs.fail Rs.failAt
  rw [if_neg (by simp), if_neg (by omega), if_pos (by simp; omega)]
  simp
end
end Go.Proofs.Ytljfmcgeiceagaa
