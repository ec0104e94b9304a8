/- Readers: their state, and what it comes to. -/
import Derived.Test.YtmdpncjffikmiaaStep
import Derived.Test.YtmdpncjffikmiaaOctRead2
import Derived.Test.YtmdpncjffikmiaaOctRead
import Derived.Test.YtmdpncjffikmiaaOctZig
namespace Go.Proofs.Ytmdpncjffikmiaa
open Go Go.RowKit
set_option linter.unusedVariables false
set_option linter.unusedSimpArgs false

/-- The bytes, where it stands, the error, its place. -/
structure Rs where
  bs : List Nat
  p : Nat
  err : Int
  ea : Nat

structure Rs.Ok (s : Rs) : Prop where
  le : s.p ≤ s.bs.length
  by_ : By s.bs
  sz : s.bs.length ≤ 140737488351232
  zero : s.err = 0 → s.ea = 0
  bad : s.err ≠ 0 → s.p = s.bs.length
  e64 : -9223372036854775808 ≤ s.err ∧ s.err ≤ 9223372036854775807
  ela : s.ea ≤ s.bs.length

def Rs.failAt (s : Rs) (e : Int) (q : Nat) : Rs := if s.err ≠ 0 ∨ e = 0 then s else ⟨s.bs, s.bs.length, e, q⟩
def Rs.fail (s : Rs) (e : Int) : Rs := s.failAt e s.p
def Rs.rest (s : Rs) : Nat := s.bs.length - s.p
def Rs.go (s : Rs) (n : Nat) : Rs := ⟨s.bs, s.p + n, s.err, s.ea⟩
def Rs.take (s : Rs) (n : Int) : List Nat × Rs :=
  if s.err ≠ 0 then ([], s) else if n < 0 then ([], s.fail 14) else if (s.rest : Int) < n then ([], s.fail 10) else ((s.bs.drop s.p).take n.toNat, s.go n.toNat)
def Rs.num (s : Rs) : Nat × Rs :=
  if s.err ≠ 0 then (0, s) else if (Uv.ru 0 0 (s.bs.drop s.p)).2.2 = 0 then ((Uv.ru 0 0 (s.bs.drop s.p)).1, s.go (Uv.ru 0 0 (s.bs.drop s.p)).2.1) else (0, s.fail ((Uv.ru 0 0 (s.bs.drop s.p)).2.2 : Nat))
def Rs.text (s : Rs) (most : Int) : List Nat × Rs :=
  if s.err ≠ 0 then ([], s) else
  if s.num.2.err ≠ 0 then ([], s.num.2) else
  if (max most 0) < (s.num.1 : Int) then ([], s.num.2.failAt 14 s.p) else
  if s.num.2.rest < s.num.1 then ([], s.num.2.failAt 10 s.p) else
  (((s.bs.drop s.num.2.p).take s.num.1), s.num.2.go s.num.1)

theorem Rs.failAt_bs (s : Rs) (e : Int) (q : Nat) : (s.failAt e q).bs = s.bs := by unfold Rs.failAt; split <;> rfl
theorem Rs.fail_bs (s : Rs) (e : Int) : (s.fail e).bs = s.bs := s.failAt_bs e s.p
theorem Rs.failAt_yes {s : Rs} {e : Int} (q : Nat) (h : s.err = 0) (he : e ≠ 0) : s.failAt e q = ⟨s.bs, s.bs.length, e, q⟩ := by simp [Rs.failAt, h, he]
theorem Rs.failAt_bad {s : Rs} {e : Int} (q : Nat) (h : s.err ≠ 0) : s.failAt e q = s := by simp [Rs.failAt, h]
theorem Rs.failAt_ok {s : Rs} (q : Nat) : s.failAt 0 q = s := by simp [Rs.failAt]
theorem Rs.Ok.failAt {s : Rs} (h : s.Ok) {e : Int} (he : -9223372036854775808 ≤ e ∧ e ≤ 9223372036854775807) {q : Nat} (hq : q ≤ s.bs.length) : (s.failAt e q).Ok := by
  unfold Rs.failAt
  split
  · exact h
  · rename_i hn
    have hn1 : ¬ e = 0 := fun h => hn (.inr h)
    exact ⟨Nat.le_refl _, h.by_, h.sz, fun h => absurd h hn1, fun _ => rfl, he, hq⟩
theorem Rs.Ok.fail {s : Rs} (h : s.Ok) {e : Int} (he : -9223372036854775808 ≤ e ∧ e ≤ 9223372036854775807) : (s.fail e).Ok := h.failAt he h.le
theorem Rs.Ok.go {s : Rs} (h : s.Ok) (h0 : s.err = 0) {n : Nat} (hn : s.p + n ≤ s.bs.length) : (s.go n).Ok := ⟨hn, h.by_, h.sz, h.zero, fun h' => absurd h0 h', h.e64, h.ela⟩
theorem Rs.Ok.take {s : Rs} (h : s.Ok) (n : Int) : (s.take n).2.Ok := by
  unfold Rs.take
  have := h.le
  split
  · exact h
  split
  · exact h.fail (by omega)
  split
  · exact h.fail (by omega)
  · rename_i h1 h2 h3
    simp only [Rs.rest] at h3
    refine h.go (by simpa using h1) ?_
    omega
theorem Rs.take_by {s : Rs} (h : s.Ok) (n : Int) : By (s.take n).1 := by
  unfold Rs.take
  split
  · intro b hb; cases hb
  split
  · intro b hb; cases hb
  split
  · intro b hb; cases hb
  · intro b hb
    exact h.by_ b (List.mem_of_mem_drop (List.mem_of_mem_take hb))
theorem ru_taken0 {b : List Nat} (h : By b) (h0 : (Uv.ru 0 0 b).2.2 = 0) : (Uv.ru 0 0 b).2.1 ≤ b.length ∧ (Uv.ru 0 0 b).1 < 18446744073709551616 := by
  obtain ⟨v, h1, h2, h3, _, _, h6⟩ := Uv.ru_taken b 0 0 h (by omega) (by omega) h0
  omega
theorem ru_code (b : List Nat) : ((Uv.ru 0 0 b).2.2 = 0 ∨ (Uv.ru 0 0 b).2.2 = 10 ∨ (Uv.ru 0 0 b).2.2 = 11) ∧ ((Uv.ru 0 0 b).2.2 ≠ 0 → (Uv.ru 0 0 b).1 = 0) := by
  rcases Uv.ru_err b 0 0 with h | ⟨h1, h2, h3⟩
  · exact ⟨.inl h, fun h' => absurd h h'⟩
  · refine ⟨.inr h3, fun _ => h1⟩
theorem by_drop {b : List Nat} (h : By b) (n : Nat) : By (b.drop n) := fun x hx => h x (List.mem_of_mem_drop hx)

/-- What a number comes to, told apart. -/
theorem Rs.num_bad {s : Rs} (h : s.err ≠ 0) : s.num = (0, s) := by simp [Rs.num, h]
theorem Rs.num_cases {s : Rs} (h : s.Ok) (h0 : s.err = 0) : ∃ v k x : Nat, Uv.ru 0 0 (s.bs.drop s.p) = (v, k, x) ∧ v < 18446744073709551616 ∧
    ((x = 0 ∧ s.p + k ≤ s.bs.length ∧ s.num = (v, s.go k)) ∨ ((x = 10 ∨ x = 11) ∧ v = 0 ∧ s.num = (0, ⟨s.bs, s.bs.length, (x : Int), s.p⟩))) := by
  obtain ⟨⟨v, k, x⟩, hr⟩ : ∃ r, r = Uv.ru 0 0 (s.bs.drop s.p) := ⟨_, rfl⟩
  have hc := ru_code (s.bs.drop s.p)
  have hn : s.num = if x = 0 then (v, s.go k) else (0, s.fail (x : Int)) := by
    unfold Rs.num
    rw [← hr]
    simp only [h0, ne_eq, not_true_eq_false, if_false]
  refine ⟨v, k, x, hr.symm, ?_, ?_⟩
  · by_cases hx : x = 0
    · have := (ru_taken0 (by_drop h.by_ s.p) (by rw [← hr]; exact hx)).2
      rw [← hr] at this
      exact this
    · have := hc.2 (by rw [← hr]; exact hx)
      rw [← hr] at this
      simp only at this
      omega
  · by_cases hx : x = 0
    · have h1 := (ru_taken0 (by_drop h.by_ s.p) (by rw [← hr]; exact hx)).1
      rw [← hr] at h1
      simp only [List.length_drop] at h1
      have := h.le
      exact .inl ⟨hx, by omega, by rw [hn, if_pos hx]⟩
    · have h1 := hc.1
      have h2 := hc.2 (by rw [← hr]; exact hx)
      rw [← hr] at h1 h2
      simp only at h1 h2
      refine .inr ⟨by omega, h2, ?_⟩
      rw [hn, if_neg hx, Rs.fail, Rs.failAt_yes _ h0 (by omega)]
theorem Rs.Ok.num {s : Rs} (h : s.Ok) : s.num.2.Ok ∧ s.num.1 < 18446744073709551616 ∧ s.num.2.bs = s.bs := by
  by_cases h0 : s.err = 0
  · obtain ⟨v, k, x, _, hv, h1 | h1⟩ := Rs.num_cases h h0
    · rw [h1.2.2]
      exact ⟨h.go h0 h1.2.1, hv, rfl⟩
    · rw [h1.2.2]
      exact ⟨⟨Nat.le_refl _, h.by_, h.sz, fun h => by simp only at h; omega, fun _ => rfl, by simp only; omega, h.le⟩, by simp, rfl⟩
  · rw [Rs.num_bad h0]
    exact ⟨h, by simp, rfl⟩
theorem Rs.num_ok {s : Rs} (h : s.Ok) (he : s.num.2.err = 0) : s.err = 0 := by
  apply Classical.byContradiction
  intro h0
  rw [Rs.num_bad h0] at he
  exact h0 he
theorem Rs.Ok.text {s : Rs} (h : s.Ok) (most : Int) : (s.text most).2.Ok ∧ By (s.text most).1 := by
  have hn := h.num
  have nl : By ([] : List Nat) := fun b hb => by cases hb
  unfold Rs.text
  split
  · exact ⟨h, nl⟩
  split
  · exact ⟨hn.1, nl⟩
  have hp : s.p ≤ s.num.2.bs.length := by rw [hn.2.2]; exact h.le
  split
  · exact ⟨hn.1.failAt (by omega) hp, nl⟩
  split
  · exact ⟨hn.1.failAt (by omega) hp, nl⟩
  · rename_i h1 h2 h3 h4
    have := hn.1.le
    simp only [Rs.rest] at h4
    refine ⟨hn.1.go (by simpa using h2) (by omega), fun b hb => h.by_ b (List.mem_of_mem_drop (List.mem_of_mem_take hb))⟩
end Go.Proofs.Ytmdpncjffikmiaa
