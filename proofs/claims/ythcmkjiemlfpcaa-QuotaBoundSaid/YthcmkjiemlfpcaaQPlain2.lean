/- The plain law of waits: they are exact. -/
import Derived.Test.YthcmkjiemlfpcaaQPlain
namespace Go.Proofs.Ythcmkjiemlfpcaa
set_option linter.unusedVariables false

/-- How long one has to wait. -/
def Bk.wait (c : Bk) (n : Int) : Int := (n * c.den - c.parts + c.num - 1) / c.num

theorem Bk.take_never {b : Bk} (h : b.Ok) {now n : Int} (h1 : n < 0 ∨ b.burst < n) : b.take now n = (b.fill now, -1) := by
  unfold Bk.take
  rw [if_neg (by simpa using h), if_pos h1]
theorem Bk.take_took {b : Bk} (h : b.Ok) {now n : Int} (h1 : 0 ≤ n) (h2 : n ≤ (b.fill now).level) : b.take now n = ({ b.fill now with level := (b.fill now).level - n }, 0) := by
  have := (h.fill now).l2
  have e := (Bk.fill_same b now).2.2
  unfold Bk.take
  rw [if_neg (by simpa using h), if_neg (by omega), if_neg (by omega)]
theorem Bk.take_wait {b : Bk} (h : b.Ok) {now n : Int} (h1 : (b.fill now).level < n) (h2 : n ≤ b.burst) : b.take now n = (b.fill now, (b.fill now).wait n) := by
  have := (h.fill now).l1
  have e := Bk.fill_same b now
  unfold Bk.take Bk.wait
  rw [if_neg (by simpa using h), if_neg (by omega), if_pos h1, e.1, e.2.1]

/-- A wait is one tick at least. -/
theorem Bk.Ok.wait_pos {c : Bk} (h : c.Ok) {n : Int} (h1 : c.level < n) : 1 ≤ c.wait n := by
  have h3 : ¬ n * c.den ≤ c.parts := fun hh => by
    have := (h.le_level n).2 hh
    omega
  have h4 : ¬ c.wait n ≤ 0 := fun hh => by
    have := (ceil_le h.n1).1 hh
    omega
  omega

theorem Bk.Ok.wait_then {c : Bk} (h : c.Ok) {n : Int} (h1 : c.level < n) (h2 : n ≤ c.burst) (h3 : c.tick + c.wait n ≤ 1125899906842623) :
    (c.take (c.tick + c.wait n) n).2 = 0 ∧ 0 < (c.take (c.tick + c.wait n - 1) n).2 := by
  have hw := h.wait_pos h1
  have l1 := h.l1
  have t1 := h.t1
  have hx : n * c.den - c.parts ≤ c.wait n * c.num := (ceil_le h.n1).1 (Int.le_refl (c.wait n))
  have hx' : ¬ n * c.den - c.parts ≤ (c.wait n - 1) * c.num := fun hh => by
    have : c.wait n ≤ c.wait n - 1 := (ceil_le h.n1).2 hh
    omega
  have hcap : n * c.den ≤ c.burst * c.den := Int.mul_le_mul_of_nonneg_right h2 (by have := h.d1; omega)
  constructor
  · have f := h.fill_parts (now := c.tick + c.wait n) (by omega)
    have hu : upto (c.tick + c.wait n) = c.tick + c.wait n := by unfold upto; omega
    rw [hu] at f
    have e : c.tick + c.wait n - c.tick = c.wait n := by omega
    rw [e] at f
    have hl : n ≤ (c.fill (c.tick + c.wait n)).level := by
      rw [(h.fill _).le_level, (Bk.fill_same c _).2.1, f.1]
      omega
    rw [Bk.take_took h (by omega) hl]
  · have f := h.fill_parts (now := c.tick + c.wait n - 1) (by omega)
    have hu : upto (c.tick + c.wait n - 1) = c.tick + c.wait n - 1 := by unfold upto; omega
    rw [hu] at f
    have e : c.tick + c.wait n - 1 - c.tick = c.wait n - 1 := by omega
    rw [e] at f
    have hl : ¬ n ≤ (c.fill (c.tick + c.wait n - 1)).level := by
      rw [(h.fill _).le_level, (Bk.fill_same c _).2.1, f.1]
      omega
    rw [Bk.take_wait h (by omega) h2]
    have := (h.fill (c.tick + c.wait n - 1)).wait_pos (n := n) (by omega)
    show 0 < Bk.wait _ n
    omega
end Go.Proofs.Ythcmkjiemlfpcaa
