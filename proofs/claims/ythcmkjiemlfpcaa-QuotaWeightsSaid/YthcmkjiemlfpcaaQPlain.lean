/- The plain law of buckets: what Check, Fill and Take come to, in whole numbers. -/
namespace Go.Proofs.Ythcmkjiemlfpcaa
set_option linter.unusedVariables false

/-- A bucket. -/
structure Bk where
  num : Int
  den : Int
  burst : Int
  level : Int
  part : Int
  tick : Int
deriving DecidableEq

/-- Which buckets there are. -/
structure Bk.Ok (b : Bk) : Prop where
  n1 : 1 ≤ b.num
  n2 : b.num ≤ 1073741824
  d1 : 1 ≤ b.den
  d2 : b.den ≤ 1048576
  u1 : 1 ≤ b.burst
  u2 : b.burst ≤ 1073741824
  l1 : 0 ≤ b.level
  l2 : b.level ≤ b.burst
  p1 : 0 ≤ b.part
  p2 : b.part ≤ b.den - 1
  z : b.level = b.burst → b.part = 0
  t1 : 0 ≤ b.tick
  t2 : b.tick ≤ 1125899906842623

instance (b : Bk) : Decidable b.Ok :=
  decidable_of_iff ((1 ≤ b.num ∧ b.num ≤ 1073741824 ∧ 1 ≤ b.den ∧ b.den ≤ 1048576 ∧ 1 ≤ b.burst ∧ b.burst ≤ 1073741824) ∧ (0 ≤ b.level ∧ b.level ≤ b.burst ∧ 0 ≤ b.part ∧ b.part ≤ b.den - 1) ∧ (b.level = b.burst → b.part = 0) ∧ 0 ≤ b.tick ∧ b.tick ≤ 1125899906842623)
    ⟨fun ⟨⟨a, b, c, d, e, f⟩, ⟨g, h, i, j⟩, k, l, m⟩ => ⟨a, b, c, d, e, f, g, h, i, j, k, l, m⟩, fun ⟨a, b, c, d, e, f, g, h, i, j, k, l, m⟩ => ⟨⟨a, b, c, d, e, f⟩, ⟨g, h, i, j⟩, k, l, m⟩⟩

/-- The parts in a bucket, and what it holds. -/
def Bk.parts (b : Bk) : Int := b.level * b.den + b.part
def Bk.room (b : Bk) : Int := b.burst * b.den - b.parts

/-- The tick to which a bucket is filled. -/
def upto (now : Int) : Int := min now 1125899906842623

/-- Filled. -/
def Bk.fill (b : Bk) (now : Int) : Bk :=
  if ¬ b.Ok ∨ now ≤ b.tick then b
  else if b.room ≤ (upto now - b.tick) * b.num then { b with level := b.burst, part := 0, tick := upto now }
  else { b with level := (b.parts + (upto now - b.tick) * b.num) / b.den, part := (b.parts + (upto now - b.tick) * b.num) % b.den, tick := upto now }

theorem ceil_le {p x n : Int} (hn : 1 ≤ n) : (x + n - 1) / n ≤ p ↔ x ≤ p * n := by
  constructor
  · intro h
    have h1 : (x + n - 1) % n < n := Int.emod_lt_of_pos _ (by omega)
    have h2 := Int.mul_ediv_add_emod (x + n - 1) n
    have h3 : n * ((x + n - 1) / n) ≤ n * p := Int.mul_le_mul_of_nonneg_left h (by omega)
    rw [Int.mul_comm p n]
    omega
  · intro h
    have : (x + n - 1) / n < p + 1 := by
      rw [Int.ediv_lt_iff_lt_mul (by omega), Int.add_mul, Int.one_mul]
      omega
    omega

theorem div_lt {p x n : Int} (hn : 1 ≤ n) : x / n < p → x ≤ p * n := fun h => by
  have : x < p * n := (Int.ediv_lt_iff_lt_mul (by omega)).1 h
  omega

theorem mul_bd {a b A B : Int} (h0 : 0 ≤ a) (h1 : a ≤ A) (h2 : 0 ≤ b) (h3 : b ≤ B) : 0 ≤ a * b ∧ a * b ≤ A * B :=
  ⟨Int.mul_nonneg h0 h2, Int.mul_le_mul h1 h3 h2 (by omega)⟩

/-- Bounds that the walk of Fill wants. -/
structure Bk.Bd (b : Bk) : Prop where
  a1 : 0 ≤ b.level * b.den
  a2 : b.level * b.den ≤ b.burst * b.den
  a3 : b.burst * b.den ≤ 1125899906842624
  a4 : b.parts ≤ b.burst * b.den
  a5 : 0 ≤ b.parts
  a6 : 1 ≤ b.burst * b.den
theorem Bk.Ok.bd {b : Bk} (h : b.Ok) : b.Bd := by
  obtain ⟨n1, n2, d1, d2, u1, u2, l1, l2, p1, p2, z, t1, t2⟩ := h
  have h1 := mul_bd l1 l2 (by omega : 0 ≤ b.den) (Int.le_refl _)
  have h2 := mul_bd (by omega : 0 ≤ b.burst) u2 (by omega : 0 ≤ b.den) d2
  have h4 : 1 * b.den ≤ b.burst * b.den := Int.mul_le_mul_of_nonneg_right u1 (by omega)
  have h3 : b.parts ≤ b.burst * b.den := by
    unfold Bk.parts
    by_cases e : b.level = b.burst
    · rw [e, z e]; omega
    · have h : (b.level + 1) * b.den ≤ b.burst * b.den := Int.mul_le_mul_of_nonneg_right (by omega) (by omega)
      rw [Int.add_mul, Int.one_mul] at h
      omega
  exact ⟨h1.1, h1.2, by omega, h3, by unfold Bk.parts; omega, by omega⟩

/-- What is filled may be again. -/
theorem Bk.Ok.fill {b : Bk} (h : b.Ok) (now : Int) : (b.fill now).Ok := by
  have hb := h.bd
  unfold Bk.fill
  split
  · exact h
  · rename_i hn
    have ht : b.tick < now := by
      rcases Int.lt_or_le b.tick now with h' | h'
      · exact h'
      · exact absurd (Or.inr h') hn
    obtain ⟨n1, n2, d1, d2, u1, u2, l1, l2, p1, p2, z, t1, t2⟩ := h
    have hu : 0 ≤ upto now ∧ upto now ≤ 1125899906842623 ∧ b.tick ≤ upto now := by unfold upto; omega
    split
    · exact ⟨n1, n2, d1, d2, u1, u2, by simp; omega, by simp, by simp, by simp; omega, by simp, hu.1, hu.2.1⟩
    · rename_i hr
      have hm : 0 ≤ (upto now - b.tick) * b.num := Int.mul_nonneg (by omega) (by omega)
      have hlt : b.parts + (upto now - b.tick) * b.num < b.burst * b.den := by unfold Bk.room at hr; omega
      have h0 := hb.a5
      have hd : (b.parts + (upto now - b.tick) * b.num) / b.den < b.burst := (Int.ediv_lt_iff_lt_mul (by omega)).2 hlt
      have hd0 : 0 ≤ (b.parts + (upto now - b.tick) * b.num) / b.den := Int.ediv_nonneg (by omega) (by omega)
      have he := Int.emod_lt_of_pos (b.parts + (upto now - b.tick) * b.num) (show 0 < b.den by omega)
      have he0 := Int.emod_nonneg (b.parts + (upto now - b.tick) * b.num) (show b.den ≠ 0 by omega)
      exact ⟨n1, n2, d1, d2, u1, u2, hd0, by simp; omega, he0, by simp; omega, by simp; omega, hu.1, hu.2.1⟩

theorem Bk.fill_same (b : Bk) (now : Int) : (b.fill now).num = b.num ∧ (b.fill now).den = b.den ∧ (b.fill now).burst = b.burst := by
  unfold Bk.fill
  split
  · exact ⟨rfl, rfl, rfl⟩
  · split <;> exact ⟨rfl, rfl, rfl⟩

/-- Of a bucket that may be, filled at a later tick: all in one way. -/
theorem Bk.Ok.fill_parts {b : Bk} (h : b.Ok) {now : Int} (hn : b.tick ≤ now) :
    (b.fill now).parts = min (b.burst * b.den) (b.parts + (upto now - b.tick) * b.num) ∧ (b.fill now).tick = upto now := by
  have hb := h.bd
  have t2 := h.t2
  unfold Bk.fill
  split
  · rename_i hh
    have ht : now = b.tick := by
      rcases hh with hh | hh
      · exact absurd h hh
      · omega
    have hu : upto now = b.tick := by unfold upto; omega
    refine ⟨?_, hu.symm⟩
    rw [hu, Int.sub_self, Int.zero_mul]
    have := hb.a4
    omega
  · split
    · rename_i hr
      unfold Bk.room at hr
      exact ⟨by unfold Bk.parts at *; simp only; omega, rfl⟩
    · rename_i hr
      unfold Bk.room at hr
      refine ⟨?_, rfl⟩
      show (b.parts + (upto now - b.tick) * b.num) / b.den * b.den + (b.parts + (upto now - b.tick) * b.num) % b.den = _
      have := Int.mul_ediv_add_emod (b.parts + (upto now - b.tick) * b.num) b.den
      rw [Int.mul_comm] at this
      omega

/-- A bucket that may be is known by its parts. -/
theorem Bk.ext_parts {a b : Bk} (ha : a.Ok) (hb : b.Ok) (h1 : a.num = b.num) (h2 : a.den = b.den) (h3 : a.burst = b.burst) (h4 : a.parts = b.parts) (h5 : a.tick = b.tick) : a = b := by
  obtain ⟨n, d, u, l, p, t⟩ := a
  obtain ⟨n', d', u', l', p', t'⟩ := b
  simp only at h1 h2 h3 h5
  subst h1 h2 h3 h5
  unfold Bk.parts at h4
  simp only at h4
  have d1 := ha.d1
  have e1 := ha.p1
  have e2 := ha.p2
  have e3 := hb.p1
  have e4 := hb.p2
  simp only at d1 e1 e2 e3 e4
  have hl : l = l' := by
    have q1 : (l * d + p) / d = l := by
      rw [Int.add_comm, Int.add_mul_ediv_right _ _ (by omega), Int.ediv_eq_zero_of_lt e1 (by omega)]; omega
    have q2 : (l' * d + p') / d = l' := by
      rw [Int.add_comm, Int.add_mul_ediv_right _ _ (by omega), Int.ediv_eq_zero_of_lt e3 (by omega)]; omega
    rw [← q1, ← q2, h4]
  subst hl
  have : p = p' := by omega
  subst this
  rfl

/-- The level by the parts. -/
theorem Bk.Ok.level_eq {b : Bk} (h : b.Ok) : b.level = b.parts / b.den := by
  have d1 := h.d1
  have e1 := h.p1
  have e2 := h.p2
  unfold Bk.parts
  rw [Int.add_comm, Int.add_mul_ediv_right _ _ (by omega), Int.ediv_eq_zero_of_lt e1 (by omega)]
  omega
/-- A level is reached as soon as so many parts are there. -/
theorem Bk.Ok.le_level {b : Bk} (h : b.Ok) (n : Int) : n ≤ b.level ↔ n * b.den ≤ b.parts := by
  rw [h.level_eq, Int.le_ediv_iff_mul_le (by have := h.d1; omega)]

/-- Filled in two steps. -/
theorem Bk.fill_fill {b : Bk} (h : b.Ok) {s t : Int} (hst : s ≤ t) : (b.fill s).fill t = b.fill t := by
  by_cases hs : b.tick ≤ s
  · have f1 := h.fill_parts hs
    have ok1 := h.fill s
    have hs1 := Bk.fill_same b s
    have hu : upto s ≤ upto t := by unfold upto; omega
    have hut : upto s ≤ t := by unfold upto; omega
    have f2 := ok1.fill_parts (now := t) (by rw [f1.2]; exact hut)
    have f3 := h.fill_parts (now := t) (by omega)
    refine Bk.ext_parts (ok1.fill t) (h.fill t) ?_ ?_ ?_ ?_ ?_
    · rw [(Bk.fill_same _ t).1, hs1.1, (Bk.fill_same b t).1]
    · rw [(Bk.fill_same _ t).2.1, hs1.2.1, (Bk.fill_same b t).2.1]
    · rw [(Bk.fill_same _ t).2.2, hs1.2.2, (Bk.fill_same b t).2.2]
    · rw [f2.1, f3.1, hs1.1, hs1.2.1, hs1.2.2, f1.1, f1.2]
      have m1 : 0 ≤ (upto t - upto s) * b.num := Int.mul_nonneg (by omega) (by have := h.n1; omega)
      have m2 : (upto t - b.tick) * b.num = (upto s - b.tick) * b.num + (upto t - upto s) * b.num := by rw [← Int.add_mul]; congr 1; omega
      rw [m2]
      omega
    · rw [f2.2, f3.2]
  · have : b.fill s = b := by unfold Bk.fill; rw [if_pos (Or.inr (by omega))]
    rw [this]

theorem Bk.Ok.fill_level {b : Bk} (h : b.Ok) (now : Int) : b.level ≤ (b.fill now).level := by
  by_cases hs : b.tick ≤ now
  · have f1 := h.fill_parts hs
    rw [(h.fill now).le_level, f1.1, (Bk.fill_same b now).2.1]
    have hb := h.bd
    have hu : b.tick ≤ upto now := by have := h.t2; unfold upto; omega
    have m1 : 0 ≤ (upto now - b.tick) * b.num := Int.mul_nonneg (by omega) (by have := h.n1; omega)
    have p1 := h.p1
    have a2 := hb.a2
    unfold Bk.parts
    omega
  · have : b.fill now = b := by unfold Bk.fill; rw [if_pos (Or.inr (by omega))]
    rw [this]
    exact Int.le_refl _

/-- Taken: the bucket, and the wait. -/
def Bk.take (b : Bk) (now n : Int) : Bk × Int :=
  if ¬ b.Ok then (b, -1)
  else if n < 0 ∨ b.burst < n then (b.fill now, -1)
  else if (b.fill now).level < n then (b.fill now, (n * b.den - (b.fill now).parts + b.num - 1) / b.num)
  else ({ b.fill now with level := (b.fill now).level - n }, 0)

end Go.Proofs.Ythcmkjiemlfpcaa
