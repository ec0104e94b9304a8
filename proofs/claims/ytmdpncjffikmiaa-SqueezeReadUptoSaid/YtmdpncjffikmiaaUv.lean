/- Plain laws of short numbers (uvarint), zigzag: lists of Nat alone, no program in sight. -/
namespace Go.Proofs.Ytmdpncjffikmiaa.Uv

/-- The bytes of a short number, group by group. -/
def uv (v : Nat) : List Nat := if v < 128 then [v] else (v % 128 + 128) :: uv (v / 128)
termination_by v
decreasing_by omega

theorem uv_small {v : Nat} (h : v < 128) : uv v = [v] := by rw [uv, if_pos h]
theorem uv_big {v : Nat} (h : 128 ≤ v) : uv v = (v % 128 + 128) :: uv (v / 128) := by rw [uv, if_neg (by omega)]

/-- What bytes begin with, read as a short number: value, length, error (0: none; 10: short; 11: not a number). 'i': the place, 'v': what has been read. -/
def ru : Nat → Nat → List Nat → Nat × Nat × Nat
  | _, _, [] => (0, 0, 10)
  | i, v, c :: r =>
    if i = 9 ∧ c ≠ 1 then (0, 0, 11)
    else if 0 < i ∧ c = 0 then (0, 0, 11)
    else if c < 128 then (v + c % 128 * 128 ^ i, i + 1, 0)
    else ru (i + 1) (v + c % 128 * 128 ^ i) r

def zig (s : Int) : Int := if 0 ≤ s then 2 * s else -2 * s - 1
def zag (u : Int) : Int := if u % 2 = 0 then u / 2 else -(u / 2) - 1

theorem zag_zig (s : Int) : zag (zig s) = s := by unfold zag zig; split <;> split <;> omega
theorem zig_zag (u : Int) (h : 0 ≤ u) : zig (zag u) = u := by unfold zag zig; split <;> split <;> omega

theorem uv_ne (v : Nat) : uv v ≠ [] := by
  rw [uv]; split <;> simp

theorem uv_pos (v : Nat) : 0 < (uv v).length := by
  have := uv_ne v
  cases h : uv v with
  | nil => exact absurd h this
  | cons a l => simp

theorem uv_lt (v : Nat) : ∀ b ∈ uv v, b < 256 := by
  induction v using Nat.strongRecOn with
  | _ v ih =>
    intro b hb
    by_cases h : v < 128
    · rw [uv_small h] at hb; simp at hb; omega
    · rw [uv_big (by omega)] at hb
      rcases List.mem_cons.1 hb with rfl | hb
      · omega
      · exact ih (v / 128) (by omega) b hb

/-- The length: monotone. -/
theorem uv_len_mono : ∀ (v w : Nat), v ≤ w → (uv v).length ≤ (uv w).length := by
  intro v
  induction v using Nat.strongRecOn with
  | _ v ih =>
    intro w hw
    by_cases h : v < 128
    · rw [uv_small h]; have := uv_pos w; simp; omega
    · rw [uv_big (by omega), uv_big (v := w) (by omega)]
      simp only [List.length_cons]
      have := ih (v / 128) (by omega) (w / 128) (Nat.div_le_div_right hw)
      omega

theorem uv_len_pow : ∀ (k v : Nat), v < 128 ^ (k + 1) → (uv v).length ≤ k + 1 := by
  intro k
  induction k with
  | zero => intro v h; rw [uv_small (by simpa using h)]; simp
  | succ k ih =>
    intro v h
    by_cases hs : v < 128
    · rw [uv_small hs]; simp
    · rw [uv_big (by omega)]
      have h2 : v / 128 < 128 ^ (k + 1) := by
        rw [Nat.div_lt_iff_lt_mul (by omega), ← Nat.pow_succ]; exact h
      have := ih _ h2
      simp; omega

theorem uv_len_64 (v : Nat) (h : v < 18446744073709551616) : (uv v).length ≤ 10 :=
  uv_len_pow 9 v (by have : (128 : Nat) ^ 10 = 1180591620717411303424 := by decide
                     omega)

/-- Reading what was written, from a place on: whatever stands behind. -/
theorem ru_uv (t : List Nat) : ∀ (v i a : Nat), v * 128 ^ i < 18446744073709551616 → i ≤ 9 → (0 < i → 0 < v) →
    ru i a (uv v ++ t) = (a + v * 128 ^ i, i + (uv v).length, 0) := by
  intro v
  induction v using Nat.strongRecOn with
  | _ v ih =>
    intro i a hv hi h0
    have p9 : (128 : Nat) ^ 9 = 9223372036854775808 := by decide
    by_cases h : v < 128
    · rw [uv_small h]
      have n9 : ¬ (i = 9 ∧ v ≠ 1) := by
        rintro ⟨rfl, hne⟩
        rw [p9] at hv
        have := h0 (by omega)
        omega
      simp only [List.cons_append, List.nil_append, ru]
      rw [if_neg n9, if_neg (by intro ⟨a, b⟩; have := h0 a; omega), if_pos h, Nat.mod_eq_of_lt h]
      simp
    · have hi9 : i ≠ 9 := by
        rintro rfl
        rw [p9] at hv
        omega
      rw [uv_big (by omega)]
      simp only [List.cons_append, ru]
      rw [if_neg (by omega), if_neg (by omega), if_neg (by omega)]
      have hp : (128 : Nat) ^ (i + 1) = 128 ^ i * 128 := Nat.pow_succ ..
      have hm : v / 128 * 128 ^ (i + 1) ≤ v * 128 ^ i := by
        rw [hp, Nat.mul_comm (128 ^ i) 128, ← Nat.mul_assoc]
        exact Nat.mul_le_mul_right _ (Nat.div_mul_le_self v 128)
      rw [ih (v / 128) (by omega) (i + 1) _ (by omega) (by omega) (by omega)]
      have e : v % 128 * 128 ^ i + v / 128 * 128 ^ (i + 1) = v * 128 ^ i := by
        rw [hp, Nat.mul_comm (128 ^ i) 128, ← Nat.mul_assoc, ← Nat.add_mul]
        congr 1
        have := Nat.div_add_mod v 128
        omega
      have e2 : (v % 128 + 128) % 128 = v % 128 := by omega
      rw [e2]
      simp only [List.length_cons, Prod.mk.injEq, and_true]
      constructor
      · rw [Nat.add_assoc, e]
      · omega

/-- A part of it, cut off ahead of its end: too short. -/
theorem ru_cut : ∀ (v i a k : Nat), v * 128 ^ i < 18446744073709551616 → i ≤ 9 → (0 < i → 0 < v) → k < (uv v).length →
    ru i a ((uv v).take k) = (0, 0, 10) := by
  intro v
  induction v using Nat.strongRecOn with
  | _ v ih =>
    intro i a k hv hi h0 hk
    have p9 : (128 : Nat) ^ 9 = 9223372036854775808 := by decide
    cases k with
    | zero => simp [ru]
    | succ k =>
      by_cases h : v < 128
      · rw [uv_small h] at hk; simp at hk
      · have hi9 : i ≠ 9 := by
          rintro rfl
          rw [p9] at hv
          omega
        rw [uv_big (by omega)] at hk ⊢
        simp only [List.take_succ_cons, ru]
        rw [if_neg (by omega), if_neg (by omega), if_neg (by omega)]
        have hp : (128 : Nat) ^ (i + 1) = 128 ^ i * 128 := Nat.pow_succ ..
        have hm : v / 128 * 128 ^ (i + 1) ≤ v * 128 ^ i := by
          rw [hp, Nat.mul_comm (128 ^ i) 128, ← Nat.mul_assoc]
          exact Nat.mul_le_mul_right _ (Nat.div_mul_le_self v 128)
        exact ih (v / 128) (by omega) (i + 1) _ k (by omega) (by omega) (by omega) (by simpa using hk)

/-- Whatever is taken: just the bytes that are written for it. -/
theorem ru_taken : ∀ (b : List Nat) (i a : Nat), (∀ x ∈ b, x < 256) → i ≤ 9 → a < 128 ^ i → (ru i a b).2.2 = 0 →
    ∃ v, (ru i a b).1 = a + v * 128 ^ i ∧ (ru i a b).2.1 = i + (uv v).length ∧ (uv v).length ≤ b.length ∧ b.take (uv v).length = uv v ∧ (0 < i → 0 < v) ∧ a + v * 128 ^ i < 18446744073709551616 := by
  intro b
  induction b with
  | nil => intro i a _ _ _ h; simp [ru] at h
  | cons c r ih =>
    intro i a hb hi ha h
    have p9 : (128 : Nat) ^ 9 = 9223372036854775808 := by decide
    have hc : c < 256 := hb c (by simp)
    simp only [ru] at h ⊢
    by_cases h1 : i = 9 ∧ c ≠ 1
    · rw [if_pos h1] at h; simp at h
    · rw [if_neg h1] at h ⊢
      by_cases h2 : 0 < i ∧ c = 0
      · rw [if_pos h2] at h; simp at h
      · rw [if_neg h2] at h ⊢
        by_cases h3 : c < 128
        · rw [if_pos h3] at h ⊢
          refine ⟨c, ?_, ?_, ?_, ?_, by omega, ?_⟩
          · simp [Nat.mod_eq_of_lt h3]
          · rw [uv_small h3]; simp
          · rw [uv_small h3]; simp
          · rw [uv_small h3]; simp
          · by_cases h9 : i = 9
            · subst h9
              have : c = 1 := by omega
              subst this
              rw [p9] at ha ⊢
              omega
            · have hp : (128 : Nat) ^ (i + 1) ≤ 128 ^ 9 := Nat.pow_le_pow_right (by omega) (by omega)
              have hq : (128 : Nat) ^ (i + 1) = 128 ^ i * 128 := Nat.pow_succ ..
              have hx : c * 128 ^ i ≤ 127 * 128 ^ i := Nat.mul_le_mul_right _ (by omega)
              omega
        · rw [if_neg h3] at h ⊢
          have h9 : i ≠ 9 := by omega
          have hq : (128 : Nat) ^ (i + 1) = 128 ^ i * 128 := Nat.pow_succ ..
          have hx : c % 128 * 128 ^ i ≤ 127 * 128 ^ i := Nat.mul_le_mul_right _ (by omega)
          obtain ⟨v, e1, e2, e3, e4, e5, e6⟩ := ih (i + 1) (a + c % 128 * 128 ^ i) (fun x hx => hb x (by simp [hx])) (by omega) (by omega) h
          have hv := e5 (by omega)
          have hu : uv (v * 128 + c % 128) = c :: uv v := by
            rw [uv_big (by omega)]
            congr 1
            · omega
            · congr 1; omega
          have e : a + (v * 128 + c % 128) * 128 ^ i = a + c % 128 * 128 ^ i + v * 128 ^ (i + 1) := by
            rw [hq, Nat.add_mul, Nat.mul_assoc v 128, Nat.mul_comm 128]; omega
          refine ⟨v * 128 + c % 128, ?_, ?_, ?_, ?_, by omega, by omega⟩
          · rw [e1, e]
          · rw [e2, hu]; simp; omega
          · rw [hu]; simpa using e3
          · rw [hu]; simpa using e4

/-- An error's number is 0, 10 or 11; beside one all is zero. -/
theorem ru_err : ∀ (b : List Nat) (i a : Nat), (ru i a b).2.2 = 0 ∨ ((ru i a b).1 = 0 ∧ (ru i a b).2.1 = 0 ∧ ((ru i a b).2.2 = 10 ∨ (ru i a b).2.2 = 11)) := by
  intro b
  induction b with
  | nil => intro i a; right; simp [ru]
  | cons c r ih =>
    intro i a
    simp only [ru]
    split
    · right; simp
    · split
      · right; simp
      · split
        · left; rfl
        · exact ih _ _

/-- No number's bytes begin another one's. -/
theorem uv_begins : ∀ (v w : Nat) (t : List Nat), uv w = uv v ++ t → v = w := by
  intro v
  induction v using Nat.strongRecOn with
  | _ v ih =>
    intro w t h
    by_cases hv : v < 128
    · rw [uv_small hv] at h
      by_cases hw : w < 128
      · rw [uv_small hw] at h; simp at h; exact h.1.symm
      · rw [uv_big (v := w) (by omega)] at h; simp at h; omega
    · rw [uv_big (v := v) (by omega)] at h
      by_cases hw : w < 128
      · rw [uv_small hw] at h; simp at h; omega
      · rw [uv_big (v := w) (by omega)] at h
        simp only [List.cons_append, List.cons.injEq] at h
        have := ih (v / 128) (by omega) (w / 128) t h.2
        omega
end Go.Proofs.Ytmdpncjffikmiaa.Uv
