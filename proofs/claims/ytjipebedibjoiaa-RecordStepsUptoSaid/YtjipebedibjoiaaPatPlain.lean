/- Four bytes behind a text that give it a wanted sum: the plain law. -/
import Derived.Test.YtjipebedibjoiaaCrc
namespace Go.Proofs.Ytjipebedibjoiaa
open Go
namespace Pat

def hi (i : Nat) : Nat := Crc.Mi 4 i / 268435456
def bkTo : Nat → List Nat
  | 0 => List.replicate 16 0
  | k + 1 => (bkTo k).set (hi k) k
theorem hi_lt (i : Nat) (h : i < 16) : hi i < 16 := by
  have : Crc.Mi 4 i < 2 ^ 32 := Crc.Mi_lt 4 (by omega)
  unfold hi
  omega
theorem bkTo_length : ∀ k, (bkTo k).length = 16
  | 0 => by simp [bkTo]
  | k + 1 => by rw [bkTo, List.length_set, bkTo_length k]
def bk : List Nat := bkTo 16
theorem bk_ok : ∀ j, j < 16 → (bk[j]?).any (fun i => decide (i < 16) && decide (hi i = j)) = true := by decide +kernel
theorem bk_get (j : Nat) (h : j < 16) : ∃ i, bk[j]? = some i ∧ i < 16 ∧ hi i = j := by
  have := bk_ok j h
  cases hb : bk[j]? with
  | none => rw [hb] at this; cases this
  | some i =>
    rw [hb] at this
    simp only [Option.any_some, Bool.and_eq_true, decide_eq_true_eq] at this
    exact ⟨i, rfl, this.1, this.2⟩
/-- The entry whose row of the table begins with the given half byte. -/
def via (y : Nat) : Nat := (bk[y / 268435456]?).getD 0
theorem via_lt {y : Nat} (h : y < 4294967296) : via y < 16 := by
  obtain ⟨i, hi, hl, _⟩ := bk_get (y / 268435456) (by omega)
  unfold via
  rw [hi]
  exact hl
theorem via_get {y : Nat} (h : y < 4294967296) : bk[y / 268435456]? = some (via y) := by
  obtain ⟨i, hi, hl, _⟩ := bk_get (y / 268435456) (by omega)
  unfold via
  rw [hi]
  rfl
theorem via_hi {y : Nat} (h : y < 4294967296) : Crc.Mi 4 (via y) / 268435456 = y / 268435456 := by
  obtain ⟨i, hi, hl, hh⟩ := bk_get (y / 268435456) (by omega)
  unfold via
  rw [hi]
  exact hh

theorem xor_div16 (x y : Nat) : (x ^^^ y) / 16 = x / 16 ^^^ y / 16 := by
  have : ∀ a : Nat, a / 16 = a / 2 / 2 / 2 / 2 := by intro a; omega
  rw [this, this x, this y, Crc.xor_div2, Crc.xor_div2, Crc.xor_div2, Crc.xor_div2]
theorem shr28 (a : Nat) : a / 268435456 = a >>> 28 := by rw [Nat.shiftRight_eq_div_pow]

/-- One step back. -/
def less (y : Nat) : Nat := (y ^^^ Crc.Mi 4 (via y)) * 16
theorem less_small {y : Nat} (h : y < 4294967296) : y ^^^ Crc.Mi 4 (via y) < 268435456 := by
  have hd : (y ^^^ Crc.Mi 4 (via y)) / 268435456 = 0 := by
    rw [shr28, Nat.shiftRight_xor_distrib, ← shr28, ← shr28, via_hi h, Nat.xor_self]
  omega
theorem less_lt {y : Nat} (h : y < 4294967296) : less y < 4294967296 := by
  have := less_small h
  unfold less
  omega
theorem less_back {y : Nat} : Crc.Mi 4 (via y) ^^^ less y / 16 = y := by
  unfold less
  rw [Nat.mul_div_cancel _ (by omega), Nat.xor_comm y, ← Nat.xor_assoc, Nat.xor_self, Nat.zero_xor]

def back (y0 : Nat) : Nat → Nat
  | 0 => y0
  | i + 1 => less (back y0 i)
theorem back_lt {y0 : Nat} (h : y0 < 4294967296) : ∀ i, back y0 i < 4294967296
  | 0 => h
  | i + 1 => less_lt (back_lt h i)
def vi (y0 i : Nat) : Nat := via (back y0 i)
theorem vi_lt {y0 : Nat} (h : y0 < 4294967296) (i : Nat) : vi y0 i < 16 := via_lt (back_lt h i)

/-- Forward: after d half bytes. -/
def fwd (y0 r : Nat) : Nat → Nat
  | 0 => r
  | d + 1 => Crc.Mi 4 (vi y0 (7 - d)) ^^^ fwd y0 r d / 16
theorem fwd_lt {y0 r : Nat} (hy : y0 < 4294967296) (hr : r < 4294967296) : ∀ d, fwd y0 r d < 4294967296
  | 0 => hr
  | d + 1 => by
    have := fwd_lt hy hr d
    exact Crc.xor_lt (n := 32) (Crc.Mi_lt 4 (by have := vi_lt hy (7 - d); omega)) (by omega)
def nib (y0 r d : Nat) : Nat := fwd y0 r d % 16 ^^^ vi y0 (7 - d)
theorem nib_lt {y0 r : Nat} (hy : y0 < 4294967296) (d : Nat) : nib y0 r d < 16 :=
  Crc.xor_lt (n := 4) (Nat.mod_lt _ (by omega)) (vi_lt hy _)
theorem mod_split (y : Nat) : y = 16 * (y / 16) ^^^ y % 16 := by
  apply Nat.eq_of_testBit_eq
  intro j
  rw [Nat.testBit_xor, show 16 * (y / 16) = 2 ^ 4 * (y / 16) from rfl, Nat.testBit_two_pow_mul, show (16 : Nat) = 2 ^ 4 from rfl, Nat.testBit_mod_two_pow, ← Nat.shiftRight_eq_div_pow, Nat.testBit_shiftRight]
  by_cases hj : 4 ≤ j
  · rw [show 4 + (j - 4) = j from by omega]; simp [hj, show ¬ j < 4 from by omega]
  · simp [hj, show j < 4 from by omega]
theorem fwd_step (y0 r d : Nat) : fwd y0 r (d + 1) = Crc.Mi 4 (fwd y0 r d ^^^ nib y0 r d) := by
  have e : fwd y0 r d ^^^ nib y0 r d = 16 * (fwd y0 r d / 16) ^^^ vi y0 (7 - d) := by
    unfold nib
    conv => lhs; lhs; rw [mod_split (fwd y0 r d)]
    rw [Nat.xor_assoc, ← Nat.xor_assoc (fwd y0 r d % 16), Nat.xor_self, Nat.zero_xor]
  rw [e, Crc.Mi_xor, show 16 * (fwd y0 r d / 16) = 2 ^ 4 * (fwd y0 r d / 16) from rfl, Crc.Mi_pow, fwd, Nat.xor_comm]
theorem near (y0 r : Nat) (hy : y0 < 4294967296) (hr : r < 4294967296) : ∀ d, d ≤ 8 → fwd y0 r d ^^^ back y0 (8 - d) < 16 ^ (8 - d)
  | 0, _ => Crc.xor_lt (n := 32) hr (back_lt hy 8)
  | d + 1, hd => by
    have ih := near y0 r hy hr d (by omega)
    obtain ⟨m, hm⟩ : ∃ m, 7 - d = m := ⟨_, rfl⟩
    rw [show 8 - d = m + 1 from by omega] at ih
    rw [show 8 - (d + 1) = m from by omega]
    have e : fwd y0 r (d + 1) ^^^ back y0 m = (fwd y0 r d ^^^ back y0 (m + 1)) / 16 := by
      rw [fwd, hm, xor_div16]
      conv => lhs; rhs; rw [← less_back (y := back y0 m)]
      show (Crc.Mi 4 (via (back y0 m)) ^^^ fwd y0 r d / 16) ^^^ (Crc.Mi 4 (via (back y0 m)) ^^^ less (back y0 m) / 16) = _
      rw [Nat.xor_comm (Crc.Mi 4 (via (back y0 m))) (fwd y0 r d / 16), Nat.xor_assoc, ← Nat.xor_assoc (Crc.Mi 4 (via (back y0 m))) (Crc.Mi 4 (via (back y0 m))), Nat.xor_self, Nat.zero_xor]
      rfl
    rw [e]
    rw [Nat.pow_succ] at ih
    exact Nat.div_lt_of_lt_mul (by omega)
theorem reached (y0 r : Nat) (hy : y0 < 4294967296) (hr : r < 4294967296) : fwd y0 r 8 = y0 := by
  have := near y0 r hy hr 8 (by omega)
  rw [show 8 - 8 = 0 from rfl, Nat.pow_zero] at this
  exact (Crc.xor_eq_zero_iff _ _).1 (by simpa [back] using Nat.lt_one_iff.1 this)

/-- The byte at a place, after d half bytes. -/
def byteTo (y0 r d k : Nat) : Nat := (if 2 * k < d then nib y0 r (2 * k) else 0) + 16 * (if 2 * k + 1 < d then nib y0 r (2 * k + 1) else 0)
def rowTo (y0 r d : Nat) : List Nat := [byteTo y0 r d 0, byteTo y0 r d 1, byteTo y0 r d 2, byteTo y0 r d 3]
theorem byteTo_lt {y0 r : Nat} (hy : y0 < 4294967296) (d k : Nat) : byteTo y0 r d k < 256 := by
  have h1 := nib_lt (r := r) hy (2 * k)
  have h2 := nib_lt (r := r) hy (2 * k + 1)
  unfold byteTo
  split <;> split <;> omega
theorem row_by {y0 r : Nat} (hy : y0 < 4294967296) (d : Nat) : ∀ b ∈ rowTo y0 r d, b < 256 := by
  intro b hb
  simp only [rowTo, List.mem_cons, List.not_mem_nil, or_false] at hb
  rcases hb with rfl | rfl | rfl | rfl <;> exact byteTo_lt hy _ _
theorem Mi8_two (y a b : Nat) : Crc.Mi 8 (y ^^^ (a ^^^ 16 * b)) = Crc.Mi 4 (Crc.Mi 4 (y ^^^ a) ^^^ b) := by
  rw [show (8 : Nat) = 4 + 4 from rfl, Crc.Mi_add, ← Nat.xor_assoc, Crc.Mi_xor 4 (y ^^^ a), show 16 * b = 2 ^ 4 * b from rfl, Crc.Mi_pow]
theorem add_xor16 (a b : Nat) (h : a < 16) : a + 16 * b = a ^^^ 16 * b := by
  have := mod_split (a + 16 * b)
  rw [show (a + 16 * b) / 16 = b from by omega, show (a + 16 * b) % 16 = a from by omega, Nat.xor_comm] at this
  exact this
theorem reg_row (y0 r : Nat) (hy : y0 < 4294967296) (hr : r < 4294967296) : Crc.reg r (rowTo y0 r 8) = y0 := by
  have h : ∀ k, k < 4 → Crc.Mi 8 (fwd y0 r (2 * k) ^^^ byteTo y0 r 8 k) = fwd y0 r (2 * k + 1 + 1) := by
    intro k hk
    unfold byteTo
    rw [if_pos (by omega), if_pos (by omega), add_xor16 _ _ (nib_lt hy _), Mi8_two, ← fwd_step, ← fwd_step]
  have h0 := h 0 (by omega)
  have h1 := h 1 (by omega)
  have h2 := h 2 (by omega)
  have h3 := h 3 (by omega)
  have hf := reached y0 r hy hr
  simp only [rowTo, Crc.reg]
  have e0 : fwd y0 r (2 * 0) = r := rfl
  rw [e0] at h0
  rw [h0]
  show Crc.Mi 8 (Crc.Mi 8 (Crc.Mi 8 (fwd y0 r (2 * 1) ^^^ byteTo y0 r 8 1) ^^^ _) ^^^ _) = y0
  rw [h1]
  show Crc.Mi 8 (Crc.Mi 8 (fwd y0 r (2 * 2) ^^^ byteTo y0 r 8 2) ^^^ _) = y0
  rw [h2]
  show Crc.Mi 8 (fwd y0 r (2 * 3) ^^^ byteTo y0 r 8 3) = y0
  rw [h3]
  exact hf

/-- The bytes for a text's end. -/
def patch (l : List Nat) (want : Nat) : List Nat := rowTo (want ^^^ Crc.ones) (Crc.ext 0 l ^^^ Crc.ones) 8
theorem patch_length (l : List Nat) (want : Nat) : (patch l want).length = 4 := rfl
theorem patch_by (l : List Nat) {want : Nat} (h : want < 4294967296) : ∀ b ∈ patch l want, b < 256 :=
  row_by (Crc.xor_lt (n := 32) h Crc.ones_lt) 8
theorem ext_patch (l : List Nat) {want : Nat} (h : want < 4294967296) (hl : ∀ b ∈ l, b < 256) : Crc.ext 0 (l ++ patch l want) = want := by
  rw [Crc.ext_append, Crc.ext]
  unfold patch
  rw [reg_row _ _ (Crc.xor_lt (n := 32) h Crc.ones_lt) (Crc.xor_lt (n := 32) (Crc.ext_lt (by omega) hl) Crc.ones_lt), Nat.xor_assoc, Nat.xor_self, Nat.xor_zero]

theorem byte_split {a b x y : Nat} (ha : a < 256) (hb : b < 256) (h : a ^^^ 256 * x = b ^^^ 256 * y) : a = b ∧ x = y := by
  have hm : ∀ p q : Nat, p < 256 → (p ^^^ 256 * q) % 256 = p := by
    intro p q hp
    apply Nat.eq_of_testBit_eq
    intro j
    rw [show (256 : Nat) = 2 ^ 8 from rfl, Nat.testBit_mod_two_pow, Nat.testBit_xor, Nat.testBit_two_pow_mul]
    by_cases hj : j < 8
    · simp [hj, show ¬ 8 ≤ j from by omega]
    · have : p.testBit j = false := Nat.testBit_lt_two_pow (Nat.lt_of_lt_of_le hp (by rw [show (256 : Nat) = 2 ^ 8 from rfl]; exact Nat.pow_le_pow_right (by omega) (by omega)))
      simp [hj, this]
  have e1 : (a ^^^ 256 * x) % 256 = (b ^^^ 256 * y) % 256 := by rw [h]
  rw [hm a x ha, hm b y hb] at e1
  subst e1
  have e2 : a ^^^ (a ^^^ 256 * x) = a ^^^ (a ^^^ 256 * y) := by rw [h]
  rw [← Nat.xor_assoc, Nat.xor_self, Nat.zero_xor, ← Nat.xor_assoc, Nat.xor_self, Nat.zero_xor] at e2
  exact ⟨rfl, by omega⟩
theorem Mi8_shift (k x : Nat) : Crc.Mi (8 * (k + 1)) (256 * x) = Crc.Mi (8 * k) x := by
  rw [Crc.Mi_eight, show (256 : Nat) * x = 2 ^ 8 * x from rfl, Crc.Mi_pow]
/-- Bytes as one number, the first lowest. -/
def num : List Nat → Nat
  | [] => 0
  | b :: l => b ^^^ 256 * num l
theorem num_lt : ∀ (l : List Nat), (∀ b ∈ l, b < 256) → num l < 2 ^ (8 * l.length)
  | [], _ => by simp [num]
  | b :: l, h => by
    have ih := num_lt l (fun c hc => h c (by simp [hc]))
    have hb := h b (by simp)
    have h256 : 256 * num l < 2 ^ (8 * (l.length + 1)) := by
      rw [show 8 * (l.length + 1) = 8 * l.length + 8 from by omega, Nat.pow_add, Nat.mul_comm]
      exact Nat.mul_lt_mul_of_pos_right ih (by omega)
    have hb2 : b < 2 ^ (8 * (l.length + 1)) := Nat.lt_of_lt_of_le hb (by
      rw [show (256 : Nat) = 2 ^ 8 from rfl]
      exact Nat.pow_le_pow_right (by omega) (by omega))
    exact Crc.xor_lt hb2 h256
theorem num_inj : ∀ (l m : List Nat), (∀ b ∈ l, b < 256) → (∀ b ∈ m, b < 256) → l.length = m.length → num l = num m → l = m
  | [], [], _, _, _, _ => rfl
  | [], _ :: _, _, _, h, _ => by simp at h
  | _ :: _, [], _, _, h, _ => by simp at h
  | a :: l, b :: m, hl, hm, hn, h => by
    obtain ⟨rfl, h2⟩ := byte_split (hl a (by simp)) (hm b (by simp)) h
    rw [num_inj l m (fun c hc => hl c (by simp [hc])) (fun c hc => hm c (by simp [hc])) (by simpa using hn) h2]
theorem reg_num : ∀ (l : List Nat) (x : Nat), Crc.reg x l = Crc.Mi (8 * l.length) (x ^^^ num l)
  | [], x => by simp [Crc.reg, num, Crc.Mi_none]
  | b :: l, x => by
    rw [Crc.reg, reg_num l, num, ← Nat.xor_assoc, List.length_cons, Crc.Mi_xor _ (x ^^^ b), Mi8_shift, Crc.Mi_xor, Crc.Mi_eight]
theorem ext_inj (l t u : List Nat) (hl : ∀ b ∈ l, b < 256) (ht : ∀ b ∈ t, b < 256) (hu : ∀ b ∈ u, b < 256) (h4 : t.length = 4) (h5 : u.length = 4) (h : Crc.ext 0 (l ++ t) = Crc.ext 0 (l ++ u)) : t = u := by
  rw [Crc.ext_append, Crc.ext_append] at h
  have r32 : Crc.ext 0 l < 2 ^ 32 := Crc.ext_lt (by omega) hl
  obtain ⟨q, hq⟩ : ∃ q, q = Crc.ext 0 l ^^^ Crc.ones := ⟨_, rfl⟩
  have q32 : q < 2 ^ 32 := by rw [hq]; exact Crc.xor_lt r32 Crc.ones_lt
  have hx : ∀ m, Crc.ext (Crc.ext 0 l) m = Crc.reg q m ^^^ Crc.ones := by intro m; rw [hq]; rfl
  rw [hx, hx] at h
  have h2 : Crc.reg q t = Crc.reg q u := by
    have : (Crc.reg q t ^^^ Crc.ones) ^^^ Crc.ones = (Crc.reg q u ^^^ Crc.ones) ^^^ Crc.ones := by rw [h]
    simpa only [Nat.xor_assoc, Nat.xor_self, Nat.xor_zero] using this
  rw [reg_num, reg_num, h4, h5] at h2
  have t32 := num_lt t ht
  have u32 := num_lt u hu
  rw [h4] at t32
  rw [h5] at u32
  have h3 := Crc.Mi_inj (Crc.xor_lt q32 t32) (Crc.xor_lt q32 u32) h2
  have h6 : q ^^^ (q ^^^ num t) = q ^^^ (q ^^^ num u) := by rw [h3]
  rw [← Nat.xor_assoc, Nat.xor_self, Nat.zero_xor, ← Nat.xor_assoc, Nat.xor_self, Nat.zero_xor] at h6
  exact num_inj t u ht hu (by rw [h4, h5]) h6
end Pat
end Go.Proofs.Ytjipebedibjoiaa
