/- The check sum as a linear map of registers: plain laws on numbers. -/
namespace Go.Proofs.Ytljfmcgeiceagaa.Crc

def poly : Nat := 2197175160
def ones : Nat := 4294967295
/-- One step of the register. -/
def M (x : Nat) : Nat := if x % 2 = 1 then (x / 2) ^^^ poly else x / 2
def Mi : Nat → Nat → Nat
  | 0, x => x
  | k + 1, x => Mi k (M x)

theorem xor_mod2 (x y : Nat) : (x ^^^ y) % 2 = (x % 2 + y % 2) % 2 := by
  have h := Nat.testBit_xor (x := x) (y := y) (i := 0)
  simp only [Nat.testBit_zero] at h
  rcases Nat.mod_two_eq_zero_or_one x with hx | hx <;> rcases Nat.mod_two_eq_zero_or_one y with hy | hy <;>
    rcases Nat.mod_two_eq_zero_or_one (x ^^^ y) with hz | hz <;> simp [hx, hy, hz] at h ⊢

theorem xor_div2 (x y : Nat) : (x ^^^ y) / 2 = x / 2 ^^^ y / 2 := by
  apply Nat.eq_of_testBit_eq
  intro i
  simp [Nat.testBit_div_two, Nat.testBit_xor]

theorem xor_lt {x y n : Nat} (hx : x < 2 ^ n) (hy : y < 2 ^ n) : x ^^^ y < 2 ^ n := Nat.xor_lt_two_pow hx hy

theorem xor4 (a b c d : Nat) : (a ^^^ b) ^^^ (c ^^^ d) = (a ^^^ c) ^^^ (b ^^^ d) := by ac_rfl

theorem M_xor (x y : Nat) : M (x ^^^ y) = M x ^^^ M y := by
  unfold M
  rw [xor_mod2, xor_div2]
  rcases Nat.mod_two_eq_zero_or_one x with hx | hx <;> rcases Nat.mod_two_eq_zero_or_one y with hy | hy
  · simp [hx, hy]
  · simp [hx, hy, Nat.xor_assoc]
  · simp [hx, hy]; ac_rfl
  · simp only [hx, hy]
    simp only [Nat.reduceAdd, Nat.reduceMod, if_true]
    rw [xor4, Nat.xor_self, Nat.xor_zero]
    simp

theorem M_lt {x : Nat} (h : x < 2 ^ 32) : M x < 2 ^ 32 := by
  unfold M
  split
  · exact xor_lt (by omega) (by decide)
  · omega

theorem M_zero_iff {x : Nat} (h : x < 2 ^ 32) : M x = 0 ↔ x = 0 := by
  constructor
  · intro e
    unfold M at e
    split at e
    · have h2 : x / 2 = poly := by
        have := congrArg (· ^^^ poly) e
        simp only [Nat.zero_xor] at this
        rw [Nat.xor_assoc, Nat.xor_self, Nat.xor_zero] at this
        exact this
      unfold poly at h2
      omega
    · omega
  · rintro rfl; rfl

theorem M_two (y : Nat) : M (2 * y) = y := by
  unfold M
  rw [if_neg (by omega)]
  omega

theorem Mi_xor : ∀ (k x y : Nat), Mi k (x ^^^ y) = Mi k x ^^^ Mi k y := by
  intro k
  induction k with
  | zero => intro x y; rfl
  | succ k ih => intro x y; simp only [Mi, M_xor, ih]
theorem Mi_lt : ∀ (k : Nat) {x : Nat}, x < 2 ^ 32 → Mi k x < 2 ^ 32 := by
  intro k
  induction k with
  | zero => intro x h; exact h
  | succ k ih => intro x h; exact ih (M_lt h)
theorem Mi_zero : ∀ k, Mi k 0 = 0 := by
  intro k
  induction k with
  | zero => rfl
  | succ k ih => simpa [Mi, M] using ih
theorem Mi_zero_iff : ∀ (k : Nat) {x : Nat}, x < 2 ^ 32 → (Mi k x = 0 ↔ x = 0) := by
  intro k
  induction k with
  | zero => intro x _; rfl
  | succ k ih => intro x h; exact (ih (M_lt h)).trans (M_zero_iff h)
theorem Mi_add : ∀ (j k x : Nat), Mi (j + k) x = Mi k (Mi j x) := by
  intro j
  induction j with
  | zero => intro k x; simp [Mi]
  | succ j ih => intro k x; rw [Nat.succ_add]; simp only [Mi]; exact ih k (M x)
theorem Mi_pow : ∀ (k y : Nat), Mi k (2 ^ k * y) = y := by
  intro k
  induction k with
  | zero => intro y; simp [Mi]
  | succ k ih => intro y; simp only [Mi]; rw [Nat.pow_succ, Nat.mul_comm (2 ^ k) 2, Nat.mul_assoc, M_two]; exact ih y

theorem Mi_none (x : Nat) : Mi 0 x = x := rfl
theorem Mi_more (k x : Nat) : Mi (k + 1) x = Mi k (M x) := rfl
attribute [irreducible] M Mi

theorem xor_eq_zero_iff (a b : Nat) : a ^^^ b = 0 ↔ a = b := by
  constructor
  · intro h
    have := congrArg (· ^^^ b) h
    simp only [Nat.zero_xor] at this
    rw [Nat.xor_assoc, Nat.xor_self, Nat.xor_zero] at this
    exact this
  · rintro rfl; exact Nat.xor_self a

theorem Mi_inj {k x y : Nat} (hx : x < 2 ^ 32) (hy : y < 2 ^ 32) (h : Mi k x = Mi k y) : x = y := by
  have h2 : Mi k (x ^^^ y) = 0 := by rw [Mi_xor, h, Nat.xor_self]
  exact (xor_eq_zero_iff x y).1 ((Mi_zero_iff k (xor_lt hx hy)).1 h2)

/-- The register behind bytes. -/
def reg : Nat → List Nat → Nat
  | x, [] => x
  | x, c :: r => reg (Mi 8 (x ^^^ c)) r

theorem reg_append : ∀ (l r : List Nat) (x : Nat), reg x (l ++ r) = reg (reg x l) r := by
  intro l
  induction l with
  | nil => intro r x; rfl
  | cons c t ih => intro r x; exact ih r _

theorem Mi_eight (n y : Nat) : Mi (8 * (n + 1)) y = Mi (8 * n) (Mi 8 y) := by
  have h : 8 * (n + 1) = 8 + 8 * n := by omega
  rw [h]
  exact Mi_add 8 (8 * n) y

theorem reg_xor : ∀ (l : List Nat) (x y : Nat), reg (x ^^^ y) l = reg x l ^^^ Mi (8 * l.length) y := by
  intro l
  induction l with
  | nil => intro x y; exact (congrArg (x ^^^ ·) (Mi_none y).symm)
  | cons c t ih =>
    intro x y
    have e : (x ^^^ y) ^^^ c = (x ^^^ c) ^^^ y := by ac_rfl
    have e1 : Mi 8 ((x ^^^ y) ^^^ c) = Mi 8 (x ^^^ c) ^^^ Mi 8 y := (congrArg (Mi 8) e).trans (Mi_xor 8 _ _)
    have e2 : reg (x ^^^ y) (c :: t) = reg (Mi 8 ((x ^^^ y) ^^^ c)) t := by rw [reg]
    have e3 : reg x (c :: t) = reg (Mi 8 (x ^^^ c)) t := by rw [reg]
    have e4 : (c :: t).length = t.length + 1 := rfl
    rw [e2, e1, e3, e4, Mi_eight]
    exact ih _ _

theorem reg_lt : ∀ (l : List Nat) (x : Nat), x < 2 ^ 32 → (∀ b ∈ l, b < 256) → reg x l < 2 ^ 32 := by
  intro l
  induction l with
  | nil => intro x h _; exact h
  | cons c t ih =>
    intro x h hb
    show reg (Mi 8 (x ^^^ c)) t < 2 ^ 32
    refine ih (Mi 8 (x ^^^ c)) (Mi_lt 8 (xor_lt h ?_)) (fun b hb' => hb b (by simp [hb']))
    have := hb c (by simp)
    omega

/-- The sum, from a number on. -/
def ext (s : Nat) (l : List Nat) : Nat := reg (s ^^^ ones) l ^^^ ones

theorem ones_lt : ones < 2 ^ 32 := by decide
theorem ext_lt {s : Nat} {l : List Nat} (hs : s < 2 ^ 32) (hl : ∀ b ∈ l, b < 256) : ext s l < 2 ^ 32 :=
  xor_lt (reg_lt l _ (xor_lt hs ones_lt) hl) ones_lt
theorem ext_nil (s : Nat) : ext s [] = s := by
  unfold ext reg
  rw [Nat.xor_assoc, Nat.xor_self, Nat.xor_zero]
theorem ext_append (s : Nat) (l r : List Nat) : ext s (l ++ r) = ext (ext s l) r := by
  unfold ext
  rw [reg_append]
  congr 1
  congr 1
  rw [Nat.xor_assoc, Nat.xor_self, Nat.xor_zero]

/-- What joining does: the first sum taken on over the second's length, and the second. -/
def join (a b n : Nat) : Nat := Mi (8 * n) a ^^^ b

theorem ext_join (s : Nat) (l : List Nat) : ext s l = join s (ext 0 l) l.length := by
  unfold ext join
  rw [Nat.zero_xor]
  have e : s ^^^ ones = ones ^^^ s := Nat.xor_comm ..
  rw [e, reg_xor]
  ac_rfl

theorem join_assoc (x y z m n : Nat) : join (join x y m) z n = join x (join y z n) (m + n) := by
  unfold join
  rw [Mi_xor, Nat.mul_add, Mi_add, Nat.xor_assoc]

/-- Three texts of one length. -/
def xor3 : List Nat → List Nat → List Nat → List Nat
  | a :: l, b :: m, c :: n => (a ^^^ b ^^^ c) :: xor3 l m n
  | _, _, _ => []

theorem reg_xor3 : ∀ (a b c : List Nat) (x y z : Nat), a.length = b.length → b.length = c.length →
    reg (x ^^^ y ^^^ z) (xor3 a b c) = reg x a ^^^ reg y b ^^^ reg z c := by
  intro a
  induction a with
  | nil =>
    intro b c x y z h1 h2
    cases b with
    | nil => cases c with
      | nil => rfl
      | cons _ _ => simp at h2
    | cons _ _ => simp at h1
  | cons p l ih =>
    intro b c x y z h1 h2
    cases b with
    | nil => simp at h1
    | cons q m =>
      cases c with
      | nil => simp at h2
      | cons r n =>
        simp only [xor3, reg]
        have e : (x ^^^ y ^^^ z) ^^^ (p ^^^ q ^^^ r) = (x ^^^ p) ^^^ (y ^^^ q) ^^^ (z ^^^ r) := by ac_rfl
        rw [e, Mi_xor, Mi_xor]
        exact ih m n _ _ _ (by simpa using h1) (by simpa using h2)

theorem ext_xor3 (a b c : List Nat) (h1 : a.length = b.length) (h2 : b.length = c.length) :
    ext 0 (xor3 a b c) = ext 0 a ^^^ ext 0 b ^^^ ext 0 c := by
  unfold ext
  rw [Nat.zero_xor]
  have e : ones = ones ^^^ ones ^^^ ones := by rw [Nat.xor_self, Nat.zero_xor]
  conv => lhs; rw [show reg ones (xor3 a b c) = reg (ones ^^^ ones ^^^ ones) (xor3 a b c) from by rw [← e]]
  rw [reg_xor3 a b c ones ones ones h1 h2]
  generalize reg ones a = p
  generalize reg ones b = q
  generalize reg ones c = r
  have e2 : p ^^^ ones ^^^ (q ^^^ ones) ^^^ (r ^^^ ones) = p ^^^ q ^^^ r ^^^ (ones ^^^ ones ^^^ ones) := by ac_rfl
  rw [e2, ← e]

/-- A bit turned: what becomes of the register. -/
theorem reg_flip : ∀ (l : List Nat) (x p c : Nat), l[p / 8]? = some c →
    reg x (l.set (p / 8) (c ^^^ 2 ^ (p % 8))) = reg x l ^^^ Mi (8 * l.length - p) 1 := by
  intro l
  induction l with
  | nil => intro x p c h; simp at h
  | cons d t ih =>
    intro x p c h
    by_cases hp : p < 8
    · have h0 : p / 8 = 0 := by omega
      have h1 : p % 8 = p := by omega
      rw [h0] at h ⊢
      rw [h1]
      have hd : d = c := by simpa using h
      subst hd
      simp only [List.set_cons_zero, reg, List.length_cons]
      have e : x ^^^ (d ^^^ 2 ^ p) = (x ^^^ d) ^^^ 2 ^ p := by ac_rfl
      rw [e, Mi_xor, reg_xor]
      congr 1
      rw [← Mi_add]
      have e2 : 8 + 8 * t.length = p + (8 * (t.length + 1) - p) := by omega
      rw [e2, Mi_add]
      congr 1
      have := Mi_pow p 1
      rw [Nat.mul_one] at this
      exact this
    · have h0 : p / 8 = (p - 8) / 8 + 1 := by omega
      have h1 : p % 8 = (p - 8) % 8 := by omega
      rw [h0] at h ⊢
      rw [h1]
      simp only [List.set_cons_succ, reg, List.length_cons]
      rw [List.getElem?_cons_succ] at h
      rw [ih _ (p - 8) c h]
      congr 2
      omega

/-- Steps of half a byte: by a table of sixteen. -/
theorem Mi4 (x : Nat) : Mi 4 x = Mi 4 (x % 16) ^^^ x / 16 := by
  have hx : x = x % 16 ^^^ 2 ^ 4 * (x / 16) := by
    apply Nat.eq_of_testBit_eq
    intro i
    rw [Nat.testBit_xor]
    have h16 : x % 16 = x % 2 ^ 4 := rfl
    rw [h16, Nat.testBit_mod_two_pow, Nat.testBit_two_pow_mul]
    by_cases hi : i < 4
    · have h3 : decide (4 ≤ i) = false := by simp; omega
      rw [h3]
      simp [hi]
    · simp only [hi, decide_false, Bool.false_and, Bool.false_xor]
      have h3 : decide (4 ≤ i) = true := by simp; omega
      have h2 : x / 16 = x / 2 ^ 4 := rfl
      rw [h3, Bool.true_and, h2, Nat.testBit_div_two_pow]
      congr 1
      omega
  conv => lhs; rw [hx]
  rw [Mi_xor, Mi_pow]
end Go.Proofs.Ytljfmcgeiceagaa.Crc
