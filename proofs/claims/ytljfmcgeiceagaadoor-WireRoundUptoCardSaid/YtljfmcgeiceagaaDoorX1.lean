/- Several texts in one: Crc, Sums, PatPlain, Patch, RefSums. -/
import Derived.Test.YtljfmcgeiceagaaDoorF1
import Derived.Laws.Tables
import Derived.ChangeKeysEq
/- The check sum as a linear map of registers: plain laws on numbers. -/
namespace Go.Proofs.YtljfmcgeiceagaaDoor.Crc

def poly : Nat := 2197175160
def ones : Nat := 4294967295
/-- One step of the register. -/
def M (x : Nat) : Nat := if x % 2 = 1 then (x / 2) ^^^ poly else x / 2
def Mi : Nat → Nat → Nat
  | 0, x => x
  | k + 1, x => Mi k (M x)

theorem xor_mod2 (x y : Nat) : (x ^^^ y) % 2 = (x % 2 + y % 2) % 2 := by
  have h := Nat.testBit_xor (x := x) (y := y) (i := 0)
  simp only [Nat.testBit_zero] at h
  rcases Nat.mod_two_eq_zero_or_one x with hx | hx <;> rcases Nat.mod_two_eq_zero_or_one y with hy | hy <;>
    rcases Nat.mod_two_eq_zero_or_one (x ^^^ y) with hz | hz <;> simp [hx, hy, hz] at h ⊢

theorem xor_div2 (x y : Nat) : (x ^^^ y) / 2 = x / 2 ^^^ y / 2 := by
  apply Nat.eq_of_testBit_eq
  intro i
  simp [Nat.testBit_div_two, Nat.testBit_xor]

theorem xor_lt {x y n : Nat} (hx : x < 2 ^ n) (hy : y < 2 ^ n) : x ^^^ y < 2 ^ n := Nat.xor_lt_two_pow hx hy

theorem xor4 (a b c d : Nat) : (a ^^^ b) ^^^ (c ^^^ d) = (a ^^^ c) ^^^ (b ^^^ d) := by ac_rfl

theorem M_xor (x y : Nat) : M (x ^^^ y) = M x ^^^ M y := by
  unfold M
  rw [xor_mod2, xor_div2]
  rcases Nat.mod_two_eq_zero_or_one x with hx | hx <;> rcases Nat.mod_two_eq_zero_or_one y with hy | hy
  · simp [hx, hy]
  · simp [hx, hy, Nat.xor_assoc]
  · simp [hx, hy]; ac_rfl
  · simp only [hx, hy]
    simp only [Nat.reduceAdd, Nat.reduceMod, if_true]
    rw [xor4, Nat.xor_self, Nat.xor_zero]
    simp

theorem M_lt {x : Nat} (h : x < 2 ^ 32) : M x < 2 ^ 32 := by
  unfold M
  split
  · exact xor_lt (by omega) (by decide)
  · omega

theorem M_zero_iff {x : Nat} (h : x < 2 ^ 32) : M x = 0 ↔ x = 0 := by
  constructor
  · intro e
    unfold M at e
    split at e
    · have h2 : x / 2 = poly := by
        have := congrArg (· ^^^ poly) e
        simp only [Nat.zero_xor] at this
        rw [Nat.xor_assoc, Nat.xor_self, Nat.xor_zero] at this
        exact this
      unfold poly at h2
      omega
    · omega
  · rintro rfl; rfl

theorem M_two (y : Nat) : M (2 * y) = y := by
  unfold M
  rw [if_neg (by omega)]
  omega

theorem Mi_xor : ∀ (k x y : Nat), Mi k (x ^^^ y) = Mi k x ^^^ Mi k y := by
  intro k
  induction k with
  | zero => intro x y; rfl
  | succ k ih => intro x y; simp only [Mi, M_xor, ih]
theorem Mi_lt : ∀ (k : Nat) {x : Nat}, x < 2 ^ 32 → Mi k x < 2 ^ 32 := by
  intro k
  induction k with
  | zero => intro x h; exact h
  | succ k ih => intro x h; exact ih (M_lt h)
theorem Mi_zero : ∀ k, Mi k 0 = 0 := by
  intro k
  induction k with
  | zero => rfl
  | succ k ih => simpa [Mi, M] using ih
theorem Mi_zero_iff : ∀ (k : Nat) {x : Nat}, x < 2 ^ 32 → (Mi k x = 0 ↔ x = 0) := by
  intro k
  induction k with
  | zero => intro x _; rfl
  | succ k ih => intro x h; exact (ih (M_lt h)).trans (M_zero_iff h)
theorem Mi_add : ∀ (j k x : Nat), Mi (j + k) x = Mi k (Mi j x) := by
  intro j
  induction j with
  | zero => intro k x; simp [Mi]
  | succ j ih => intro k x; rw [Nat.succ_add]; simp only [Mi]; exact ih k (M x)
theorem Mi_pow : ∀ (k y : Nat), Mi k (2 ^ k * y) = y := by
  intro k
  induction k with
  | zero => intro y; simp [Mi]
  | succ k ih => intro y; simp only [Mi]; rw [Nat.pow_succ, Nat.mul_comm (2 ^ k) 2, Nat.mul_assoc, M_two]; exact ih y

theorem Mi_none (x : Nat) : Mi 0 x = x := rfl
theorem Mi_more (k x : Nat) : Mi (k + 1) x = Mi k (M x) := rfl
attribute [irreducible] M Mi

theorem xor_eq_zero_iff (a b : Nat) : a ^^^ b = 0 ↔ a = b := by
  constructor
  · intro h
    have := congrArg (· ^^^ b) h
    simp only [Nat.zero_xor] at this
    rw [Nat.xor_assoc, Nat.xor_self, Nat.xor_zero] at this
    exact this
  · rintro rfl; exact Nat.xor_self a

theorem Mi_inj {k x y : Nat} (hx : x < 2 ^ 32) (hy : y < 2 ^ 32) (h : Mi k x = Mi k y) : x = y := by
  have h2 : Mi k (x ^^^ y) = 0 := by rw [Mi_xor, h, Nat.xor_self]
  exact (xor_eq_zero_iff x y).1 ((Mi_zero_iff k (xor_lt hx hy)).1 h2)

/-- The register behind bytes. -/
def reg : Nat → List Nat → Nat
  | x, [] => x
  | x, c :: r => reg (Mi 8 (x ^^^ c)) r

theorem reg_append : ∀ (l r : List Nat) (x : Nat), reg x (l ++ r) = reg (reg x l) r := by
  intro l
  induction l with
  | nil => intro r x; rfl
  | cons c t ih => intro r x; exact ih r _

theorem Mi_eight (n y : Nat) : Mi (8 * (n + 1)) y = Mi (8 * n) (Mi 8 y) := by
  have h : 8 * (n + 1) = 8 + 8 * n := by omega
  rw [h]
  exact Mi_add 8 (8 * n) y

theorem reg_xor : ∀ (l : List Nat) (x y : Nat), reg (x ^^^ y) l = reg x l ^^^ Mi (8 * l.length) y := by
  intro l
  induction l with
  | nil => intro x y; exact (congrArg (x ^^^ ·) (Mi_none y).symm)
  | cons c t ih =>
    intro x y
    have e : (x ^^^ y) ^^^ c = (x ^^^ c) ^^^ y := by ac_rfl
    have e1 : Mi 8 ((x ^^^ y) ^^^ c) = Mi 8 (x ^^^ c) ^^^ Mi 8 y := (congrArg (Mi 8) e).trans (Mi_xor 8 _ _)
    have e2 : reg (x ^^^ y) (c :: t) = reg (Mi 8 ((x ^^^ y) ^^^ c)) t := by rw [reg]
    have e3 : reg x (c :: t) = reg (Mi 8 (x ^^^ c)) t := by rw [reg]
    have e4 : (c :: t).length = t.length + 1 := rfl
    rw [e2, e1, e3, e4, Mi_eight]
    exact ih _ _

theorem reg_lt : ∀ (l : List Nat) (x : Nat), x < 2 ^ 32 → (∀ b ∈ l, b < 256) → reg x l < 2 ^ 32 := by
  intro l
  induction l with
  | nil => intro x h _; exact h
  | cons c t ih =>
    intro x h hb
    show reg (Mi 8 (x ^^^ c)) t < 2 ^ 32
    refine ih (Mi 8 (x ^^^ c)) (Mi_lt 8 (xor_lt h ?_)) (fun b hb' => hb b (by simp [hb']))
    have := hb c (by simp)
    omega

/-- The sum, from a number on. -/
def ext (s : Nat) (l : List Nat) : Nat := reg (s ^^^ ones) l ^^^ ones

theorem ones_lt : ones < 2 ^ 32 := by decide
theorem ext_lt {s : Nat} {l : List Nat} (hs : s < 2 ^ 32) (hl : ∀ b ∈ l, b < 256) : ext s l < 2 ^ 32 :=
  xor_lt (reg_lt l _ (xor_lt hs ones_lt) hl) ones_lt
theorem ext_nil (s : Nat) : ext s [] = s := by
  unfold ext reg
  rw [Nat.xor_assoc, Nat.xor_self, Nat.xor_zero]
theorem ext_append (s : Nat) (l r : List Nat) : ext s (l ++ r) = ext (ext s l) r := by
  unfold ext
  rw [reg_append]
  congr 1
  congr 1
  rw [Nat.xor_assoc, Nat.xor_self, Nat.xor_zero]

/-- What joining does: the first sum taken on over the second's length, and the second. -/
def join (a b n : Nat) : Nat := Mi (8 * n) a ^^^ b

theorem ext_join (s : Nat) (l : List Nat) : ext s l = join s (ext 0 l) l.length := by
  unfold ext join
  rw [Nat.zero_xor]
  have e : s ^^^ ones = ones ^^^ s := Nat.xor_comm ..
  rw [e, reg_xor]
  ac_rfl

theorem join_assoc (x y z m n : Nat) : join (join x y m) z n = join x (join y z n) (m + n) := by
  unfold join
  rw [Mi_xor, Nat.mul_add, Mi_add, Nat.xor_assoc]

/-- Three texts of one length. -/
def xor3 : List Nat → List Nat → List Nat → List Nat
  | a :: l, b :: m, c :: n => (a ^^^ b ^^^ c) :: xor3 l m n
  | _, _, _ => []

theorem reg_xor3 : ∀ (a b c : List Nat) (x y z : Nat), a.length = b.length → b.length = c.length →
    reg (x ^^^ y ^^^ z) (xor3 a b c) = reg x a ^^^ reg y b ^^^ reg z c := by
  intro a
  induction a with
  | nil =>
    intro b c x y z h1 h2
    cases b with
    | nil => cases c with
      | nil => rfl
      | cons _ _ => simp at h2
    | cons _ _ => simp at h1
  | cons p l ih =>
    intro b c x y z h1 h2
    cases b with
    | nil => simp at h1
    | cons q m =>
      cases c with
      | nil => simp at h2
      | cons r n =>
        simp only [xor3, reg]
        have e : (x ^^^ y ^^^ z) ^^^ (p ^^^ q ^^^ r) = (x ^^^ p) ^^^ (y ^^^ q) ^^^ (z ^^^ r) := by ac_rfl
        rw [e, Mi_xor, Mi_xor]
        exact ih m n _ _ _ (by simpa using h1) (by simpa using h2)

theorem ext_xor3 (a b c : List Nat) (h1 : a.length = b.length) (h2 : b.length = c.length) :
    ext 0 (xor3 a b c) = ext 0 a ^^^ ext 0 b ^^^ ext 0 c := by
  unfold ext
  rw [Nat.zero_xor]
  have e : ones = ones ^^^ ones ^^^ ones := by rw [Nat.xor_self, Nat.zero_xor]
  conv => lhs; rw [show reg ones (xor3 a b c) = reg (ones ^^^ ones ^^^ ones) (xor3 a b c) from by rw [← e]]
  rw [reg_xor3 a b c ones ones ones h1 h2]
  generalize reg ones a = p
  generalize reg ones b = q
  generalize reg ones c = r
  have e2 : p ^^^ ones ^^^ (q ^^^ ones) ^^^ (r ^^^ ones) = p ^^^ q ^^^ r ^^^ (ones ^^^ ones ^^^ ones) := by ac_rfl
  rw [e2, ← e]

/-- A bit turned: what becomes of the register. -/
theorem reg_flip : ∀ (l : List Nat) (x p c : Nat), l[p / 8]? = some c →
    reg x (l.set (p / 8) (c ^^^ 2 ^ (p % 8))) = reg x l ^^^ Mi (8 * l.length - p) 1 := by
  intro l
  induction l with
  | nil => intro x p c h; simp at h
  | cons d t ih =>
    intro x p c h
    by_cases hp : p < 8
    · have h0 : p / 8 = 0 := by omega
      have h1 : p % 8 = p := by omega
      rw [h0] at h ⊢
      rw [h1]
      have hd : d = c := by simpa using h
      subst hd
      simp only [List.set_cons_zero, reg, List.length_cons]
      have e : x ^^^ (d ^^^ 2 ^ p) = (x ^^^ d) ^^^ 2 ^ p := by ac_rfl
      rw [e, Mi_xor, reg_xor]
      congr 1
      rw [← Mi_add]
      have e2 : 8 + 8 * t.length = p + (8 * (t.length + 1) - p) := by omega
      rw [e2, Mi_add]
      congr 1
      have := Mi_pow p 1
      rw [Nat.mul_one] at this
      exact this
    · have h0 : p / 8 = (p - 8) / 8 + 1 := by omega
      have h1 : p % 8 = (p - 8) % 8 := by omega
      rw [h0] at h ⊢
      rw [h1]
      simp only [List.set_cons_succ, reg, List.length_cons]
      rw [List.getElem?_cons_succ] at h
      rw [ih _ (p - 8) c h]
      congr 2
      omega

/-- Steps of half a byte: by a table of sixteen. -/
theorem Mi4 (x : Nat) : Mi 4 x = Mi 4 (x % 16) ^^^ x / 16 := by
  have hx : x = x % 16 ^^^ 2 ^ 4 * (x / 16) := by
    apply Nat.eq_of_testBit_eq
    intro i
    rw [Nat.testBit_xor]
    have h16 : x % 16 = x % 2 ^ 4 := rfl
    rw [h16, Nat.testBit_mod_two_pow, Nat.testBit_two_pow_mul]
    by_cases hi : i < 4
    · have h3 : decide (4 ≤ i) = false := by simp; omega
      rw [h3]
      simp [hi]
    · simp only [hi, decide_false, Bool.false_and, Bool.false_xor]
      have h3 : decide (4 ≤ i) = true := by simp; omega
      have h2 : x / 16 = x / 2 ^ 4 := rfl
      rw [h3, Bool.true_and, h2, Nat.testBit_div_two_pow]
      congr 1
      omega
  conv => lhs; rw [hx]
  rw [Mi_xor, Mi_pow]
end Go.Proofs.YtljfmcgeiceagaaDoor.Crc

/- octet.step, sums, Extend, Sum: what they return. -/
namespace Go.Proofs.YtljfmcgeiceagaaDoor
open Go Go.RowKit
set_option linter.unusedVariables false

theorem and1_u32 (x : Nat) (h : x < 4294967296) : bits .and .u32 (x : Int) 1 = ((x % 2 : Nat) : Int) := by
  have := u32_and_nat x 1 h (by omega)
  rw [nat_mask1] at this
  exact this
theorem xor_poly (x : Nat) (h : x < 4294967296) : bits .xor .u32 ((x : Int) / 2) 2197175160 = ((x / 2 ^^^ Crc.poly : Nat) : Int) := by
  have e : (x : Int) / 2 = ((x / 2 : Nat) : Int) := by omega
  rw [e]
  exact u32_xor_nat (x / 2) 2197175160 (by omega) (by omega)
theorem M_odd {x : Nat} (h : x % 2 = 1) : Crc.M x = (x / 2) ^^^ Crc.poly := by unfold Crc.M; rw [if_pos h]
theorem M_even {x : Nat} (h : ¬ x % 2 = 1) : Crc.M x = x / 2 := by unfold Crc.M; rw [if_neg h]

theorem step_any (x : Nat) (w : World) (h : x < 4294967296) :
    Calls Tryd.prog 98 #[.int .u32 (x : Int)] w fun e w' => e = .returned (.int .u32 ((Crc.M x : Nat) : Int)) ∧ w = w' := by
  have ha := and1_u32 x h
  by_cases hx : x % 2 = 1
  · have hb : (bits .and .u32 (x : Int) 1 != 0) = true := by rw [ha, bne_iff_ne]; omega
    have HM := Lib.hid (M_odd hx)
    clear ha hx
    go_enter Tryd.func98, Tryd.ntmps98
    go_wp2
    go_ret
    exact ⟨ret_i (by rw [HM.out]; exact xor_poly x h), rfl⟩
  · have hb : (bits .and .u32 (x : Int) 1 != 0) = false := by rw [ha, bne_eq_false_iff_eq]; omega
    have HM := Lib.hid (M_even hx)
    clear ha hx
    go_enter Tryd.func98, Tryd.ntmps98
    go_wp2
    go_ret
    exact ⟨ret_i (by rw [HM.out]; omega), rfl⟩

def v32 (x : Nat) : Value := .int .u32 (x : Int)
/-- The table of half bytes. -/
def tab : List Value := (List.range 16).map fun i => v32 (Crc.Mi 4 i)
def tabTo (k : Nat) : List Value := (List.range k).map (fun i => v32 (Crc.Mi 4 i)) ++ List.replicate (16 - k) (v32 0)

theorem tabTo_length (k : Nat) (h : k ≤ 16) : (tabTo k).length = 16 := by simp [tabTo]; omega
theorem tabTo_get (k : Nat) (h : k < 16) : (tabTo k)[k]? = some (v32 0) := by
  unfold tabTo
  rw [List.getElem?_append_right (by simp), List.getElem?_replicate, if_pos (by simp; omega)]
theorem tabTo_set (k : Nat) (h : k < 16) : (tabTo k).set k (v32 (Crc.Mi 4 k)) = tabTo (k + 1) := by
  unfold tabTo
  rw [List.set_append_right _ _ (by simp)]
  obtain ⟨m, hm⟩ : ∃ m, 16 - k = m + 1 := ⟨15 - k, by omega⟩
  rw [hm, show 16 - (k + 1) = m from by omega, List.range_succ]
  simp [List.replicate_succ]
theorem tabTo_one (k : Nat) : (tabTo k).toArray.all (·.oneCell') = true := by
  rw [Array.all_eq_true_iff_forall_mem]
  intro x hx
  simp only [List.mem_toArray, tabTo, List.mem_append, List.mem_map, List.mem_replicate] at hx
  rcases hx with ⟨i, _, rfl⟩ | ⟨_, rfl⟩ <;> rfl
theorem info16 : (Tryd.prog.info? 122).map (·.size) = some 16 := by kernel_rfl
theorem tabTo_full : tabTo 16 = tab := by simp [tabTo, tab]

set_option maxHeartbeats 800000 in
set_option maxRecDepth 100000 in
theorem sums_any (w : World) :
    Calls Tryd.prog 86 #[] w fun e w' => e = .returned (.agg tab.toArray) ∧ Below w.heap.size w w' := by
  have z16 : (List.replicate 16 (v32 0)) = tabTo 0 := by simp [tabTo]
  go_enter Tryd.func86, Tryd.ntmps86
  go_wp2_with fail
  go_loopw [4] (fun i wr => ∃ k : Nat, k ≤ 16 ∧ i = .int .i64 k ∧ Hid (wr.heap[w.heap.size + 1]? = some (.cells (tabTo k).toArray 122 (0, 0))) ∧ Hid (wr.heap[w.heap.size]? = some (.cells (tabTo 0).toArray 122 (0, 0))) ∧ Below w.heap.size w wr) (fun i _ => 16 - (intOf i).toNat)
  case atStart => exact ⟨0, by omega, rfl, by rw [← z16]; exact heap_alloc2_new _ _ _, by rw [← z16]; exact heap_alloc2_old _ _ _, ((Below.refl _ _).alloc (Nat.le_refl _) _).alloc (by simp) _⟩
  case round =>
    obtain ⟨k, hk, rfl, H1, H0, hb⟩ := hrel
    by_cases hlt : k < 16
    · have hc : wr.cell? ⟨w.heap.size + 1, k, none⟩ = some (.int .u32 0) := by
        rw [cell_of_row wr _ k _ _ _ H1.out]
        simpa [v32] using tabTo_get k hlt
      have hd : decide ((k : Int) < 16) = true := by simp; omega
      have hf : wr.frozen? ⟨w.heap.size + 1, k, none⟩ = false := frozen_of_row wr _ k _ _ H1.out
      go_wp2_with fail
      go_loop [3, 9] (fun x i => ∃ j : Nat, j ≤ 4 ∧ i = .int .i64 j ∧ x = .int .u32 ((Crc.Mi j k : Nat) : Int)) (fun _ i => 4 - (intOf i).toNat)
      case atStart => exact ⟨0, by omega, rfl, by rw [Crc.Mi_none]⟩
      case round =>
        obtain ⟨j, hj, rfl, rfl⟩ := hrel
        have hmi : Crc.Mi j k < 4294967296 := Crc.Mi_lt j (by omega)
        by_cases hj4 : j < 4
        · have hnext : Crc.M (Crc.Mi j k) = Crc.Mi (j + 1) k := by rw [Crc.Mi_add j 1 k, Crc.Mi_more, Crc.Mi_none]
          have HN := Lib.hid hnext
          clear hnext
          go_wp2_with fail
          refine (step_any (Crc.Mi j k) _ hmi).mono ?_
          rintro e w' ⟨rfl, rfl⟩
          rw [HN.out]
          go_wp2_with fail
          go_round
          case rel => exact ⟨j + 1, by omega, by go_num, rfl⟩
          case measure => simp [intOf]; omega
        · have hj44 : j = 4 := by omega
          subst hj44
          go_wp2_with fail
          go_roundw
          case rel =>
            refine ⟨k + 1, by omega, by go_num, ?_, ?_, hb.setCell (by simp) _⟩
            · have := heap_setCell_same wr (w.heap.size + 1) k _ _ (v32 (Crc.Mi 4 k)) H1.out
              rw [List.setIfInBounds_toArray, tabTo_set k hlt] at this
              exact this
            · exact (heap_setCell_other wr ⟨w.heap.size + 1, k, none⟩ w.heap.size _ (by simp)).trans H0.out
          case measure => simp [intOf]; omega
    · have hk16 : k = 16 := by omega
      subst hk16
      go_wp2_with (first
        | (refine wpList_load_row rfl 122 (.tmp 1) rfl (w.heap.size + 1) rfl _ _ _ _ H1.out Tryd.underlying122 rfl (by kernel_rfl) ?_)
        | (refine wpList_store_row rfl 122 (.tmp 0) (.tmp 18) rfl w.heap.size (tabTo 16).toArray rfl rfl _ _ H0.out (info16.trans (by simp [tabTo_length])) (by simp [tabTo_length]) (tabTo_one 16) ?_))
      refine bodyPost_ret (results_cell_row rfl _ _ w.heap.size 122 (tabTo 16).toArray (0, 0) _ rfl (setRow_heap wr w.heap.size _ _ _ (0, 0) H0.out) Tryd.underlying122 rfl (info16.trans (by simp [tabTo_length]))) rfl ⟨by rw [tabTo_full], ?_⟩
      exact hb.trans ⟨rfl, rfl, rfl, by simp, fun i hi => setRow_other wr w.heap.size i _ (by omega)⟩

theorem and15 (y : Nat) (h : y < 4294967296) : bits .and .u32 (y : Int) 15 = ((y % 16 : Nat) : Int) := by
  have := u32_and_nat y 15 h (by omega)
  rw [nat_mask4] at this
  exact this
theorem xor_shift4 (t y : Nat) (ht : t < 4294967296) (h : y < 4294967296) : bits .xor .u32 (t : Int) ((y : Int) / 16) = ((t ^^^ y / 16 : Nat) : Int) := by
  have e : (y : Int) / 16 = ((y / 16 : Nat) : Int) := by omega
  rw [e]
  exact u32_xor_nat t (y / 16) ht (by omega)
theorem tab_get (r : Nat) (h : r < 16) : tab[r]? = some (.int .u32 ((Crc.Mi 4 r : Nat) : Int)) := by
  unfold tab
  rw [List.getElem?_map, List.getElem?_range h]
  rfl

/-- A step of half a byte, all that a walk wants of it. -/
theorem half (y : Nat) (h : y < 4294967296) : ∃ r t z : Nat, bits .and .u32 (y : Int) 15 = (r : Int) ∧ r < 16 ∧ tab[r]? = some (.int .u32 (t : Int)) ∧ bits .xor .u32 (t : Int) ((y : Int) / 16) = (z : Int) ∧ z = Crc.Mi 4 y ∧ z < 4294967296 := by
  have hr : y % 16 < 16 := Nat.mod_lt _ (by omega)
  have ht : Crc.Mi 4 (y % 16) < 4294967296 := Crc.Mi_lt 4 (by omega)
  have hz : Crc.Mi 4 y < 4294967296 := Crc.Mi_lt 4 h
  refine ⟨y % 16, Crc.Mi 4 (y % 16), Crc.Mi 4 y, and15 y h, hr, tab_get _ hr, ?_, rfl, hz⟩
  rw [xor_shift4 _ _ ht h, ← Crc.Mi4]

theorem xor_max (x : Nat) (h : x < 4294967296) : bits .xor .u32 IntKind.u32.max (x : Int) = ((x ^^^ Crc.ones : Nat) : Int) := by
  have := u32_xor_nat 4294967295 x (by omega) h
  rw [Nat.xor_comm] at this
  exact this

theorem load_tab {w : World} {g r t : Nat} {e : TypeId} (h : w.heap[g]? = some (.cells tab.toArray e (0, 0))) (hr : tab[r]? = some (.int .u32 (t : Int))) : w.cell? ⟨g, r, none⟩ = some (.int .u32 (t : Int)) := by
  rw [cell_of_row w g r _ _ _ h]
  simpa using hr

set_option maxHeartbeats 800000 in
set_option maxRecDepth 100000 in
theorem extend_all (s : Nat) (A : Option Addr) (c : Nat) (bs : List Nat) (w : World) (hs : s < 4294967296) (hr : Rd w A (b8 bs)) (hby : By bs) (hl : bs.length ≤ 140737488355328) :
    Calls Tryd.prog 64 #[.int .u32 (s : Int), .slice A bs.length c] w fun e w' => e = .returned (.int .u32 ((Crc.ext s bs : Nat) : Int)) ∧ Below w.heap.size w w' := by
  go_enter Tryd.func64, Tryd.ntmps64
  go_wp2_with fail
  refine (sums_any w).mono ?_
  rintro e w1 ⟨rfl, hb1⟩
  go_wp2_with (refine wpList_store_row rfl 122 (.tmp 6) (.tmp 11) rfl w1.heap.size tab.toArray rfl rfl _ _ (heap_alloc_new w1 _) (info16.trans (by rw [← tabTo_full]; simp [tabTo_length])) (by rw [← tabTo_full]; simp [tabTo_length]) (by rw [← tabTo_full]; exact tabTo_one 16) ?_)
  obtain ⟨W, hW⟩ : ∃ W : World, W = (w1.alloc (.cells #[.int .u32 0, .int .u32 0, .int .u32 0, .int .u32 0, .int .u32 0, .int .u32 0, .int .u32 0, .int .u32 0, .int .u32 0, .int .u32 0, .int .u32 0, .int .u32 0, .int .u32 0, .int .u32 0, .int .u32 0, .int .u32 0] 122)).setRow w1.heap.size tab.toArray := ⟨_, rfl⟩
  have hg : W.heap[w1.heap.size]? = some (.cells tab.toArray 122 (0, 0)) := by
    rw [hW]
    exact setRow_heap _ _ _ _ _ (0, 0) (heap_alloc_new w1 _)
  have hbW : Below w.heap.size w W := by
    rw [hW]
    refine (hb1.alloc hb1.size _).trans ⟨rfl, rfl, rfl, by simp, fun i hi => setRow_other _ _ i _ ?_⟩
    have := hb1.size
    omega
  rw [← hW]
  have HG := Lib.hid hg
  have HR := Lib.hid (hr.below hbW)
  have HX := Lib.hid (xor_max s hs)
  have hs1 : s ^^^ Crc.ones < 4294967296 := Crc.xor_lt (n := 32) hs Crc.ones_lt
  have HS1 := Lib.hid hs1
  clear hg hW hb1 hr hs1
  go_loop [5, 14] (fun v i => ∃ k x : Nat, k ≤ bs.length ∧ i = .int .i64 k ∧ v = .int .u32 (x : Int) ∧ x < 4294967296 ∧ Hid (Crc.reg (s ^^^ Crc.ones) bs = Crc.reg x (bs.drop k))) (fun _ i => bs.length - (intOf i).toNat)
  case atStart => exact ⟨0, s ^^^ Crc.ones, Nat.zero_le _, rfl, by rw [HX.out], HS1.out, by simp [Hid]⟩
  case round =>
    obtain ⟨k, x, hk, rfl, rfl, hx32, H⟩ := hrel
    by_cases hlt : k < bs.length
    · obtain ⟨b, hb, hb256, hdr⟩ := hby.get hlt
      obtain ⟨g, off, rfl, hg, hcell⟩ := HR.out.at_ hb
      have hN : Crc.reg (s ^^^ Crc.ones) bs = Crc.reg (Crc.Mi 8 (x ^^^ b)) (bs.drop (k + 1)) := by rw [H.out, hdr, Crc.reg]
      obtain ⟨y, hy⟩ : ∃ y, y = x ^^^ b := ⟨_, rfl⟩
      have e1 : bits .xor .u32 (x : Int) (b : Int) = (y : Int) := by rw [hy]; exact u32_xor_nat x b hx32 (by omega)
      have hy32 : y < 4294967296 := by rw [hy]; exact Crc.xor_lt (n := 32) hx32 (by omega)
      obtain ⟨r1, t1, z1, f1, f2, f3, f4, f5, f6⟩ := half y hy32
      obtain ⟨r2, t2, z2, f7, f8, f9, f10, f11, f12⟩ := half z1 f6
      have g1 := load_tab HG.out f3
      have g2 := load_tab HG.out f9
      have hM : z2 = Crc.Mi 8 (x ^^^ b) := by rw [f11, f5, hy]; exact (Crc.Mi_add 4 4 _).symm
      rw [← hM] at hN
      have HN := Lib.hid hN
      clear hN hM hy f5 f11 f3 f9 hb hdr H
      go_wp2_with fail
      go_round
      case rel => exact ⟨k + 1, z2, by omega, by go_num, rfl, f12, HN⟩
      case measure => simp [intOf]; omega
    · have hN : Crc.ext s bs = x ^^^ Crc.ones := by unfold Crc.ext; rw [H.out, List.drop_eq_nil_of_le (by omega), Crc.reg]
      have HN := Lib.hid hN
      clear hN H
      go_wp2_with fail
      go_ret
      exact ⟨ret_i (by rw [HN.out]; exact xor_max x hx32), hbW⟩

theorem extend_any (s : Nat) (A : Option Addr) (n c : Nat) (bs : List Nat) (w : World) (hs : s < 4294967296) (hr : Rd w A (b8 bs)) (hby : By bs) (hn : bs.length = n) (hl : n ≤ 140737488355328) :
    Calls Tryd.prog 64 #[.int .u32 (s : Int), .slice A n c] w fun e w' => e = .returned (.int .u32 ((Crc.ext s bs : Nat) : Int)) ∧ Below w.heap.size w w' := by
  subst hn
  exact extend_all s A c bs w hs hr hby hl

set_option maxRecDepth 100000 in
theorem sum_any (A : Option Addr) (n c : Nat) (bs : List Nat) (w : World) (hr : Rd w A (b8 bs)) (hby : By bs) (hn : bs.length = n) (hl : n ≤ 140737488355328) :
    Calls Tryd.prog 65 #[.slice A n c] w fun e w' => e = .returned (.int .u32 ((Crc.ext 0 bs : Nat) : Int)) ∧ Below w.heap.size w w' := by
  go_enter Tryd.func65, Tryd.ntmps65
  go_wp2_with fail
  refine (extend_any 0 A n c bs w (by omega) hr hby hn hl).mono ?_
  rintro e w1 ⟨rfl, hb⟩
  go_wp2_with fail
  go_ret
  exact ⟨rfl, hb⟩
end Go.Proofs.YtljfmcgeiceagaaDoor

/- Four bytes behind a text that give it a wanted sum: the plain law. -/
namespace Go.Proofs.YtljfmcgeiceagaaDoor
open Go
namespace Pat

def hi (i : Nat) : Nat := Crc.Mi 4 i / 268435456
def bkTo : Nat → List Nat
  | 0 => List.replicate 16 0
  | k + 1 => (bkTo k).set (hi k) k
theorem hi_lt (i : Nat) (h : i < 16) : hi i < 16 := by
  have : Crc.Mi 4 i < 2 ^ 32 := Crc.Mi_lt 4 (by omega)
  unfold hi
  omega
theorem bkTo_length : ∀ k, (bkTo k).length = 16
  | 0 => by simp [bkTo]
  | k + 1 => by rw [bkTo, List.length_set, bkTo_length k]
def bk : List Nat := bkTo 16
theorem bk_ok : ∀ j, j < 16 → (bk[j]?).any (fun i => decide (i < 16) && decide (hi i = j)) = true := by decide +kernel
theorem bk_get (j : Nat) (h : j < 16) : ∃ i, bk[j]? = some i ∧ i < 16 ∧ hi i = j := by
  have := bk_ok j h
  cases hb : bk[j]? with
  | none => rw [hb] at this; cases this
  | some i =>
    rw [hb] at this
    simp only [Option.any_some, Bool.and_eq_true, decide_eq_true_eq] at this
    exact ⟨i, rfl, this.1, this.2⟩
/-- The entry whose row of the table begins with the given half byte. -/
def via (y : Nat) : Nat := (bk[y / 268435456]?).getD 0
theorem via_lt {y : Nat} (h : y < 4294967296) : via y < 16 := by
  obtain ⟨i, hi, hl, _⟩ := bk_get (y / 268435456) (by omega)
  unfold via
  rw [hi]
  exact hl
theorem via_get {y : Nat} (h : y < 4294967296) : bk[y / 268435456]? = some (via y) := by
  obtain ⟨i, hi, hl, _⟩ := bk_get (y / 268435456) (by omega)
  unfold via
  rw [hi]
  rfl
theorem via_hi {y : Nat} (h : y < 4294967296) : Crc.Mi 4 (via y) / 268435456 = y / 268435456 := by
  obtain ⟨i, hi, hl, hh⟩ := bk_get (y / 268435456) (by omega)
  unfold via
  rw [hi]
  exact hh

theorem xor_div16 (x y : Nat) : (x ^^^ y) / 16 = x / 16 ^^^ y / 16 := by
  have : ∀ a : Nat, a / 16 = a / 2 / 2 / 2 / 2 := by intro a; omega
  rw [this, this x, this y, Crc.xor_div2, Crc.xor_div2, Crc.xor_div2, Crc.xor_div2]
theorem shr28 (a : Nat) : a / 268435456 = a >>> 28 := by rw [Nat.shiftRight_eq_div_pow]

/-- One step back. -/
def less (y : Nat) : Nat := (y ^^^ Crc.Mi 4 (via y)) * 16
theorem less_small {y : Nat} (h : y < 4294967296) : y ^^^ Crc.Mi 4 (via y) < 268435456 := by
  have hd : (y ^^^ Crc.Mi 4 (via y)) / 268435456 = 0 := by
    rw [shr28, Nat.shiftRight_xor_distrib, ← shr28, ← shr28, via_hi h, Nat.xor_self]
  omega
theorem less_lt {y : Nat} (h : y < 4294967296) : less y < 4294967296 := by
  have := less_small h
  unfold less
  omega
theorem less_back {y : Nat} : Crc.Mi 4 (via y) ^^^ less y / 16 = y := by
  unfold less
  rw [Nat.mul_div_cancel _ (by omega), Nat.xor_comm y, ← Nat.xor_assoc, Nat.xor_self, Nat.zero_xor]

def back (y0 : Nat) : Nat → Nat
  | 0 => y0
  | i + 1 => less (back y0 i)
theorem back_lt {y0 : Nat} (h : y0 < 4294967296) : ∀ i, back y0 i < 4294967296
  | 0 => h
  | i + 1 => less_lt (back_lt h i)
def vi (y0 i : Nat) : Nat := via (back y0 i)
theorem vi_lt {y0 : Nat} (h : y0 < 4294967296) (i : Nat) : vi y0 i < 16 := via_lt (back_lt h i)

/-- Forward: after d half bytes. -/
def fwd (y0 r : Nat) : Nat → Nat
  | 0 => r
  | d + 1 => Crc.Mi 4 (vi y0 (7 - d)) ^^^ fwd y0 r d / 16
theorem fwd_lt {y0 r : Nat} (hy : y0 < 4294967296) (hr : r < 4294967296) : ∀ d, fwd y0 r d < 4294967296
  | 0 => hr
  | d + 1 => by
    have := fwd_lt hy hr d
    exact Crc.xor_lt (n := 32) (Crc.Mi_lt 4 (by have := vi_lt hy (7 - d); omega)) (by omega)
def nib (y0 r d : Nat) : Nat := fwd y0 r d % 16 ^^^ vi y0 (7 - d)
theorem nib_lt {y0 r : Nat} (hy : y0 < 4294967296) (d : Nat) : nib y0 r d < 16 :=
  Crc.xor_lt (n := 4) (Nat.mod_lt _ (by omega)) (vi_lt hy _)
theorem mod_split (y : Nat) : y = 16 * (y / 16) ^^^ y % 16 := by
  apply Nat.eq_of_testBit_eq
  intro j
  rw [Nat.testBit_xor, show 16 * (y / 16) = 2 ^ 4 * (y / 16) from rfl, Nat.testBit_two_pow_mul, show (16 : Nat) = 2 ^ 4 from rfl, Nat.testBit_mod_two_pow, ← Nat.shiftRight_eq_div_pow, Nat.testBit_shiftRight]
  by_cases hj : 4 ≤ j
  · rw [show 4 + (j - 4) = j from by omega]; simp [hj, show ¬ j < 4 from by omega]
  · simp [hj, show j < 4 from by omega]
theorem fwd_step (y0 r d : Nat) : fwd y0 r (d + 1) = Crc.Mi 4 (fwd y0 r d ^^^ nib y0 r d) := by
  have e : fwd y0 r d ^^^ nib y0 r d = 16 * (fwd y0 r d / 16) ^^^ vi y0 (7 - d) := by
    unfold nib
    conv => lhs; lhs; rw [mod_split (fwd y0 r d)]
    rw [Nat.xor_assoc, ← Nat.xor_assoc (fwd y0 r d % 16), Nat.xor_self, Nat.zero_xor]
  rw [e, Crc.Mi_xor, show 16 * (fwd y0 r d / 16) = 2 ^ 4 * (fwd y0 r d / 16) from rfl, Crc.Mi_pow, fwd, Nat.xor_comm]
theorem near (y0 r : Nat) (hy : y0 < 4294967296) (hr : r < 4294967296) : ∀ d, d ≤ 8 → fwd y0 r d ^^^ back y0 (8 - d) < 16 ^ (8 - d)
  | 0, _ => Crc.xor_lt (n := 32) hr (back_lt hy 8)
  | d + 1, hd => by
    have ih := near y0 r hy hr d (by omega)
    obtain ⟨m, hm⟩ : ∃ m, 7 - d = m := ⟨_, rfl⟩
    rw [show 8 - d = m + 1 from by omega] at ih
    rw [show 8 - (d + 1) = m from by omega]
    have e : fwd y0 r (d + 1) ^^^ back y0 m = (fwd y0 r d ^^^ back y0 (m + 1)) / 16 := by
      rw [fwd, hm, xor_div16]
      conv => lhs; rhs; rw [← less_back (y := back y0 m)]
      show (Crc.Mi 4 (via (back y0 m)) ^^^ fwd y0 r d / 16) ^^^ (Crc.Mi 4 (via (back y0 m)) ^^^ less (back y0 m) / 16) = _
      rw [Nat.xor_comm (Crc.Mi 4 (via (back y0 m))) (fwd y0 r d / 16), Nat.xor_assoc, ← Nat.xor_assoc (Crc.Mi 4 (via (back y0 m))) (Crc.Mi 4 (via (back y0 m))), Nat.xor_self, Nat.zero_xor]
      rfl
    rw [e]
    rw [Nat.pow_succ] at ih
    exact Nat.div_lt_of_lt_mul (by omega)
theorem reached (y0 r : Nat) (hy : y0 < 4294967296) (hr : r < 4294967296) : fwd y0 r 8 = y0 := by
  have := near y0 r hy hr 8 (by omega)
  rw [show 8 - 8 = 0 from rfl, Nat.pow_zero] at this
  exact (Crc.xor_eq_zero_iff _ _).1 (by simpa [back] using Nat.lt_one_iff.1 this)

/-- The byte at a place, after d half bytes. -/
def byteTo (y0 r d k : Nat) : Nat := (if 2 * k < d then nib y0 r (2 * k) else 0) + 16 * (if 2 * k + 1 < d then nib y0 r (2 * k + 1) else 0)
def rowTo (y0 r d : Nat) : List Nat := [byteTo y0 r d 0, byteTo y0 r d 1, byteTo y0 r d 2, byteTo y0 r d 3]
theorem byteTo_lt {y0 r : Nat} (hy : y0 < 4294967296) (d k : Nat) : byteTo y0 r d k < 256 := by
  have h1 := nib_lt (r := r) hy (2 * k)
  have h2 := nib_lt (r := r) hy (2 * k + 1)
  unfold byteTo
  split <;> split <;> omega
theorem row_by {y0 r : Nat} (hy : y0 < 4294967296) (d : Nat) : ∀ b ∈ rowTo y0 r d, b < 256 := by
  intro b hb
  simp only [rowTo, List.mem_cons, List.not_mem_nil, or_false] at hb
  rcases hb with rfl | rfl | rfl | rfl <;> exact byteTo_lt hy _ _
theorem Mi8_two (y a b : Nat) : Crc.Mi 8 (y ^^^ (a ^^^ 16 * b)) = Crc.Mi 4 (Crc.Mi 4 (y ^^^ a) ^^^ b) := by
  rw [show (8 : Nat) = 4 + 4 from rfl, Crc.Mi_add, ← Nat.xor_assoc, Crc.Mi_xor 4 (y ^^^ a), show 16 * b = 2 ^ 4 * b from rfl, Crc.Mi_pow]
theorem add_xor16 (a b : Nat) (h : a < 16) : a + 16 * b = a ^^^ 16 * b := by
  have := mod_split (a + 16 * b)
  rw [show (a + 16 * b) / 16 = b from by omega, show (a + 16 * b) % 16 = a from by omega, Nat.xor_comm] at this
  exact this
theorem reg_row (y0 r : Nat) (hy : y0 < 4294967296) (hr : r < 4294967296) : Crc.reg r (rowTo y0 r 8) = y0 := by
  have h : ∀ k, k < 4 → Crc.Mi 8 (fwd y0 r (2 * k) ^^^ byteTo y0 r 8 k) = fwd y0 r (2 * k + 1 + 1) := by
    intro k hk
    unfold byteTo
    rw [if_pos (by omega), if_pos (by omega), add_xor16 _ _ (nib_lt hy _), Mi8_two, ← fwd_step, ← fwd_step]
  have h0 := h 0 (by omega)
  have h1 := h 1 (by omega)
  have h2 := h 2 (by omega)
  have h3 := h 3 (by omega)
  have hf := reached y0 r hy hr
  simp only [rowTo, Crc.reg]
  have e0 : fwd y0 r (2 * 0) = r := rfl
  rw [e0] at h0
  rw [h0]
  show Crc.Mi 8 (Crc.Mi 8 (Crc.Mi 8 (fwd y0 r (2 * 1) ^^^ byteTo y0 r 8 1) ^^^ _) ^^^ _) = y0
  rw [h1]
  show Crc.Mi 8 (Crc.Mi 8 (fwd y0 r (2 * 2) ^^^ byteTo y0 r 8 2) ^^^ _) = y0
  rw [h2]
  show Crc.Mi 8 (fwd y0 r (2 * 3) ^^^ byteTo y0 r 8 3) = y0
  rw [h3]
  exact hf

/-- The bytes for a text's end. -/
def patch (l : List Nat) (want : Nat) : List Nat := rowTo (want ^^^ Crc.ones) (Crc.ext 0 l ^^^ Crc.ones) 8
theorem patch_length (l : List Nat) (want : Nat) : (patch l want).length = 4 := rfl
theorem patch_by (l : List Nat) {want : Nat} (h : want < 4294967296) : ∀ b ∈ patch l want, b < 256 :=
  row_by (Crc.xor_lt (n := 32) h Crc.ones_lt) 8
theorem ext_patch (l : List Nat) {want : Nat} (h : want < 4294967296) (hl : ∀ b ∈ l, b < 256) : Crc.ext 0 (l ++ patch l want) = want := by
  rw [Crc.ext_append, Crc.ext]
  unfold patch
  rw [reg_row _ _ (Crc.xor_lt (n := 32) h Crc.ones_lt) (Crc.xor_lt (n := 32) (Crc.ext_lt (by omega) hl) Crc.ones_lt), Nat.xor_assoc, Nat.xor_self, Nat.xor_zero]

theorem byte_split {a b x y : Nat} (ha : a < 256) (hb : b < 256) (h : a ^^^ 256 * x = b ^^^ 256 * y) : a = b ∧ x = y := by
  have hm : ∀ p q : Nat, p < 256 → (p ^^^ 256 * q) % 256 = p := by
    intro p q hp
    apply Nat.eq_of_testBit_eq
    intro j
    rw [show (256 : Nat) = 2 ^ 8 from rfl, Nat.testBit_mod_two_pow, Nat.testBit_xor, Nat.testBit_two_pow_mul]
    by_cases hj : j < 8
    · simp [hj, show ¬ 8 ≤ j from by omega]
    · have : p.testBit j = false := Nat.testBit_lt_two_pow (Nat.lt_of_lt_of_le hp (by rw [show (256 : Nat) = 2 ^ 8 from rfl]; exact Nat.pow_le_pow_right (by omega) (by omega)))
      simp [hj, this]
  have e1 : (a ^^^ 256 * x) % 256 = (b ^^^ 256 * y) % 256 := by rw [h]
  rw [hm a x ha, hm b y hb] at e1
  subst e1
  have e2 : a ^^^ (a ^^^ 256 * x) = a ^^^ (a ^^^ 256 * y) := by rw [h]
  rw [← Nat.xor_assoc, Nat.xor_self, Nat.zero_xor, ← Nat.xor_assoc, Nat.xor_self, Nat.zero_xor] at e2
  exact ⟨rfl, by omega⟩
theorem Mi8_shift (k x : Nat) : Crc.Mi (8 * (k + 1)) (256 * x) = Crc.Mi (8 * k) x := by
  rw [Crc.Mi_eight, show (256 : Nat) * x = 2 ^ 8 * x from rfl, Crc.Mi_pow]
/-- Bytes as one number, the first lowest. -/
def num : List Nat → Nat
  | [] => 0
  | b :: l => b ^^^ 256 * num l
theorem num_lt : ∀ (l : List Nat), (∀ b ∈ l, b < 256) → num l < 2 ^ (8 * l.length)
  | [], _ => by simp [num]
  | b :: l, h => by
    have ih := num_lt l (fun c hc => h c (by simp [hc]))
    have hb := h b (by simp)
    have h256 : 256 * num l < 2 ^ (8 * (l.length + 1)) := by
      rw [show 8 * (l.length + 1) = 8 * l.length + 8 from by omega, Nat.pow_add, Nat.mul_comm]
      exact Nat.mul_lt_mul_of_pos_right ih (by omega)
    have hb2 : b < 2 ^ (8 * (l.length + 1)) := Nat.lt_of_lt_of_le hb (by
      rw [show (256 : Nat) = 2 ^ 8 from rfl]
      exact Nat.pow_le_pow_right (by omega) (by omega))
    exact Crc.xor_lt hb2 h256
theorem num_inj : ∀ (l m : List Nat), (∀ b ∈ l, b < 256) → (∀ b ∈ m, b < 256) → l.length = m.length → num l = num m → l = m
  | [], [], _, _, _, _ => rfl
  | [], _ :: _, _, _, h, _ => by simp at h
  | _ :: _, [], _, _, h, _ => by simp at h
  | a :: l, b :: m, hl, hm, hn, h => by
    obtain ⟨rfl, h2⟩ := byte_split (hl a (by simp)) (hm b (by simp)) h
    rw [num_inj l m (fun c hc => hl c (by simp [hc])) (fun c hc => hm c (by simp [hc])) (by simpa using hn) h2]
theorem reg_num : ∀ (l : List Nat) (x : Nat), Crc.reg x l = Crc.Mi (8 * l.length) (x ^^^ num l)
  | [], x => by simp [Crc.reg, num, Crc.Mi_none]
  | b :: l, x => by
    rw [Crc.reg, reg_num l, num, ← Nat.xor_assoc, List.length_cons, Crc.Mi_xor _ (x ^^^ b), Mi8_shift, Crc.Mi_xor, Crc.Mi_eight]
theorem ext_inj (l t u : List Nat) (hl : ∀ b ∈ l, b < 256) (ht : ∀ b ∈ t, b < 256) (hu : ∀ b ∈ u, b < 256) (h4 : t.length = 4) (h5 : u.length = 4) (h : Crc.ext 0 (l ++ t) = Crc.ext 0 (l ++ u)) : t = u := by
  rw [Crc.ext_append, Crc.ext_append] at h
  have r32 : Crc.ext 0 l < 2 ^ 32 := Crc.ext_lt (by omega) hl
  obtain ⟨q, hq⟩ : ∃ q, q = Crc.ext 0 l ^^^ Crc.ones := ⟨_, rfl⟩
  have q32 : q < 2 ^ 32 := by rw [hq]; exact Crc.xor_lt r32 Crc.ones_lt
  have hx : ∀ m, Crc.ext (Crc.ext 0 l) m = Crc.reg q m ^^^ Crc.ones := by intro m; rw [hq]; rfl
  rw [hx, hx] at h
  have h2 : Crc.reg q t = Crc.reg q u := by
    have : (Crc.reg q t ^^^ Crc.ones) ^^^ Crc.ones = (Crc.reg q u ^^^ Crc.ones) ^^^ Crc.ones := by rw [h]
    simpa only [Nat.xor_assoc, Nat.xor_self, Nat.xor_zero] using this
  rw [reg_num, reg_num, h4, h5] at h2
  have t32 := num_lt t ht
  have u32 := num_lt u hu
  rw [h4] at t32
  rw [h5] at u32
  have h3 := Crc.Mi_inj (Crc.xor_lt q32 t32) (Crc.xor_lt q32 u32) h2
  have h6 : q ^^^ (q ^^^ num t) = q ^^^ (q ^^^ num u) := by rw [h3]
  rw [← Nat.xor_assoc, Nat.xor_self, Nat.zero_xor, ← Nat.xor_assoc, Nat.xor_self, Nat.zero_xor] at h6
  exact num_inj t u ht hu (by rw [h4, h5]) h6
end Pat
end Go.Proofs.YtljfmcgeiceagaaDoor

/- octet.backs, octet.Patch: what they return. -/
namespace Go.Proofs.YtljfmcgeiceagaaDoor
open Go Go.RowKit
set_option linter.unusedVariables false

def v8 (x : Nat) : Value := .int .u8 (x : Int)
theorem b8_def (bs : List Nat) : b8 bs = bs.map v8 := rfl
theorem b8_one' (bs : List Nat) : (b8 bs).toArray.all (·.oneCell') = true := by
  rw [Array.all_eq_true_iff_forall_mem]
  intro x hx
  exact b8_one bs x (by simpa using hx)
theorem shr28 (x : Nat) : (x : Int) / 268435456 = ((x / 268435456 : Nat) : Int) := by omega

theorem run_index_arr {P : Program} (w : World) (t e : TypeId) (n : Nat) (cs : Array Value) (i : Nat) (v : Value) (inf : TypeInfo) (h : P.underlying t = some (.array n e)) (he : P.plainKey e = true) (hi : P.info? e = some inf) (h1 : P.cellsOf e = 1) (hn : i < n) (hx : cs[i]? = some v) :
    (Instr.index t (.agg cs) (.int .i64 (i : Int))).run P w = .ok v w := by
  have hin : (0 : Int) ≤ (i : Int) ∧ (i : Int) < (n : Int) := by omega
  simp [Instr.index, asIntOf, run_underlying h, hin, hn, run_sizeOf w hi, h1, run_part_plain w he hx]
theorem run_index_tab (w : World) (k x : Nat) (hk : k < 16) (hx : tab[k]? = some (.int .u32 (x : Int))) :
    (Instr.index 122 (.agg tab.toArray) (.int .i64 (k : Int))).run Tryd.prog w = .ok (.int .u32 (x : Int)) w := by
  obtain ⟨inf, hi⟩ : ∃ inf, Tryd.prog.info? 22 = some inf := Option.isSome_iff_exists.1 (by kernel_rfl)
  exact run_index_arr w _ 22 16 _ k _ inf Tryd.underlying122 (by kernel_rfl) hi (by kernel_rfl) hk (by simpa using hx)

end Go.Proofs.YtljfmcgeiceagaaDoor

/- The reference's M, through, Extend, Sum, back: what they return. -/
namespace Go.Proofs.YtljfmcgeiceagaaDoor
open Go Go.RowKit
set_option linter.unusedVariables false

theorem rM_any (x : Nat) (w : World) (h : x < 4294967296) :
    Calls Tryd.prog 105 #[.int .u32 (x : Int)] w fun e w' => e = .returned (.int .u32 ((Crc.M x : Nat) : Int)) ∧ w = w' := by
  by_cases hx : x % 2 = 1
  · have hb : ((x : Int) % 2 == 1) = true := by rw [beq_iff_eq]; omega
    have HM := Lib.hid (M_odd hx)
    clear hx
    go_enter Tryd.func105, Tryd.ntmps105
    go_wp2
    go_ret
    exact ⟨ret_i (by rw [HM.out]; exact xor_poly x h), rfl⟩
  · have hb : ((x : Int) % 2 == 1) = false := by rw [beq_eq_false_iff_ne]; omega
    have HM := Lib.hid (M_even hx)
    clear hx
    go_enter Tryd.func105, Tryd.ntmps105
    go_wp2
    go_ret
    exact ⟨ret_i (by rw [HM.out]; omega), rfl⟩

set_option maxHeartbeats 800000 in
set_option maxRecDepth 100000 in
theorem rthrough_any (x c : Nat) (w : World) (h : x < 4294967296) (hc : c < 256) :
    Calls Tryd.prog 99 #[.int .u32 (x : Int), .int .u8 (c : Int)] w fun e w' => e = .returned (.int .u32 ((Crc.Mi 8 (x ^^^ c) : Nat) : Int)) ∧ w = w' := by
  obtain ⟨y, hy⟩ : ∃ y, y = x ^^^ c := ⟨_, rfl⟩
  have hyx : bits .xor .u32 (x : Int) (c : Int) = (y : Int) := by rw [hy]; exact u32_xor_nat x c h (by omega)
  have hy32 : y < 4294967296 := by rw [hy]; exact Crc.xor_lt (n := 32) h (by omega)
  rw [← hy]
  clear hy
  go_enter Tryd.func99, Tryd.ntmps99
  go_wp2_with fail
  go_loop [0, 5] (fun x i => ∃ j z : Nat, j ≤ 8 ∧ i = .int .i64 j ∧ x = .int .u32 (z : Int) ∧ z < 4294967296 ∧ Hid (z = Crc.Mi j y)) (fun _ i => 8 - (intOf i).toNat)
  case atStart => exact ⟨0, y, by omega, rfl, by first | rfl | rw [hyx], hy32, by rw [Hid, Crc.Mi_none]⟩
  case round =>
    obtain ⟨j, z, hj, rfl, rfl, hz, HZ⟩ := hrel
    by_cases hj8 : j < 8
    · have hnext : Crc.M z = Crc.Mi (j + 1) y := by rw [HZ.out, Crc.Mi_add j 1 y, Crc.Mi_more, Crc.Mi_none]
      have hm32 : Crc.M z < 4294967296 := Crc.M_lt hz
      have HN := Lib.hid hnext
      clear hnext
      go_wp2_with fail
      refine (rM_any z _ hz).mono ?_
      rintro e w' ⟨rfl, rfl⟩
      go_wp2_with fail
      go_round
      case rel => exact ⟨j + 1, Crc.M z, by omega, by go_num, rfl, hm32, HN⟩
      case measure => simp [intOf]; omega
    · have hj88 : j = 8 := by omega
      subst hj88
      go_wp2_with fail
      go_ret
      exact ⟨ret_i (by rw [HZ.out]), rfl⟩

set_option maxHeartbeats 800000 in
set_option maxRecDepth 100000 in
theorem rextend_all (s : Nat) (A : Option Addr) (c : Nat) (bs : List Nat) (w : World) (hs : s < 4294967296) (hr : Rd w A (b8 bs)) (hby : By bs) (hl : bs.length ≤ 140737488355328) :
    Calls Tryd.prog 88 #[.int .u32 (s : Int), .slice A bs.length c] w fun e w' => e = .returned (.int .u32 ((Crc.ext s bs : Nat) : Int)) ∧ w = w' := by
  obtain ⟨s1, hs1⟩ : ∃ y, y = s ^^^ Crc.ones := ⟨_, rfl⟩
  have hsx : bits .xor .u32 IntKind.u32.max (s : Int) = (s1 : Int) := by rw [hs1]; exact xor_max s hs
  have hs132 : s1 < 4294967296 := by rw [hs1]; exact Crc.xor_lt (n := 32) hs Crc.ones_lt
  have HE := Lib.hid (show Crc.ext s bs = Crc.reg s1 bs ^^^ Crc.ones by rw [hs1]; rfl)
  have HR := Lib.hid hr
  clear hs1 hr
  go_enter Tryd.func88, Tryd.ntmps88
  go_wp2_with fail
  go_loop [5, 6] (fun v i => ∃ k x : Nat, k ≤ bs.length ∧ i = .int .i64 k ∧ v = .int .u32 (x : Int) ∧ x < 4294967296 ∧ Hid (Crc.reg s1 bs = Crc.reg x (bs.drop k))) (fun _ i => bs.length - (intOf i).toNat)
  case atStart => exact ⟨0, s1, Nat.zero_le _, rfl, by first | rfl | rw [hsx], hs132, by simp [Hid]⟩
  case round =>
    obtain ⟨k, x, hk, rfl, rfl, hx32, H⟩ := hrel
    by_cases hlt : k < bs.length
    · obtain ⟨b, hb, hb256, hdr⟩ := hby.get hlt
      obtain ⟨g, off, rfl, hg, hcell⟩ := HR.out.at_ hb
      have hN : Crc.reg s1 bs = Crc.reg (Crc.Mi 8 (x ^^^ b)) (bs.drop (k + 1)) := by rw [H.out, hdr, Crc.reg]
      obtain ⟨z, hz⟩ : ∃ z, z = Crc.Mi 8 (x ^^^ b) := ⟨_, rfl⟩
      have hz32 : z < 4294967296 := by rw [hz]; exact Crc.Mi_lt 8 (Crc.xor_lt (n := 32) hx32 (by omega))
      rw [← hz] at hN
      have HN := Lib.hid hN
      have HZ := Lib.hid hz
      have i0 : (0 : Int) ≤ (k : Int) := by omega
      have i1 : (k : Int) < (bs.length : Int) := by omega
      clear hN hz hb hdr H
      go_wp2_with fail
      refine (rthrough_any x b _ hx32 hb256).mono ?_
      rintro e w' ⟨rfl, rfl⟩
      rw [← HZ.out]
      go_wp2_with fail
      go_round
      case rel => exact ⟨k + 1, z, by omega, by go_num, rfl, hz32, HN⟩
      case measure => simp [intOf]; omega
    · have hN : Crc.ext s bs = x ^^^ Crc.ones := by rw [HE.out, H.out, List.drop_eq_nil_of_le (by omega), Crc.reg]
      have HN := Lib.hid hN
      clear hN H
      go_wp2_with fail
      go_ret
      exact ⟨ret_i (by rw [HN.out]; exact xor_max x hx32), rfl⟩

theorem rextend_is (s : Nat) (A : Option Addr) (n c : Nat) (bs : List Nat) (w : World) (z : Nat) (hs : s < 4294967296) (hr : Rd w A (b8 bs)) (hby : By bs) (hn : bs.length = n) (hl : n ≤ 140737488355328) (hz : z = Crc.ext s bs) :
    Calls Tryd.prog 88 #[.int .u32 (s : Int), .slice A n c] w fun e w' => e = .returned (.int .u32 (z : Int)) ∧ w = w' := by
  subst hn hz
  exact rextend_all s A c bs w hs hr hby hl

set_option maxRecDepth 100000 in
theorem rsum_is (A : Option Addr) (n c : Nat) (bs : List Nat) (w : World) (z : Nat) (hr : Rd w A (b8 bs)) (hby : By bs) (hn : bs.length = n) (hl : n ≤ 140737488355328) (hz : z = Crc.ext 0 bs) :
    Calls Tryd.prog 89 #[.slice A n c] w fun e w' => e = .returned (.int .u32 (z : Int)) ∧ w = w' := by
  go_enter Tryd.func89, Tryd.ntmps89
  go_wp2_with fail
  refine (rextend_is 0 A n c bs w z (by omega) hr hby hn hl hz).mono ?_
  rintro e w1 ⟨rfl, rfl⟩
  go_wp2_with fail
  go_ret
  exact ⟨ret_i (by rw [hz]), rfl⟩

/-- A step back. -/
def less1 (y : Nat) : Nat := if 2147483648 ≤ y then (y ^^^ Crc.poly) * 2 + 1 else y * 2
end Go.Proofs.YtljfmcgeiceagaaDoor
