/- Several texts in one: RecT, RecChk, RecP, RecDP, RecDP2, RecW, RecBody, RecRBody, RecEnc. -/
import Derived.Test.YtljfmcgeiceagaaGreatF1
import Derived.Test.YtljfmcgeiceagaaGreatX1
import Derived.Test.YtljfmcgeiceagaaGreatX5
import Derived.Test.YtljfmcgeiceagaaGreatF2
import Derived.Test.YtljfmcgeiceagaaGreatX2
/- Records: as they lie, which may be. -/
namespace Go.Proofs.YtljfmcgeiceagaaGreat
open Go Go.RowKit
set_option linter.unusedVariables false
set_option linter.unusedSimpArgs false

structure Rc where
  k : Int
  o : Int
  t : Int
  p : Int
  s : Int
  key : ByteArray
  val : ByteArray
def Rc.cells (x : Rc) : List Value := [.int .i64 x.k, .int .i64 x.o, .int .i64 x.t, .int .i64 x.p, .int .i64 x.s, .string x.key, .string x.val]
def Rc.v (x : Rc) : Value := .agg #[.int .i64 x.k, .int .i64 x.o, .int .i64 x.t, .int .i64 x.p, .int .i64 x.s, .string x.key, .string x.val]
def r64 (x : Int) : Prop := -9223372036854775808 ≤ x ∧ x ≤ 9223372036854775807
structure Rc.Ok (x : Rc) : Prop where
  k : r64 x.k
  o : r64 x.o
  t : r64 x.t
  p : r64 x.p
  s : r64 x.s
  key : x.key.size ≤ 140737488351232
  val : x.val.size ≤ 140737488351232
/-- May it be? -/
def chk (x : Rc) : Nat :=
  if x.k ≠ 1 ∧ x.k ≠ 2 then 44
  else if ¬ (0 ≤ x.o ∧ x.o < 1099511627776) then 45
  else if ¬ (0 ≤ x.t ∧ x.t < 1125899906842624) then 45
  else if ¬ (0 ≤ x.p ∧ x.p < 4294967296) then 45
  else if x.p = 0 ∧ x.s ≠ 0 then 45
  else if 0 < x.p ∧ ¬ (1 ≤ x.s ∧ x.s < 1099511627776) then 45
  else if x.key.size < 1 ∨ 64 < x.key.size then 42
  else if 1024 < x.val.size ∨ (x.k = 2 ∧ 0 < x.val.size) then 43
  else 0
theorem within_yes (v lo hi : Int) (w : World) (h : lo ≤ v ∧ v < hi) : Calls Tryz.prog 105 #[.int .i64 v, .int .i64 lo, .int .i64 hi] w fun e w' => e = .returned (.bool true) ∧ w = w' := by
  obtain ⟨h1, h2⟩ := h
  go_enter Tryz.func105, Tryz.ntmps105
  go_wp2
  go_ret
  exact ⟨rfl, rfl⟩
theorem within_no (v lo hi : Int) (w : World) (h : ¬ (lo ≤ v ∧ v < hi)) : Calls Tryz.prog 105 #[.int .i64 v, .int .i64 lo, .int .i64 hi] w fun e w' => e = .returned (.bool false) ∧ w = w' := by
  by_cases h1 : lo ≤ v
  · have h2 : ¬ v < hi := fun e => h ⟨h1, e⟩
    clear h
    go_enter Tryz.func105, Tryz.ntmps105
    go_wp2
    go_ret
    exact ⟨rfl, rfl⟩
  · clear h
    go_enter Tryz.func105, Tryz.ntmps105
    go_wp2
    go_ret
    exact ⟨rfl, rfl⟩
theorem rbelow_yes (v lo hi : Int) (w : World) (h : lo ≤ v ∧ v < hi) : Calls Tryz.prog 90 #[.int .i64 v, .int .i64 lo, .int .i64 hi] w fun e w' => e = .returned (.bool true) ∧ w = w' := by
  obtain ⟨h1, h2⟩ := h
  go_enter Tryz.func90, Tryz.ntmps90
  go_wp2
  go_ret
  exact ⟨rfl, rfl⟩
theorem rbelow_no (v lo hi : Int) (w : World) (h : ¬ (lo ≤ v ∧ v < hi)) : Calls Tryz.prog 90 #[.int .i64 v, .int .i64 lo, .int .i64 hi] w fun e w' => e = .returned (.bool false) ∧ w = w' := by
  by_cases h1 : lo ≤ v
  · have h2 : ¬ v < hi := fun e => h ⟨h1, e⟩
    clear h
    go_enter Tryz.func90, Tryz.ntmps90
    go_wp2
    go_ret
    exact ⟨rfl, rfl⟩
  · clear h
    go_enter Tryz.func90, Tryz.ntmps90
    go_wp2
    go_ret
    exact ⟨rfl, rfl⟩
theorem empty_iff (v : ByteArray) : v.size = 0 ↔ v = ⟨#[]⟩ := by
  constructor
  · intro h
    cases v with
    | mk d => cases d with
      | mk l => cases l with
        | nil => rfl
        | cons a b => simp [ByteArray.size] at h
  · intro h; subst h; rfl
theorem isEmpty_size (v : ByteArray) : v.toList.isEmpty = decide (v.size = 0) := by
  rw [ByteArray.toList_eq]
  cases v with
  | mk d => cases d with
    | mk l => cases l <;> simp [ByteArray.size]
end Go.Proofs.YtljfmcgeiceagaaGreat

/- Which records may be: the walks (printed by gen_rcchk.py). -/
namespace Go.Proofs.YtljfmcgeiceagaaGreat
open Go Go.RowKit
set_option linter.unusedVariables false
set_option linter.unusedSimpArgs false

set_option maxHeartbeats 8000000 in
set_option maxRecDepth 100000 in
theorem check_is (x : Rc) (w : World) : Calls Tryz.prog 82 #[x.v] w fun e w' => e = .returned (.int .i64 ((chk x : Nat) : Int)) ∧ Below w.heap.size w w' := by
  obtain ⟨k, o, t, p, s, key, val⟩ := x
  unfold Rc.v
  simp only
  have HB : Hid (∀ b : Obj, Below w.heap.size w (w.alloc b)) := Lib.hid (fun b => (Below.refl _ _).alloc (Nat.le_refl _) b)
  by_cases k1 : k = 1
  · have f1 : (k != 1) = false := by rw [bne_eq_false_iff_eq]; exact k1
    have f2 : (k == 2) = false := by rw [beq_eq_false_iff_ne]; omega
    go_enter Tryz.func82, Tryz.ntmps82
    go_wp2_with fail
    by_cases ho : 0 ≤ o ∧ o < 1099511627776
    rotate_left
    · skip
      have HC : Hid (chk ⟨k, o, t, p, s, key, val⟩ = 45) := Lib.hid (by unfold chk; simp only; repeat (first | rw [if_pos (by omega)] | rw [if_neg (by omega)]))
      refine (within_no _ _ _ _ (by omega)).mono ?_
      rintro e w1 ⟨rfl, rfl⟩
      go_wp2_with fail
      go_ret
      exact ⟨by rw [HC.out]; rfl, HB.out _⟩
    refine (within_yes _ _ _ _ (by omega)).mono ?_
    rintro e w1 ⟨rfl, rfl⟩
    go_wp2_with fail
    by_cases ht : 0 ≤ t ∧ t < 1125899906842624
    rotate_left
    · skip
      have HC : Hid (chk ⟨k, o, t, p, s, key, val⟩ = 45) := Lib.hid (by unfold chk; simp only; repeat (first | rw [if_pos (by omega)] | rw [if_neg (by omega)]))
      refine (within_no _ _ _ _ (by omega)).mono ?_
      rintro e w1 ⟨rfl, rfl⟩
      go_wp2_with fail
      go_ret
      exact ⟨by rw [HC.out]; rfl, HB.out _⟩
    refine (within_yes _ _ _ _ (by omega)).mono ?_
    rintro e w1 ⟨rfl, rfl⟩
    go_wp2_with fail
    by_cases hp : 0 ≤ p ∧ p < 4294967296
    rotate_left
    · skip
      have HC : Hid (chk ⟨k, o, t, p, s, key, val⟩ = 45) := Lib.hid (by unfold chk; simp only; repeat (first | rw [if_pos (by omega)] | rw [if_neg (by omega)]))
      refine (within_no _ _ _ _ (by omega)).mono ?_
      rintro e w1 ⟨rfl, rfl⟩
      go_wp2_with fail
      go_ret
      exact ⟨by rw [HC.out]; rfl, HB.out _⟩
    refine (within_yes _ _ _ _ (by omega)).mono ?_
    rintro e w1 ⟨rfl, rfl⟩
    by_cases hp0 : p = 0
    · have p1 : (p == 0) = true := by rw [beq_iff_eq]; exact hp0
      have p2 : ¬ 0 < p := by omega
      by_cases hs0 : s = 0
      rotate_left
      · have s1 : (s != 0) = true := by rw [bne_iff_ne]; exact hs0
        have HC : Hid (chk ⟨k, o, t, p, s, key, val⟩ = 45) := Lib.hid (by unfold chk; simp only; repeat (first | rw [if_pos (by omega)] | rw [if_neg (by omega)]))
        go_wp2_with fail
        go_ret
        exact ⟨by rw [HC.out]; rfl, HB.out _⟩
      have s1 : (s != 0) = false := by rw [bne_eq_false_iff_eq]; exact hs0
      by_cases hy : key.size < 1
      · have y1 : (key.size : Int) < 1 := by omega
        have HC : Hid (chk ⟨k, o, t, p, s, key, val⟩ = 42) := Lib.hid (by unfold chk; simp only; repeat (first | rw [if_pos (by omega)] | rw [if_neg (by omega)]))
        go_wp2_with fail
        go_ret
        exact ⟨by rw [HC.out]; rfl, HB.out _⟩
      · have y1 : ¬ (key.size : Int) < 1 := by omega
        by_cases hz : 64 < key.size
        · have y2 : (64 : Int) < (key.size : Int) := by omega
          have HC : Hid (chk ⟨k, o, t, p, s, key, val⟩ = 42) := Lib.hid (by unfold chk; simp only; repeat (first | rw [if_pos (by omega)] | rw [if_neg (by omega)]))
          go_wp2_with fail
          go_ret
          exact ⟨by rw [HC.out]; rfl, HB.out _⟩
        · have y2 : ¬ (64 : Int) < (key.size : Int) := by omega
          by_cases hv : 1024 < val.size
          · have v1 : (1024 : Int) < (val.size : Int) := by omega
            have HC : Hid (chk ⟨k, o, t, p, s, key, val⟩ = 43) := Lib.hid (by unfold chk; simp only; repeat (first | rw [if_pos (by omega)] | rw [if_neg (by omega)]))
            go_wp2_with fail
            go_ret
            exact ⟨by rw [HC.out]; rfl, HB.out _⟩
          · have v1 : ¬ (1024 : Int) < (val.size : Int) := by omega
            have HC : Hid (chk ⟨k, o, t, p, s, key, val⟩ = 0) := Lib.hid (by unfold chk; simp only; repeat (first | rw [if_pos (by omega)] | rw [if_neg (by omega)]))
            go_wp2_with fail
            go_ret
            exact ⟨by rw [HC.out]; rfl, HB.out _⟩
    · have p1 : (p == 0) = false := by rw [beq_eq_false_iff_ne]; exact hp0
      have p2 : 0 < p := by omega
      go_wp2_with fail
      by_cases hs : 1 ≤ s ∧ s < 1099511627776
      rotate_left
      · skip
        have HC : Hid (chk ⟨k, o, t, p, s, key, val⟩ = 45) := Lib.hid (by unfold chk; simp only; repeat (first | rw [if_pos (by omega)] | rw [if_neg (by omega)]))
        refine (within_no _ _ _ _ (by omega)).mono ?_
        rintro e w1 ⟨rfl, rfl⟩
        go_wp2_with fail
        go_ret
        exact ⟨by rw [HC.out]; rfl, HB.out _⟩
      refine (within_yes _ _ _ _ (by omega)).mono ?_
      rintro e w1 ⟨rfl, rfl⟩
      by_cases hy : key.size < 1
      · have y1 : (key.size : Int) < 1 := by omega
        have HC : Hid (chk ⟨k, o, t, p, s, key, val⟩ = 42) := Lib.hid (by unfold chk; simp only; repeat (first | rw [if_pos (by omega)] | rw [if_neg (by omega)]))
        go_wp2_with fail
        go_ret
        exact ⟨by rw [HC.out]; rfl, HB.out _⟩
      · have y1 : ¬ (key.size : Int) < 1 := by omega
        by_cases hz : 64 < key.size
        · have y2 : (64 : Int) < (key.size : Int) := by omega
          have HC : Hid (chk ⟨k, o, t, p, s, key, val⟩ = 42) := Lib.hid (by unfold chk; simp only; repeat (first | rw [if_pos (by omega)] | rw [if_neg (by omega)]))
          go_wp2_with fail
          go_ret
          exact ⟨by rw [HC.out]; rfl, HB.out _⟩
        · have y2 : ¬ (64 : Int) < (key.size : Int) := by omega
          by_cases hv : 1024 < val.size
          · have v1 : (1024 : Int) < (val.size : Int) := by omega
            have HC : Hid (chk ⟨k, o, t, p, s, key, val⟩ = 43) := Lib.hid (by unfold chk; simp only; repeat (first | rw [if_pos (by omega)] | rw [if_neg (by omega)]))
            go_wp2_with fail
            go_ret
            exact ⟨by rw [HC.out]; rfl, HB.out _⟩
          · have v1 : ¬ (1024 : Int) < (val.size : Int) := by omega
            have HC : Hid (chk ⟨k, o, t, p, s, key, val⟩ = 0) := Lib.hid (by unfold chk; simp only; repeat (first | rw [if_pos (by omega)] | rw [if_neg (by omega)]))
            go_wp2_with fail
            go_ret
            exact ⟨by rw [HC.out]; rfl, HB.out _⟩
  · have f1 : (k != 1) = true := by rw [bne_iff_ne]; exact k1
    by_cases k2 : k = 2
    · have f2 : (k != 2) = false := by rw [bne_eq_false_iff_eq]; exact k2
      have f3 : (k == 2) = true := by rw [beq_iff_eq]; exact k2
      go_enter Tryz.func82, Tryz.ntmps82
      go_wp2_with fail
      by_cases ho : 0 ≤ o ∧ o < 1099511627776
      rotate_left
      · skip
        have HC : Hid (chk ⟨k, o, t, p, s, key, val⟩ = 45) := Lib.hid (by unfold chk; simp only; repeat (first | rw [if_pos (by omega)] | rw [if_neg (by omega)]))
        refine (within_no _ _ _ _ (by omega)).mono ?_
        rintro e w1 ⟨rfl, rfl⟩
        go_wp2_with fail
        go_ret
        exact ⟨by rw [HC.out]; rfl, HB.out _⟩
      refine (within_yes _ _ _ _ (by omega)).mono ?_
      rintro e w1 ⟨rfl, rfl⟩
      go_wp2_with fail
      by_cases ht : 0 ≤ t ∧ t < 1125899906842624
      rotate_left
      · skip
        have HC : Hid (chk ⟨k, o, t, p, s, key, val⟩ = 45) := Lib.hid (by unfold chk; simp only; repeat (first | rw [if_pos (by omega)] | rw [if_neg (by omega)]))
        refine (within_no _ _ _ _ (by omega)).mono ?_
        rintro e w1 ⟨rfl, rfl⟩
        go_wp2_with fail
        go_ret
        exact ⟨by rw [HC.out]; rfl, HB.out _⟩
      refine (within_yes _ _ _ _ (by omega)).mono ?_
      rintro e w1 ⟨rfl, rfl⟩
      go_wp2_with fail
      by_cases hp : 0 ≤ p ∧ p < 4294967296
      rotate_left
      · skip
        have HC : Hid (chk ⟨k, o, t, p, s, key, val⟩ = 45) := Lib.hid (by unfold chk; simp only; repeat (first | rw [if_pos (by omega)] | rw [if_neg (by omega)]))
        refine (within_no _ _ _ _ (by omega)).mono ?_
        rintro e w1 ⟨rfl, rfl⟩
        go_wp2_with fail
        go_ret
        exact ⟨by rw [HC.out]; rfl, HB.out _⟩
      refine (within_yes _ _ _ _ (by omega)).mono ?_
      rintro e w1 ⟨rfl, rfl⟩
      by_cases hp0 : p = 0
      · have p1 : (p == 0) = true := by rw [beq_iff_eq]; exact hp0
        have p2 : ¬ 0 < p := by omega
        by_cases hs0 : s = 0
        rotate_left
        · have s1 : (s != 0) = true := by rw [bne_iff_ne]; exact hs0
          have HC : Hid (chk ⟨k, o, t, p, s, key, val⟩ = 45) := Lib.hid (by unfold chk; simp only; repeat (first | rw [if_pos (by omega)] | rw [if_neg (by omega)]))
          go_wp2_with fail
          go_ret
          exact ⟨by rw [HC.out]; rfl, HB.out _⟩
        have s1 : (s != 0) = false := by rw [bne_eq_false_iff_eq]; exact hs0
        by_cases hy : key.size < 1
        · have y1 : (key.size : Int) < 1 := by omega
          have HC : Hid (chk ⟨k, o, t, p, s, key, val⟩ = 42) := Lib.hid (by unfold chk; simp only; repeat (first | rw [if_pos (by omega)] | rw [if_neg (by omega)]))
          go_wp2_with fail
          go_ret
          exact ⟨by rw [HC.out]; rfl, HB.out _⟩
        · have y1 : ¬ (key.size : Int) < 1 := by omega
          by_cases hz : 64 < key.size
          · have y2 : (64 : Int) < (key.size : Int) := by omega
            have HC : Hid (chk ⟨k, o, t, p, s, key, val⟩ = 42) := Lib.hid (by unfold chk; simp only; repeat (first | rw [if_pos (by omega)] | rw [if_neg (by omega)]))
            go_wp2_with fail
            go_ret
            exact ⟨by rw [HC.out]; rfl, HB.out _⟩
          · have y2 : ¬ (64 : Int) < (key.size : Int) := by omega
            by_cases hv : 1024 < val.size
            · have v1 : (1024 : Int) < (val.size : Int) := by omega
              have HC : Hid (chk ⟨k, o, t, p, s, key, val⟩ = 43) := Lib.hid (by unfold chk; simp only; repeat (first | rw [if_pos (by omega)] | rw [if_neg (by omega)]))
              go_wp2_with fail
              go_ret
              exact ⟨by rw [HC.out]; rfl, HB.out _⟩
            · have v1 : ¬ (1024 : Int) < (val.size : Int) := by omega
              by_cases hv0 : val.size = 0
              · have v2 : val.toList.isEmpty = true := by rw [isEmpty_size]; simpa using hv0
                have v3 : ¬ (0 : Int) < (val.size : Int) := by omega
                have HC : Hid (chk ⟨k, o, t, p, s, key, val⟩ = 0) := Lib.hid (by unfold chk; simp only; repeat (first | rw [if_pos (by omega)] | rw [if_neg (by omega)]))
                go_wp2_with fail
                go_ret
                exact ⟨by rw [HC.out]; rfl, HB.out _⟩
              · have v2 : val.toList.isEmpty = false := by rw [isEmpty_size]; simpa using hv0
                have v3 : (0 : Int) < (val.size : Int) := by omega
                have HC : Hid (chk ⟨k, o, t, p, s, key, val⟩ = 43) := Lib.hid (by unfold chk; simp only; repeat (first | rw [if_pos (by omega)] | rw [if_neg (by omega)]))
                go_wp2_with fail
                go_ret
                exact ⟨by rw [HC.out]; rfl, HB.out _⟩
      · have p1 : (p == 0) = false := by rw [beq_eq_false_iff_ne]; exact hp0
        have p2 : 0 < p := by omega
        go_wp2_with fail
        by_cases hs : 1 ≤ s ∧ s < 1099511627776
        rotate_left
        · skip
          have HC : Hid (chk ⟨k, o, t, p, s, key, val⟩ = 45) := Lib.hid (by unfold chk; simp only; repeat (first | rw [if_pos (by omega)] | rw [if_neg (by omega)]))
          refine (within_no _ _ _ _ (by omega)).mono ?_
          rintro e w1 ⟨rfl, rfl⟩
          go_wp2_with fail
          go_ret
          exact ⟨by rw [HC.out]; rfl, HB.out _⟩
        refine (within_yes _ _ _ _ (by omega)).mono ?_
        rintro e w1 ⟨rfl, rfl⟩
        by_cases hy : key.size < 1
        · have y1 : (key.size : Int) < 1 := by omega
          have HC : Hid (chk ⟨k, o, t, p, s, key, val⟩ = 42) := Lib.hid (by unfold chk; simp only; repeat (first | rw [if_pos (by omega)] | rw [if_neg (by omega)]))
          go_wp2_with fail
          go_ret
          exact ⟨by rw [HC.out]; rfl, HB.out _⟩
        · have y1 : ¬ (key.size : Int) < 1 := by omega
          by_cases hz : 64 < key.size
          · have y2 : (64 : Int) < (key.size : Int) := by omega
            have HC : Hid (chk ⟨k, o, t, p, s, key, val⟩ = 42) := Lib.hid (by unfold chk; simp only; repeat (first | rw [if_pos (by omega)] | rw [if_neg (by omega)]))
            go_wp2_with fail
            go_ret
            exact ⟨by rw [HC.out]; rfl, HB.out _⟩
          · have y2 : ¬ (64 : Int) < (key.size : Int) := by omega
            by_cases hv : 1024 < val.size
            · have v1 : (1024 : Int) < (val.size : Int) := by omega
              have HC : Hid (chk ⟨k, o, t, p, s, key, val⟩ = 43) := Lib.hid (by unfold chk; simp only; repeat (first | rw [if_pos (by omega)] | rw [if_neg (by omega)]))
              go_wp2_with fail
              go_ret
              exact ⟨by rw [HC.out]; rfl, HB.out _⟩
            · have v1 : ¬ (1024 : Int) < (val.size : Int) := by omega
              by_cases hv0 : val.size = 0
              · have v2 : val.toList.isEmpty = true := by rw [isEmpty_size]; simpa using hv0
                have v3 : ¬ (0 : Int) < (val.size : Int) := by omega
                have HC : Hid (chk ⟨k, o, t, p, s, key, val⟩ = 0) := Lib.hid (by unfold chk; simp only; repeat (first | rw [if_pos (by omega)] | rw [if_neg (by omega)]))
                go_wp2_with fail
                go_ret
                exact ⟨by rw [HC.out]; rfl, HB.out _⟩
              · have v2 : val.toList.isEmpty = false := by rw [isEmpty_size]; simpa using hv0
                have v3 : (0 : Int) < (val.size : Int) := by omega
                have HC : Hid (chk ⟨k, o, t, p, s, key, val⟩ = 43) := Lib.hid (by unfold chk; simp only; repeat (first | rw [if_pos (by omega)] | rw [if_neg (by omega)]))
                go_wp2_with fail
                go_ret
                exact ⟨by rw [HC.out]; rfl, HB.out _⟩
    · have f2 : (k != 2) = true := by rw [bne_iff_ne]; exact k2
      have HC : Hid (chk ⟨k, o, t, p, s, key, val⟩ = 44) := Lib.hid (by unfold chk; simp only; repeat (first | rw [if_pos (by omega)] | rw [if_neg (by omega)]))
      go_enter Tryz.func82, Tryz.ntmps82
      go_wp2_with fail
      go_ret
      exact ⟨by rw [HC.out]; rfl, HB.out _⟩
set_option maxHeartbeats 8000000 in
set_option maxRecDepth 100000 in
theorem rcheck_is (x : Rc) (w : World) : Calls Tryz.prog 55 #[x.v] w fun e w' => e = .returned (.int .i64 ((chk x : Nat) : Int)) ∧ Below w.heap.size w w' := by
  obtain ⟨k, o, t, p, s, key, val⟩ := x
  unfold Rc.v
  simp only
  have HB : Hid (∀ b : Obj, Below w.heap.size w (w.alloc b)) := Lib.hid (fun b => (Below.refl _ _).alloc (Nat.le_refl _) b)
  by_cases k1 : k = 1
  · have f1 : (k != 1) = false := by rw [bne_eq_false_iff_eq]; exact k1
    have f2 : (k == 2) = false := by rw [beq_eq_false_iff_ne]; omega
    go_enter Tryz.func55, Tryz.ntmps55
    go_wp2_with fail
    by_cases ho : 0 ≤ o ∧ o < 1099511627776
    rotate_left
    · skip
      have HC : Hid (chk ⟨k, o, t, p, s, key, val⟩ = 45) := Lib.hid (by unfold chk; simp only; repeat (first | rw [if_pos (by omega)] | rw [if_neg (by omega)]))
      refine (rbelow_no _ _ _ _ (by omega)).mono ?_
      rintro e w1 ⟨rfl, rfl⟩
      go_wp2_with fail
      go_ret
      exact ⟨by rw [HC.out]; rfl, HB.out _⟩
    refine (rbelow_yes _ _ _ _ (by omega)).mono ?_
    rintro e w1 ⟨rfl, rfl⟩
    go_wp2_with fail
    by_cases ht : 0 ≤ t ∧ t < 1125899906842624
    rotate_left
    · skip
      have HC : Hid (chk ⟨k, o, t, p, s, key, val⟩ = 45) := Lib.hid (by unfold chk; simp only; repeat (first | rw [if_pos (by omega)] | rw [if_neg (by omega)]))
      refine (rbelow_no _ _ _ _ (by omega)).mono ?_
      rintro e w1 ⟨rfl, rfl⟩
      go_wp2_with fail
      go_ret
      exact ⟨by rw [HC.out]; rfl, HB.out _⟩
    refine (rbelow_yes _ _ _ _ (by omega)).mono ?_
    rintro e w1 ⟨rfl, rfl⟩
    go_wp2_with fail
    by_cases hp : 0 ≤ p ∧ p < 4294967296
    rotate_left
    · skip
      have HC : Hid (chk ⟨k, o, t, p, s, key, val⟩ = 45) := Lib.hid (by unfold chk; simp only; repeat (first | rw [if_pos (by omega)] | rw [if_neg (by omega)]))
      refine (rbelow_no _ _ _ _ (by omega)).mono ?_
      rintro e w1 ⟨rfl, rfl⟩
      go_wp2_with fail
      go_ret
      exact ⟨by rw [HC.out]; rfl, HB.out _⟩
    refine (rbelow_yes _ _ _ _ (by omega)).mono ?_
    rintro e w1 ⟨rfl, rfl⟩
    by_cases hp0 : p = 0
    · have p1 : (p == 0) = true := by rw [beq_iff_eq]; exact hp0
      have p2 : ¬ 0 < p := by omega
      by_cases hs0 : s = 0
      rotate_left
      · have s1 : (s != 0) = true := by rw [bne_iff_ne]; exact hs0
        have HC : Hid (chk ⟨k, o, t, p, s, key, val⟩ = 45) := Lib.hid (by unfold chk; simp only; repeat (first | rw [if_pos (by omega)] | rw [if_neg (by omega)]))
        go_wp2_with fail
        go_ret
        exact ⟨by rw [HC.out]; rfl, HB.out _⟩
      have s1 : (s != 0) = false := by rw [bne_eq_false_iff_eq]; exact hs0
      by_cases hy : key.size < 1
      · have y1 : (key.size : Int) < 1 := by omega
        have HC : Hid (chk ⟨k, o, t, p, s, key, val⟩ = 42) := Lib.hid (by unfold chk; simp only; repeat (first | rw [if_pos (by omega)] | rw [if_neg (by omega)]))
        go_wp2_with fail
        go_ret
        exact ⟨by rw [HC.out]; rfl, HB.out _⟩
      · have y1 : ¬ (key.size : Int) < 1 := by omega
        by_cases hz : 64 < key.size
        · have y2 : (64 : Int) < (key.size : Int) := by omega
          have HC : Hid (chk ⟨k, o, t, p, s, key, val⟩ = 42) := Lib.hid (by unfold chk; simp only; repeat (first | rw [if_pos (by omega)] | rw [if_neg (by omega)]))
          go_wp2_with fail
          go_ret
          exact ⟨by rw [HC.out]; rfl, HB.out _⟩
        · have y2 : ¬ (64 : Int) < (key.size : Int) := by omega
          by_cases hv : 1024 < val.size
          · have v1 : (1024 : Int) < (val.size : Int) := by omega
            have HC : Hid (chk ⟨k, o, t, p, s, key, val⟩ = 43) := Lib.hid (by unfold chk; simp only; repeat (first | rw [if_pos (by omega)] | rw [if_neg (by omega)]))
            go_wp2_with fail
            go_ret
            exact ⟨by rw [HC.out]; rfl, HB.out _⟩
          · have v1 : ¬ (1024 : Int) < (val.size : Int) := by omega
            have HC : Hid (chk ⟨k, o, t, p, s, key, val⟩ = 0) := Lib.hid (by unfold chk; simp only; repeat (first | rw [if_pos (by omega)] | rw [if_neg (by omega)]))
            go_wp2_with fail
            go_ret
            exact ⟨by rw [HC.out]; rfl, HB.out _⟩
    · have p1 : (p == 0) = false := by rw [beq_eq_false_iff_ne]; exact hp0
      have p2 : 0 < p := by omega
      go_wp2_with fail
      by_cases hs : 1 ≤ s ∧ s < 1099511627776
      rotate_left
      · skip
        have HC : Hid (chk ⟨k, o, t, p, s, key, val⟩ = 45) := Lib.hid (by unfold chk; simp only; repeat (first | rw [if_pos (by omega)] | rw [if_neg (by omega)]))
        refine (rbelow_no _ _ _ _ (by omega)).mono ?_
        rintro e w1 ⟨rfl, rfl⟩
        go_wp2_with fail
        go_ret
        exact ⟨by rw [HC.out]; rfl, HB.out _⟩
      refine (rbelow_yes _ _ _ _ (by omega)).mono ?_
      rintro e w1 ⟨rfl, rfl⟩
      by_cases hy : key.size < 1
      · have y1 : (key.size : Int) < 1 := by omega
        have HC : Hid (chk ⟨k, o, t, p, s, key, val⟩ = 42) := Lib.hid (by unfold chk; simp only; repeat (first | rw [if_pos (by omega)] | rw [if_neg (by omega)]))
        go_wp2_with fail
        go_ret
        exact ⟨by rw [HC.out]; rfl, HB.out _⟩
      · have y1 : ¬ (key.size : Int) < 1 := by omega
        by_cases hz : 64 < key.size
        · have y2 : (64 : Int) < (key.size : Int) := by omega
          have HC : Hid (chk ⟨k, o, t, p, s, key, val⟩ = 42) := Lib.hid (by unfold chk; simp only; repeat (first | rw [if_pos (by omega)] | rw [if_neg (by omega)]))
          go_wp2_with fail
          go_ret
          exact ⟨by rw [HC.out]; rfl, HB.out _⟩
        · have y2 : ¬ (64 : Int) < (key.size : Int) := by omega
          by_cases hv : 1024 < val.size
          · have v1 : (1024 : Int) < (val.size : Int) := by omega
            have HC : Hid (chk ⟨k, o, t, p, s, key, val⟩ = 43) := Lib.hid (by unfold chk; simp only; repeat (first | rw [if_pos (by omega)] | rw [if_neg (by omega)]))
            go_wp2_with fail
            go_ret
            exact ⟨by rw [HC.out]; rfl, HB.out _⟩
          · have v1 : ¬ (1024 : Int) < (val.size : Int) := by omega
            have HC : Hid (chk ⟨k, o, t, p, s, key, val⟩ = 0) := Lib.hid (by unfold chk; simp only; repeat (first | rw [if_pos (by omega)] | rw [if_neg (by omega)]))
            go_wp2_with fail
            go_ret
            exact ⟨by rw [HC.out]; rfl, HB.out _⟩
  · have f1 : (k != 1) = true := by rw [bne_iff_ne]; exact k1
    by_cases k2 : k = 2
    · have f2 : (k != 2) = false := by rw [bne_eq_false_iff_eq]; exact k2
      have f3 : (k == 2) = true := by rw [beq_iff_eq]; exact k2
      go_enter Tryz.func55, Tryz.ntmps55
      go_wp2_with fail
      by_cases ho : 0 ≤ o ∧ o < 1099511627776
      rotate_left
      · skip
        have HC : Hid (chk ⟨k, o, t, p, s, key, val⟩ = 45) := Lib.hid (by unfold chk; simp only; repeat (first | rw [if_pos (by omega)] | rw [if_neg (by omega)]))
        refine (rbelow_no _ _ _ _ (by omega)).mono ?_
        rintro e w1 ⟨rfl, rfl⟩
        go_wp2_with fail
        go_ret
        exact ⟨by rw [HC.out]; rfl, HB.out _⟩
      refine (rbelow_yes _ _ _ _ (by omega)).mono ?_
      rintro e w1 ⟨rfl, rfl⟩
      go_wp2_with fail
      by_cases ht : 0 ≤ t ∧ t < 1125899906842624
      rotate_left
      · skip
        have HC : Hid (chk ⟨k, o, t, p, s, key, val⟩ = 45) := Lib.hid (by unfold chk; simp only; repeat (first | rw [if_pos (by omega)] | rw [if_neg (by omega)]))
        refine (rbelow_no _ _ _ _ (by omega)).mono ?_
        rintro e w1 ⟨rfl, rfl⟩
        go_wp2_with fail
        go_ret
        exact ⟨by rw [HC.out]; rfl, HB.out _⟩
      refine (rbelow_yes _ _ _ _ (by omega)).mono ?_
      rintro e w1 ⟨rfl, rfl⟩
      go_wp2_with fail
      by_cases hp : 0 ≤ p ∧ p < 4294967296
      rotate_left
      · skip
        have HC : Hid (chk ⟨k, o, t, p, s, key, val⟩ = 45) := Lib.hid (by unfold chk; simp only; repeat (first | rw [if_pos (by omega)] | rw [if_neg (by omega)]))
        refine (rbelow_no _ _ _ _ (by omega)).mono ?_
        rintro e w1 ⟨rfl, rfl⟩
        go_wp2_with fail
        go_ret
        exact ⟨by rw [HC.out]; rfl, HB.out _⟩
      refine (rbelow_yes _ _ _ _ (by omega)).mono ?_
      rintro e w1 ⟨rfl, rfl⟩
      by_cases hp0 : p = 0
      · have p1 : (p == 0) = true := by rw [beq_iff_eq]; exact hp0
        have p2 : ¬ 0 < p := by omega
        by_cases hs0 : s = 0
        rotate_left
        · have s1 : (s != 0) = true := by rw [bne_iff_ne]; exact hs0
          have HC : Hid (chk ⟨k, o, t, p, s, key, val⟩ = 45) := Lib.hid (by unfold chk; simp only; repeat (first | rw [if_pos (by omega)] | rw [if_neg (by omega)]))
          go_wp2_with fail
          go_ret
          exact ⟨by rw [HC.out]; rfl, HB.out _⟩
        have s1 : (s != 0) = false := by rw [bne_eq_false_iff_eq]; exact hs0
        by_cases hy : key.size < 1
        · have y1 : (key.size : Int) < 1 := by omega
          have HC : Hid (chk ⟨k, o, t, p, s, key, val⟩ = 42) := Lib.hid (by unfold chk; simp only; repeat (first | rw [if_pos (by omega)] | rw [if_neg (by omega)]))
          go_wp2_with fail
          go_ret
          exact ⟨by rw [HC.out]; rfl, HB.out _⟩
        · have y1 : ¬ (key.size : Int) < 1 := by omega
          by_cases hz : 64 < key.size
          · have y2 : (64 : Int) < (key.size : Int) := by omega
            have HC : Hid (chk ⟨k, o, t, p, s, key, val⟩ = 42) := Lib.hid (by unfold chk; simp only; repeat (first | rw [if_pos (by omega)] | rw [if_neg (by omega)]))
            go_wp2_with fail
            go_ret
            exact ⟨by rw [HC.out]; rfl, HB.out _⟩
          · have y2 : ¬ (64 : Int) < (key.size : Int) := by omega
            by_cases hv : 1024 < val.size
            · have v1 : (1024 : Int) < (val.size : Int) := by omega
              have HC : Hid (chk ⟨k, o, t, p, s, key, val⟩ = 43) := Lib.hid (by unfold chk; simp only; repeat (first | rw [if_pos (by omega)] | rw [if_neg (by omega)]))
              go_wp2_with fail
              go_ret
              exact ⟨by rw [HC.out]; rfl, HB.out _⟩
            · have v1 : ¬ (1024 : Int) < (val.size : Int) := by omega
              by_cases hv0 : val.size = 0
              · have v2 : val.toList.isEmpty = true := by rw [isEmpty_size]; simpa using hv0
                have v3 : ¬ (0 : Int) < (val.size : Int) := by omega
                have HC : Hid (chk ⟨k, o, t, p, s, key, val⟩ = 0) := Lib.hid (by unfold chk; simp only; repeat (first | rw [if_pos (by omega)] | rw [if_neg (by omega)]))
                go_wp2_with fail
                go_ret
                exact ⟨by rw [HC.out]; rfl, HB.out _⟩
              · have v2 : val.toList.isEmpty = false := by rw [isEmpty_size]; simpa using hv0
                have v3 : (0 : Int) < (val.size : Int) := by omega
                have HC : Hid (chk ⟨k, o, t, p, s, key, val⟩ = 43) := Lib.hid (by unfold chk; simp only; repeat (first | rw [if_pos (by omega)] | rw [if_neg (by omega)]))
                go_wp2_with fail
                go_ret
                exact ⟨by rw [HC.out]; rfl, HB.out _⟩
      · have p1 : (p == 0) = false := by rw [beq_eq_false_iff_ne]; exact hp0
        have p2 : 0 < p := by omega
        go_wp2_with fail
        by_cases hs : 1 ≤ s ∧ s < 1099511627776
        rotate_left
        · skip
          have HC : Hid (chk ⟨k, o, t, p, s, key, val⟩ = 45) := Lib.hid (by unfold chk; simp only; repeat (first | rw [if_pos (by omega)] | rw [if_neg (by omega)]))
          refine (rbelow_no _ _ _ _ (by omega)).mono ?_
          rintro e w1 ⟨rfl, rfl⟩
          go_wp2_with fail
          go_ret
          exact ⟨by rw [HC.out]; rfl, HB.out _⟩
        refine (rbelow_yes _ _ _ _ (by omega)).mono ?_
        rintro e w1 ⟨rfl, rfl⟩
        by_cases hy : key.size < 1
        · have y1 : (key.size : Int) < 1 := by omega
          have HC : Hid (chk ⟨k, o, t, p, s, key, val⟩ = 42) := Lib.hid (by unfold chk; simp only; repeat (first | rw [if_pos (by omega)] | rw [if_neg (by omega)]))
          go_wp2_with fail
          go_ret
          exact ⟨by rw [HC.out]; rfl, HB.out _⟩
        · have y1 : ¬ (key.size : Int) < 1 := by omega
          by_cases hz : 64 < key.size
          · have y2 : (64 : Int) < (key.size : Int) := by omega
            have HC : Hid (chk ⟨k, o, t, p, s, key, val⟩ = 42) := Lib.hid (by unfold chk; simp only; repeat (first | rw [if_pos (by omega)] | rw [if_neg (by omega)]))
            go_wp2_with fail
            go_ret
            exact ⟨by rw [HC.out]; rfl, HB.out _⟩
          · have y2 : ¬ (64 : Int) < (key.size : Int) := by omega
            by_cases hv : 1024 < val.size
            · have v1 : (1024 : Int) < (val.size : Int) := by omega
              have HC : Hid (chk ⟨k, o, t, p, s, key, val⟩ = 43) := Lib.hid (by unfold chk; simp only; repeat (first | rw [if_pos (by omega)] | rw [if_neg (by omega)]))
              go_wp2_with fail
              go_ret
              exact ⟨by rw [HC.out]; rfl, HB.out _⟩
            · have v1 : ¬ (1024 : Int) < (val.size : Int) := by omega
              by_cases hv0 : val.size = 0
              · have v2 : val.toList.isEmpty = true := by rw [isEmpty_size]; simpa using hv0
                have v3 : ¬ (0 : Int) < (val.size : Int) := by omega
                have HC : Hid (chk ⟨k, o, t, p, s, key, val⟩ = 0) := Lib.hid (by unfold chk; simp only; repeat (first | rw [if_pos (by omega)] | rw [if_neg (by omega)]))
                go_wp2_with fail
                go_ret
                exact ⟨by rw [HC.out]; rfl, HB.out _⟩
              · have v2 : val.toList.isEmpty = false := by rw [isEmpty_size]; simpa using hv0
                have v3 : (0 : Int) < (val.size : Int) := by omega
                have HC : Hid (chk ⟨k, o, t, p, s, key, val⟩ = 43) := Lib.hid (by unfold chk; simp only; repeat (first | rw [if_pos (by omega)] | rw [if_neg (by omega)]))
                go_wp2_with fail
                go_ret
                exact ⟨by rw [HC.out]; rfl, HB.out _⟩
    · have f2 : (k != 2) = true := by rw [bne_iff_ne]; exact k2
      have HC : Hid (chk ⟨k, o, t, p, s, key, val⟩ = 44) := Lib.hid (by unfold chk; simp only; repeat (first | rw [if_pos (by omega)] | rw [if_neg (by omega)]))
      go_enter Tryz.func55, Tryz.ntmps55
      go_wp2_with fail
      go_ret
      exact ⟨by rw [HC.out]; rfl, HB.out _⟩
end Go.Proofs.YtljfmcgeiceagaaGreat

/- A record's bytes. -/
namespace Go.Proofs.YtljfmcgeiceagaaGreat
open Go Go.RowKit
set_option linter.unusedVariables false
set_option linter.unusedSimpArgs false

/-- A value's bytes as they are written; are they squeezed? -/
def shrt (v : List Nat) : List Nat × Bool := if (enc v).2 = 0 ∧ (enc v).1.length < v.length then ((enc v).1, true) else (v, false)
theorem shrt_len (v : List Nat) : (shrt v).1.length ≤ v.length := by unfold shrt; split <;> simp only <;> omega
theorem shrt_by {v : List Nat} (h : By v) (h4 : v.length ≤ 4096) : By (shrt v).1 := by
  unfold shrt
  split
  · rw [enc_short (by omega)]; exact by_blk h
  · exact h
def flg (x : Rc) : Nat := (if x.k = 2 then 1 else 0) + (if (shrt (sb x.val)).2 = true then 2 else 0) + (if 0 < x.p then 4 else 0)
def nums (x : Rc) : List Nat := if 0 < x.p then Uv.uv x.p.toNat ++ Uv.uv x.s.toNat else []
def bdy (x : Rc) : List Nat := [flg x] ++ Uv.uv x.o.toNat ++ Uv.uv x.t.toNat ++ nums x ++ Uv.uv x.key.size ++ sb x.key ++ (shrt (sb x.val)).1
def renc (x : Rc) : List Nat × Int := if chk x = 0 then (wrap 169 (bdy x), 0) else ([], (chk x : Nat))
theorem flg_lt (x : Rc) : flg x < 8 := by unfold flg; split <;> split <;> split <;> omega
/-- What a record that may be is like. -/
structure May (x : Rc) : Prop where
  k : x.k = 1 ∨ x.k = 2
  o : 0 ≤ x.o ∧ x.o < 1099511627776
  t : 0 ≤ x.t ∧ x.t < 1125899906842624
  p : 0 ≤ x.p ∧ x.p < 4294967296
  s : 0 ≤ x.s ∧ x.s < 1099511627776
  ps : (x.p = 0 ∧ x.s = 0) ∨ (0 < x.p ∧ 1 ≤ x.s)
  key : 1 ≤ x.key.size ∧ x.key.size ≤ 64
  val : x.val.size ≤ 1024
  tomb : x.k = 2 → x.val.size = 0
theorem chk_may {x : Rc} (h : chk x = 0) : May x := by
  unfold chk at h
  by_cases c1 : x.k ≠ 1 ∧ x.k ≠ 2
  · rw [if_pos c1] at h; omega
  rw [if_neg c1] at h
  by_cases c2 : ¬ (0 ≤ x.o ∧ x.o < 1099511627776)
  · rw [if_pos c2] at h; omega
  rw [if_neg c2] at h
  by_cases c3 : ¬ (0 ≤ x.t ∧ x.t < 1125899906842624)
  · rw [if_pos c3] at h; omega
  rw [if_neg c3] at h
  by_cases c4 : ¬ (0 ≤ x.p ∧ x.p < 4294967296)
  · rw [if_pos c4] at h; omega
  rw [if_neg c4] at h
  by_cases c5 : x.p = 0 ∧ x.s ≠ 0
  · rw [if_pos c5] at h; omega
  rw [if_neg c5] at h
  by_cases c6 : 0 < x.p ∧ ¬ (1 ≤ x.s ∧ x.s < 1099511627776)
  · rw [if_pos c6] at h; omega
  rw [if_neg c6] at h
  by_cases c7 : x.key.size < 1 ∨ 64 < x.key.size
  · rw [if_pos c7] at h; omega
  rw [if_neg c7] at h
  by_cases c8 : 1024 < x.val.size ∨ (x.k = 2 ∧ 0 < x.val.size)
  · rw [if_pos c8] at h; omega
  exact ⟨by omega, by omega, by omega, by omega, by omega, by omega, by omega, by omega, by omega⟩
theorem may_chk {x : Rc} (h : May x) : chk x = 0 := by
  obtain ⟨h1, h2, h3, h4, h5, h6, h7, h8, h9⟩ := h
  unfold chk
  rw [if_neg (by omega), if_neg (by omega), if_neg (by omega), if_neg (by omega), if_neg (by omega), if_neg (by omega), if_neg (by omega), if_neg (by omega)]
theorem nums_by {x : Rc} : By (nums x) := by
  unfold nums
  split
  · exact By.append (Uv.uv_lt _) (Uv.uv_lt _)
  · exact fun b hb => by cases hb
theorem bdy_by {x : Rc} (h : May x) : By (bdy x) := by
  unfold bdy
  refine By.append (By.append (By.append (By.append (By.append (By.append ?_ (Uv.uv_lt _)) (Uv.uv_lt _)) nums_by) (Uv.uv_lt _)) (sb_by _)) (shrt_by (sb_by _) (by rw [sb_length]; have := h.val; omega))
  intro b hb
  simp only [List.mem_singleton] at hb
  have := flg_lt x
  omega
theorem nums_len {x : Rc} (h : May x) : (nums x).length ≤ 11 := by
  unfold nums
  split
  · have h3 := Uv.uv_len_pow 4 x.p.toNat (by have := h.p; omega)
    have h4 := Uv.uv_len_pow 5 x.s.toNat (by have := h.s; omega)
    rw [List.length_append]; omega
  · simp
theorem bdy_len {x : Rc} (h : May x) : 5 ≤ (bdy x).length ∧ (bdy x).length ≤ 1115 := by
  have h1 := Uv.uv_len_pow 5 x.o.toNat (by have := h.o; omega)
  have h2 := Uv.uv_len_pow 7 x.t.toNat (by have := h.t; omega)
  have h5 := Uv.uv_len_pow 0 x.key.size (by have := h.key; omega)
  have h6 := shrt_len (sb x.val)
  have h7 := h.val
  have h8 := h.key
  have h9 := nums_len h
  have p1 := Uv.uv_pos x.o.toNat
  have p2 := Uv.uv_pos x.t.toNat
  have p3 := Uv.uv_pos x.key.size
  unfold bdy
  simp only [List.length_append, List.length_cons, List.length_nil, sb_length] at h6 ⊢
  omega
end Go.Proofs.YtljfmcgeiceagaaGreat

/- What any bytes begin with, as a record: in plain words. -/
namespace Go.Proofs.YtljfmcgeiceagaaGreat
open Go Go.RowKit
set_option linter.unusedVariables false
set_option linter.unusedSimpArgs false

def rc0 : Rc := ⟨0, 0, 0, 0, 0, ⟨#[]⟩, ⟨#[]⟩⟩
/-- A number below 2 to the 63. -/
def n63 (s : Rs) : Int × Rs := (sg s.num.1, if 9223372036854775808 ≤ s.num.1 then s.num.2.fail 41 else s.num.2)
def pfin (f : Nat) (o t p s : Int) (k v : List Nat) : Option Rc :=
  if (if f / 2 % 2 = 1 then dec v else (v, 0)).2 ≠ 0 then none
  else if (shrt (if f / 2 % 2 = 1 then dec v else (v, 0)).1).2 ≠ decide (f / 2 % 2 = 1) then none
  else if chk ⟨if f % 2 = 1 then 2 else 1, o, t, p, s, strOf k, strOf (if f / 2 % 2 = 1 then dec v else (v, 0)).1⟩ = 0 then some ⟨if f % 2 = 1 then 2 else 1, o, t, p, s, strOf k, strOf (if f / 2 % 2 = 1 then dec v else (v, 0)).1⟩ else none
def pst (pr : Prop) [Decidable pr] (s : Rs) : Int × Rs := if pr then n63 s else (0, s)
/-- The program's read. -/
def prd1 (f : Nat) (z : Rs) : Option Rc :=
  let a := n63 z
  let b := n63 a.2
  let c := pst (f / 4 % 2 = 1) b.2
  let d := pst (f / 4 % 2 = 1) c.2
  let k := d.2.text 64
  let v := k.2.take k.2.rest
  if 8 ≤ f ∨ v.2.fin.1 ≠ 0 ∨ (f / 4 % 2 = 1 ∧ c.1 = 0) then none else pfin f a.1 b.1 c.1 d.1 k.1 v.1
def prd (bs : List Nat) : Option Rc := prd1 (((⟨bs, 0, 0, 0⟩ : Rs).take 1).1.headD 0) ((⟨bs, 0, 0, 0⟩ : Rs).take 1).2
theorem pst_yes {pr : Prop} [Decidable pr] (h : pr) (s : Rs) : pst pr s = n63 s := if_pos h
theorem pst_no {pr : Prop} [Decidable pr] (h : ¬ pr) (s : Rs) : pst pr s = (0, s) := if_neg h
def nst (pr : Prop) [Decidable pr] (s : Rs) : Nat × Rs := if pr then s.num else (0, s)
theorem nst_yes {pr : Prop} [Decidable pr] (h : pr) (s : Rs) : nst pr s = s.num := if_pos h
theorem nst_no {pr : Prop} [Decidable pr] (h : ¬ pr) (s : Rs) : nst pr s = (0, s) := if_neg h
/-- The document's. -/
def rdm1 (f : Nat) (z : Rs) : Rc :=
  let a := z.num
  let b := a.2.num
  let c := nst (4 ≤ f) b.2
  let d := nst (4 ≤ f) c.2
  let k := d.2.text 64
  let v := k.2.take k.2.rest
  ⟨if f % 2 = 1 then 2 else 1, sg a.1, sg b.1, sg c.1, sg d.1, strOf k.1, strOf (if f / 2 % 2 = 1 then (dec v.1).1 else v.1)⟩
def rdm (bs : List Nat) : Rc := rdm1 (((⟨bs, 0, 0, 0⟩ : Rs).take 1).1.headD 0) ((⟨bs, 0, 0, 0⟩ : Rs).take 1).2
/-- What any bytes begin with. -/
def rdec (b : List Nat) : Rc × Nat × Nat :=
  if b.length = 0 then (rc0, 0, 40)
  else if b.headD 0 ≠ 169 then (rc0, 0, 41)
  else if b.length < 5 then (rc0, 0, 40)
  else if val ((b.drop 1).take 4) < 5 ∨ 1115 < val ((b.drop 1).take 4) then (rc0, 0, 41)
  else if b.length < 9 + val ((b.drop 1).take 4) then (rc0, 0, 40)
  else if chk (rdm ((b.drop 9).take (val ((b.drop 1).take 4)))) = 0 ∧ wrap 169 (bdy (rdm ((b.drop 9).take (val ((b.drop 1).take 4))))) = b.take (9 + val ((b.drop 1).take 4))
    then (rdm ((b.drop 9).take (val ((b.drop 1).take 4))), 9 + val ((b.drop 1).take 4), 0) else (rc0, 0, 41)

/-- Forward. -/
theorem take_fw {bs pre b post : List Nat} {n : Nat} (h : bs = pre ++ (b ++ post)) (hb : b.length = n) : (⟨bs, pre.length, 0, 0⟩ : Rs).take (n : Int) = (b, ⟨bs, (pre ++ b).length, 0, 0⟩) := by
  subst h
  rw [take_read hb]
  simp [hb]
theorem num_fw {bs pre post : List Nat} {v : Nat} (h : bs = pre ++ (Uv.uv v ++ post)) (hv : v < 18446744073709551616) : (⟨bs, pre.length, 0, 0⟩ : Rs).num = (v, ⟨bs, (pre ++ Uv.uv v).length, 0, 0⟩) := by
  subst h
  rw [num_read hv]
  simp
theorem text_fw {bs pre post : List Nat} {s : ByteArray} (h : bs = pre ++ ((Uv.uv s.size ++ sb s) ++ post)) (hs : s.size ≤ 64) : (⟨bs, pre.length, 0, 0⟩ : Rs).text 64 = (sb s, ⟨bs, (pre ++ (Uv.uv s.size ++ sb s)).length, 0, 0⟩) := by
  subst h
  rw [text_read (by omega) (by omega)]
  simp
theorem sg_small {v : Nat} (h : v < 9223372036854775808) : sg v = (v : Int) := by unfold sg; rw [if_pos h]
theorem n63_fw {bs pre post : List Nat} {v : Nat} (h : bs = pre ++ (Uv.uv v ++ post)) (hv : v < 9223372036854775808) : n63 (⟨bs, pre.length, 0, 0⟩ : Rs) = ((v : Int), ⟨bs, (pre ++ Uv.uv v).length, 0, 0⟩) := by
  unfold n63
  rw [num_fw h (by omega), if_neg (by simp only; omega), sg_small hv]

theorem flg_bits (x : Rc) : (flg x % 2 = 1 ↔ x.k = 2) ∧ (flg x / 2 % 2 = 1 ↔ (shrt (sb x.val)).2 = true) ∧ (flg x / 4 % 2 = 1 ↔ 0 < x.p) ∧ (4 ≤ flg x ↔ 0 < x.p) := by
  unfold flg
  split <;> split <;> split <;> simp_all

theorem take1_fw {bs post : List Nat} {f : Nat} (h : bs = [f] ++ post) : (⟨bs, 0, 0, 0⟩ : Rs).take 1 = ([f], ⟨bs, ([f] : List Nat).length, 0, 0⟩) := by
  have := take_fw (bs := bs) (pre := []) (b := [f]) (post := post) (n := 1) (by simpa using h) rfl
  simpa using this
theorem bdy_parts (x : Rc) (hp : 0 < x.p) : bdy x = [flg x] ++ (Uv.uv x.o.toNat ++ (Uv.uv x.t.toNat ++ (Uv.uv x.p.toNat ++ (Uv.uv x.s.toNat ++ ((Uv.uv x.key.size ++ sb x.key) ++ ((shrt (sb x.val)).1 ++ [])))))) := by
  unfold bdy nums
  rw [if_pos hp]
  simp only [List.append_assoc, List.append_nil]
theorem bdy_parts0 (x : Rc) (hp : ¬ 0 < x.p) : bdy x = [flg x] ++ (Uv.uv x.o.toNat ++ (Uv.uv x.t.toNat ++ ((Uv.uv x.key.size ++ sb x.key) ++ ((shrt (sb x.val)).1 ++ [])))) := by
  unfold bdy nums
  rw [if_neg hp]
  simp only [List.append_assoc, List.append_nil]
theorem rest_fw {bs pre b : List Nat} (h : bs = pre ++ b) : (⟨bs, pre.length, 0, 0⟩ : Rs).take ((⟨bs, pre.length, 0, 0⟩ : Rs).rest : Nat) = (b, ⟨bs, bs.length, 0, 0⟩) := by
  have hr : (⟨bs, pre.length, 0, 0⟩ : Rs).rest = b.length := by subst h; simp [Rs.rest]
  rw [hr, take_fw (b := b) (post := []) (by simpa using h) rfl, h]
theorem nat_of {a : Int} (h : 0 ≤ a) : ((a.toNat : Nat) : Int) = a := by omega
theorem fin_all {bs : List Nat} : (⟨bs, bs.length, 0, 0⟩ : Rs).fin = (0, 0) := by simp [Rs.fin]
theorem shrt_dec {v : List Nat} (hb : By v) (h4 : v.length ≤ 4096) (h : (shrt v).2 = true) : dec (shrt v).1 = (v, 0) := by
  unfold shrt at h ⊢
  split at h
  · rename_i hc
    rw [if_pos hc]
    simp only
    rw [enc_short (by omega)]
    exact dec_enc hb h4
  · simp at h
theorem shrt_same {v : List Nat} (h : ¬ (shrt v).2 = true) : (shrt v).1 = v := by
  unfold shrt at h ⊢
  split
  · rename_i hc
    rw [if_pos hc] at h
    simp at h
  · rfl
theorem pfin_fw {x : Rc} (hm : May x) : pfin (flg x) x.o x.t x.p x.s (sb x.key) (shrt (sb x.val)).1 = some x := by
  obtain ⟨b1, b2, b3, b4⟩ := flg_bits x
  have hd : (if flg x / 2 % 2 = 1 then dec (shrt (sb x.val)).1 else ((shrt (sb x.val)).1, 0)) = (sb x.val, 0) := by
    by_cases h : (shrt (sb x.val)).2 = true
    · rw [if_pos (b2.2 h)]
      exact shrt_dec (sb_by _) (by rw [sb_length]; have := hm.val; omega) h
    · rw [if_neg (fun e => h (b2.1 e)), shrt_same h]
  have hk : (if flg x % 2 = 1 then (2 : Int) else 1) = x.k := by
    rcases hm.k with h | h
    · rw [if_neg (fun e => by have := b1.1 e; omega), h]
    · rw [if_pos (b1.2 h), h]
  unfold pfin
  rw [hd, hk]
  simp only [strOf_sb]
  rw [if_neg (by simp), if_neg (by
    simp only [ne_eq, Decidable.not_not]
    by_cases h : (shrt (sb x.val)).2 = true
    · rw [h, decide_eq_true (b2.2 h)]
    · rw [decide_eq_false (fun e => h (b2.1 e))]; simpa using h), if_pos (may_chk hm)]
theorem prd_bdy {x : Rc} (hm : May x) : prd (bdy x) = some x := by
  obtain ⟨b1, b2, b3, b4⟩ := flg_bits x
  have ho := hm.o
  have ht := hm.t
  have hp := hm.p
  have hs := hm.s
  have hk := hm.key
  have e1 : ((x.o.toNat : Nat) : Int) = x.o := nat_of ho.1
  have e2 : ((x.t.toNat : Nat) : Int) = x.t := nat_of ht.1
  have e3 : ((x.p.toNat : Nat) : Int) = x.p := nat_of hp.1
  have e4 : ((x.s.toNat : Nat) : Int) = x.s := nat_of hs.1
  by_cases h0 : 0 < x.p
  · have hb := bdy_parts x h0
    obtain ⟨bs, hbs⟩ : ∃ bs, bs = bdy x := ⟨_, rfl⟩
    rw [← hbs] at hb ⊢
    have p1 := n63_fw (pre := [flg x]) (v := x.o.toNat) hb (by omega)
    have p2 := n63_fw (pre := [flg x] ++ Uv.uv x.o.toNat) (v := x.t.toNat) (bs := bs) (by rw [hb]; simp only [List.append_assoc]; rfl) (by omega)
    have p3 := n63_fw (pre := [flg x] ++ Uv.uv x.o.toNat ++ Uv.uv x.t.toNat) (v := x.p.toNat) (bs := bs) (by rw [hb]; simp only [List.append_assoc]; rfl) (by omega)
    have p4 := n63_fw (pre := [flg x] ++ Uv.uv x.o.toNat ++ Uv.uv x.t.toNat ++ Uv.uv x.p.toNat) (v := x.s.toNat) (bs := bs) (by rw [hb]; simp only [List.append_assoc]; rfl) (by omega)
    have p5 := text_fw (pre := [flg x] ++ Uv.uv x.o.toNat ++ Uv.uv x.t.toNat ++ Uv.uv x.p.toNat ++ Uv.uv x.s.toNat) (s := x.key) (bs := bs) (by rw [hb]; simp only [List.append_assoc]; rfl) (by omega)
    have p6 := rest_fw (pre := [flg x] ++ Uv.uv x.o.toNat ++ Uv.uv x.t.toNat ++ Uv.uv x.p.toNat ++ Uv.uv x.s.toNat ++ (Uv.uv x.key.size ++ sb x.key)) (b := (shrt (sb x.val)).1) (bs := bs) (by rw [hb]; simp only [List.append_assoc, List.append_nil])
    unfold prd
    rw [take1_fw hb]
    simp only [List.headD_cons]
    unfold prd1
    simp only
    rw [p1]
    simp only
    rw [p2]
    simp only
    rw [(pst_yes (b3.2 h0) _).trans p3]
    simp only
    rw [(pst_yes (b3.2 h0) _).trans p4]
    simp only
    rw [p5]
    simp only
    rw [p6, fin_all]
    rw [if_neg (by
      have := flg_lt x
      simp only [ne_eq, not_true_eq_false, false_or]
      omega), e1, e2, e3, e4]
    exact pfin_fw hm
  · have hb := bdy_parts0 x h0
    obtain ⟨bs, hbs⟩ : ∃ bs, bs = bdy x := ⟨_, rfl⟩
    rw [← hbs] at hb ⊢
    have p1 := n63_fw (pre := [flg x]) (v := x.o.toNat) hb (by omega)
    have p2 := n63_fw (pre := [flg x] ++ Uv.uv x.o.toNat) (v := x.t.toNat) (bs := bs) (by rw [hb]; simp only [List.append_assoc]; rfl) (by omega)
    have p5 := text_fw (pre := [flg x] ++ Uv.uv x.o.toNat ++ Uv.uv x.t.toNat) (s := x.key) (bs := bs) (by rw [hb]; simp only [List.append_assoc]; rfl) (by omega)
    have p6 := rest_fw (pre := [flg x] ++ Uv.uv x.o.toNat ++ Uv.uv x.t.toNat ++ (Uv.uv x.key.size ++ sb x.key)) (b := (shrt (sb x.val)).1) (bs := bs) (by rw [hb]; simp only [List.append_assoc, List.append_nil])
    have h4 : ¬ flg x / 4 % 2 = 1 := fun e => h0 (b3.1 e)
    have z1 : x.p = 0 := by omega
    have z2 : x.s = 0 := by have := hm.ps; omega
    unfold prd
    rw [take1_fw hb]
    simp only [List.headD_cons]
    unfold prd1
    simp only
    rw [p1]
    simp only
    rw [p2]
    simp only
    rw [pst_no h4 ⟨bs, ([flg x] ++ Uv.uv x.o.toNat ++ Uv.uv x.t.toNat).length, 0, 0⟩]
    simp only
    rw [pst_no h4 ⟨bs, ([flg x] ++ Uv.uv x.o.toNat ++ Uv.uv x.t.toNat).length, 0, 0⟩]
    simp only
    rw [p5]
    simp only
    rw [p6, fin_all]
    rw [if_neg (by
      have := flg_lt x
      simp only [ne_eq, not_true_eq_false, false_or]
      omega), e1, e2]
    have := pfin_fw hm
    rw [z1, z2] at this
    exact this
theorem rdm_bdy {x : Rc} (hm : May x) : rdm (bdy x) = x := by
  obtain ⟨b1, b2, b3, b4⟩ := flg_bits x
  have ho := hm.o
  have ht := hm.t
  have hp := hm.p
  have hs := hm.s
  have hk := hm.key
  have e1 : sg x.o.toNat = x.o := by rw [sg_small (by omega)]; exact nat_of ho.1
  have e2 : sg x.t.toNat = x.t := by rw [sg_small (by omega)]; exact nat_of ht.1
  have e3 : sg x.p.toNat = x.p := by rw [sg_small (by omega)]; exact nat_of hp.1
  have e4 : sg x.s.toNat = x.s := by rw [sg_small (by omega)]; exact nat_of hs.1
  have hd : (if flg x / 2 % 2 = 1 then (dec (shrt (sb x.val)).1).1 else (shrt (sb x.val)).1) = sb x.val := by
    by_cases h : (shrt (sb x.val)).2 = true
    · rw [if_pos (b2.2 h), shrt_dec (sb_by _) (by rw [sb_length]; have := hm.val; omega) h]
    · rw [if_neg (fun e => h (b2.1 e)), shrt_same h]
  have hkk : (if flg x % 2 = 1 then (2 : Int) else 1) = x.k := by
    rcases hm.k with h | h
    · rw [if_neg (fun e => by have := b1.1 e; omega), h]
    · rw [if_pos (b1.2 h), h]
  by_cases h0 : 0 < x.p
  · have hb := bdy_parts x h0
    obtain ⟨bs, hbs⟩ : ∃ bs, bs = bdy x := ⟨_, rfl⟩
    rw [← hbs] at hb ⊢
    have p1 := num_fw (pre := [flg x]) (v := x.o.toNat) hb (by omega)
    have p2 := num_fw (pre := [flg x] ++ Uv.uv x.o.toNat) (v := x.t.toNat) (bs := bs) (by rw [hb]; simp only [List.append_assoc]; rfl) (by omega)
    have p3 := num_fw (pre := [flg x] ++ Uv.uv x.o.toNat ++ Uv.uv x.t.toNat) (v := x.p.toNat) (bs := bs) (by rw [hb]; simp only [List.append_assoc]; rfl) (by omega)
    have p4 := num_fw (pre := [flg x] ++ Uv.uv x.o.toNat ++ Uv.uv x.t.toNat ++ Uv.uv x.p.toNat) (v := x.s.toNat) (bs := bs) (by rw [hb]; simp only [List.append_assoc]; rfl) (by omega)
    have p5 := text_fw (pre := [flg x] ++ Uv.uv x.o.toNat ++ Uv.uv x.t.toNat ++ Uv.uv x.p.toNat ++ Uv.uv x.s.toNat) (s := x.key) (bs := bs) (by rw [hb]; simp only [List.append_assoc]; rfl) (by omega)
    have p6 := rest_fw (pre := [flg x] ++ Uv.uv x.o.toNat ++ Uv.uv x.t.toNat ++ Uv.uv x.p.toNat ++ Uv.uv x.s.toNat ++ (Uv.uv x.key.size ++ sb x.key)) (b := (shrt (sb x.val)).1) (bs := bs) (by rw [hb]; simp only [List.append_assoc, List.append_nil])
    unfold rdm
    rw [take1_fw hb]
    simp only [List.headD_cons]
    unfold rdm1
    simp only
    rw [p1]
    simp only
    rw [p2]
    simp only
    rw [(nst_yes (b4.2 h0) _).trans p3]
    simp only
    rw [(nst_yes (b4.2 h0) _).trans p4]
    simp only
    rw [p5]
    simp only
    rw [p6]
    simp only
    rw [hd, hkk, e1, e2, e3, e4]
    simp only [strOf_sb]
  · have hb := bdy_parts0 x h0
    obtain ⟨bs, hbs⟩ : ∃ bs, bs = bdy x := ⟨_, rfl⟩
    rw [← hbs] at hb ⊢
    have p1 := num_fw (pre := [flg x]) (v := x.o.toNat) hb (by omega)
    have p2 := num_fw (pre := [flg x] ++ Uv.uv x.o.toNat) (v := x.t.toNat) (bs := bs) (by rw [hb]; simp only [List.append_assoc]; rfl) (by omega)
    have p5 := text_fw (pre := [flg x] ++ Uv.uv x.o.toNat ++ Uv.uv x.t.toNat) (s := x.key) (bs := bs) (by rw [hb]; simp only [List.append_assoc]; rfl) (by omega)
    have p6 := rest_fw (pre := [flg x] ++ Uv.uv x.o.toNat ++ Uv.uv x.t.toNat ++ (Uv.uv x.key.size ++ sb x.key)) (b := (shrt (sb x.val)).1) (bs := bs) (by rw [hb]; simp only [List.append_assoc, List.append_nil])
    have h4 : ¬ 4 ≤ flg x := fun e => h0 (b4.1 e)
    have z1 : x.p = 0 := by omega
    have z2 : x.s = 0 := by have := hm.ps; omega
    unfold rdm
    rw [take1_fw hb]
    simp only [List.headD_cons]
    unfold rdm1
    simp only
    rw [p1]
    simp only
    rw [p2]
    simp only
    rw [nst_no h4 ⟨bs, ([flg x] ++ Uv.uv x.o.toNat ++ Uv.uv x.t.toNat).length, 0, 0⟩]
    simp only
    rw [nst_no h4 ⟨bs, ([flg x] ++ Uv.uv x.o.toNat ++ Uv.uv x.t.toNat).length, 0, 0⟩]
    simp only
    rw [p5]
    simp only
    rw [p6]
    simp only
    rw [hd, hkk, e1, e2]
    obtain ⟨k, o, t, p, q, key, val⟩ := x
    simp only at z1 z2
    subst z1 z2
    simp only [strOf_sb]
    rfl
end Go.Proofs.YtljfmcgeiceagaaGreat

/- What the program reads as a record has just these bytes: in plain words. -/
namespace Go.Proofs.YtljfmcgeiceagaaGreat
open Go Go.RowKit
set_option linter.unusedVariables false
set_option linter.unusedSimpArgs false

/-- Where a reader stands, no error behind it. -/
structure At (bs : List Nat) (s : Rs) (pre : List Nat) : Prop where
  ok : s.Ok
  err : s.err = 0
  same : s.bs = bs
  pre : bs.take s.p = pre
theorem take_join {bs : List Nat} {p k : Nat} : bs.take (p + k) = bs.take p ++ (bs.drop p).take k := List.take_add
theorem take_err {s : Rs} {n : Int} (h : (s.take n).2.err = 0) : s.err = 0 := by
  apply Classical.byContradiction
  intro h0
  unfold Rs.take at h
  rw [if_pos h0] at h
  exact h0 h
theorem text_err {s : Rs} {n : Int} (hs : s.Ok) (h : (s.text n).2.err = 0) : s.num.2.err = 0 := by
  apply Classical.byContradiction
  intro h0
  rw [Rs.text_bad n h0] at h
  exact h0 h
theorem At.take {bs pre : List Nat} {s : Rs} (h : At bs s pre) {n : Nat} (he : (s.take n).2.err = 0) : At bs (s.take n).2 (pre ++ (s.take n).1) ∧ (s.take n).1.length = n := by
  obtain ⟨hr, ht⟩ := take_back h.err he
  have hok := h.ok.take n
  rw [ht] at hok ⊢
  refine ⟨⟨hok, h.err, h.same, ?_⟩, ?_⟩
  · simp only [Rs.go]
    rw [take_join, h.pre, h.same]
  · simp only [List.length_take, List.length_drop]
    unfold Rs.rest at hr
    omega
theorem At.num {bs pre : List Nat} {s : Rs} (h : At bs s pre) (he : s.num.2.err = 0) : At bs s.num.2 (pre ++ Uv.uv s.num.1) := by
  obtain ⟨h1, h2, h3, h4⟩ := num_back h.ok h.err he
  have hok := h.ok.num.1
  rw [h3] at hok
  refine ⟨by rw [h3]; exact hok, he, by rw [h3]; exact h.same, ?_⟩
  rw [h3]
  simp only [Rs.go]
  rw [take_join, h.pre]
  rw [h.same] at h4
  rw [h4]
theorem n63_back {s : Rs} (hok : s.Ok) (he : (n63 s).2.err = 0) : s.num.2.err = 0 ∧ s.num.1 < 9223372036854775808 ∧ (n63 s).2 = s.num.2 ∧ (n63 s).1 = (s.num.1 : Int) := by
  unfold n63 at he ⊢
  simp only at he ⊢
  by_cases h : 9223372036854775808 ≤ s.num.1
  · rw [if_pos h] at he
    by_cases h0 : s.num.2.err = 0
    · rw [Rs.fail, Rs.failAt_yes _ h0 (by decide)] at he
      simp at he
    · rw [Rs.fail, Rs.failAt_bad _ h0] at he
      exact absurd he h0
  · rw [if_neg h] at he ⊢
    exact ⟨he, by omega, rfl, sg_small (by omega)⟩
theorem n63_ok {s : Rs} (hok : s.Ok) : (n63 s).2.Ok := by
  unfold n63
  simp only
  split
  · exact hok.num.1.fail (by omega)
  · exact hok.num.1
theorem pst_ok {pr : Prop} [Decidable pr] {s : Rs} (hok : s.Ok) : (pst pr s).2.Ok := by
  unfold pst
  split
  · exact n63_ok hok
  · exact hok
theorem n63_err {s : Rs} (hok : s.Ok) (he : (n63 s).2.err = 0) : s.err = 0 := Rs.num_ok hok (n63_back hok he).1
theorem pst_err {pr : Prop} [Decidable pr] {s : Rs} (hok : s.Ok) (he : (pst pr s).2.err = 0) : s.err = 0 := by
  unfold pst at he
  split at he
  · exact n63_err hok he
  · exact he
theorem At.n63 {bs pre : List Nat} {s : Rs} (h : At bs s pre) (he : (n63 s).2.err = 0) : ∃ v : Nat, (Go.Proofs.YtljfmcgeiceagaaGreat.n63 s).1 = (v : Int) ∧ v < 9223372036854775808 ∧ At bs (Go.Proofs.YtljfmcgeiceagaaGreat.n63 s).2 (pre ++ Uv.uv v) := by
  obtain ⟨h1, h2, h3, h4⟩ := n63_back h.ok he
  refine ⟨s.num.1, h4, h2, ?_⟩
  rw [h3]
  exact h.num h1
theorem At.text {bs pre : List Nat} {s : Rs} (h : At bs s pre) (he : (s.text 64).2.err = 0) : At bs (s.text 64).2 (pre ++ (Uv.uv (s.text 64).1.length ++ (s.text 64).1)) := by
  have hn := text_err h.ok he
  have ha := h.num hn
  by_cases hm : max 64 0 < (s.num.1 : Int)
  · rw [Rs.text_long h.ok 64 hn hm, Rs.failAt_yes _ hn (by decide)] at he
    simp at he
  · by_cases hr : s.num.2.rest < s.num.1
    · rw [Rs.text_short h.ok 64 hn (by omega) hr, Rs.failAt_yes _ hn (by decide)] at he
      simp at he
    · have hy := Rs.text_yes h.ok 64 hn (by omega) (by omega)
      have hok := (h.ok.text 64).1
      rw [hy] at hok ⊢
      have hl : ((s.bs.drop s.num.2.p).take s.num.1).length = s.num.1 := by
        unfold Rs.rest at hr
        have := ha.same
        rw [List.length_take, List.length_drop]
        rw [this] at hr
        rw [h.same]
        omega
      refine ⟨hok, hn, ha.same, ?_⟩
      rw [hl]
      simp only [Rs.go]
      rw [take_join, ha.pre, h.same, List.append_assoc]
theorem fin_zero {s : Rs} (h : s.fin.1 = 0) : s.err = 0 ∧ s.bs.length ≤ s.p := by
  unfold Rs.fin at h
  split at h
  · rename_i h0; exact absurd h h0
  · rename_i h0
    split at h
    · simp at h
    · exact ⟨by simpa using h0, by omega⟩
theorem headD_one {l : List Nat} (h : l.length = 1) : l = [l.headD 0] := by
  match l, h with
  | [a], _ => rfl
/-- What is told of a value. -/
theorem pfin_back {f : Nat} {o t p s : Int} {k v : List Nat} {x : Rc} (hv : By v) (hvl : v.length ≤ 1115) (h : pfin f o t p s k v = some x) :
    ∃ u, By u ∧ x = ⟨if f % 2 = 1 then 2 else 1, o, t, p, s, strOf k, strOf u⟩ ∧ chk x = 0 ∧ shrt u = (v, decide (f / 2 % 2 = 1)) := by
  unfold pfin at h
  by_cases hf : f / 2 % 2 = 1
  · rw [if_pos hf] at h
    rcases dec_cases hv (by omega) with hd | ⟨u, hd, he, hu4, hu⟩
    · rw [hd] at h
      simp at h
    · rw [hd] at h
      simp only [ne_eq, not_true_eq_false, if_false] at h
      rw [decide_eq_true hf] at h ⊢
      by_cases hs : (shrt u).2 = true
      · rw [hs] at h
        simp only [not_true_eq_false, if_false] at h
        by_cases hc : chk ⟨if f % 2 = 1 then 2 else 1, o, t, p, s, strOf k, strOf u⟩ = 0
        · rw [if_pos hc] at h
          injection h with h
          refine ⟨u, hu, h.symm, by rw [← h]; exact hc, ?_⟩
          unfold shrt at hs ⊢
          split at hs
          · rename_i h2; rw [if_pos h2, he]
          · simp at hs
        · rw [if_neg hc] at h; cases h
      · rw [if_pos (by simpa using hs)] at h; cases h
  · rw [if_neg hf] at h
    simp only [ne_eq, not_true_eq_false, if_false] at h
    rw [decide_eq_false hf] at h ⊢
    by_cases hs : (shrt v).2 = false
    · rw [if_neg (by simpa using hs)] at h
      by_cases hc : chk ⟨if f % 2 = 1 then 2 else 1, o, t, p, s, strOf k, strOf v⟩ = 0
      · rw [if_pos hc] at h
        injection h with h
        exact ⟨v, hv, h.symm, by rw [← h]; exact hc, Prod.ext (shrt_same (by simp [hs])) hs⟩
      · rw [if_neg hc] at h; cases h
    · rw [if_pos (by simpa using hs)] at h; cases h
theorem prd_back {bs : List Nat} {x : Rc} (hby : By bs) (hl : bs.length ≤ 1115) (h : prd bs = some x) : May x ∧ bdy x = bs := by
  have hok0 : (⟨bs, 0, 0, 0⟩ : Rs).Ok := ⟨by simp, hby, by simp only; omega, fun _ => rfl, fun h => absurd rfl h, by simp, by simp⟩
  have at0 : At bs ⟨bs, 0, 0, 0⟩ [] := ⟨hok0, rfl, rfl, by simp⟩
  have okz := hok0.take 1
  unfold prd at h
  obtain ⟨f, hf⟩ : ∃ f, f = ((⟨bs, 0, 0, 0⟩ : Rs).take 1).1.headD 0 := ⟨_, rfl⟩
  obtain ⟨z, hz⟩ : ∃ z, z = ((⟨bs, 0, 0, 0⟩ : Rs).take 1).2 := ⟨_, rfl⟩
  rw [← hf, ← hz] at h
  rw [← hz] at okz
  unfold prd1 at h
  simp only at h
  obtain ⟨a, ha⟩ : ∃ a, a = n63 z := ⟨_, rfl⟩
  rw [← ha] at h
  have oka : a.2.Ok := by rw [ha]; exact n63_ok okz
  obtain ⟨b, hb⟩ : ∃ b, b = n63 a.2 := ⟨_, rfl⟩
  rw [← hb] at h
  have okb : b.2.Ok := by rw [hb]; exact n63_ok oka
  obtain ⟨c, hc⟩ : ∃ c, c = pst (f / 4 % 2 = 1) b.2 := ⟨_, rfl⟩
  rw [← hc] at h
  have okc : c.2.Ok := by rw [hc]; exact pst_ok okb
  obtain ⟨d, hd⟩ : ∃ d, d = pst (f / 4 % 2 = 1) c.2 := ⟨_, rfl⟩
  rw [← hd] at h
  have okd : d.2.Ok := by rw [hd]; exact pst_ok okc
  obtain ⟨k, hk⟩ : ∃ k, k = d.2.text 64 := ⟨_, rfl⟩
  rw [← hk] at h
  have okk : k.2.Ok ∧ By k.1 := by rw [hk]; exact okd.text 64
  obtain ⟨v, hv⟩ : ∃ v, v = k.2.take (k.2.rest : Nat) := ⟨_, rfl⟩
  rw [← hv] at h
  have okv : v.2.Ok ∧ By v.1 := by rw [hv]; exact ⟨okk.1.take _, k.2.take_by okk.1 _⟩
  by_cases hcond : 8 ≤ f ∨ v.2.fin.1 ≠ 0 ∨ (f / 4 % 2 = 1 ∧ c.1 = 0)
  · rw [if_pos hcond] at h; cases h
  rw [if_neg hcond] at h
  have hf8 : f < 8 := by omega
  have hfin : v.2.fin.1 = 0 := Classical.byContradiction fun e => hcond (.inr (.inl e))
  obtain ⟨ev, hvp⟩ := fin_zero hfin
  have ek : k.2.err = 0 := take_err (by rw [← hv]; exact ev)
  have ed : d.2.err = 0 := Rs.num_ok okd (text_err okd (by rw [← hk]; exact ek))
  have ec : c.2.err = 0 := pst_err okc (by rw [← hd]; exact ed)
  have eb : b.2.err = 0 := pst_err okb (by rw [← hc]; exact ec)
  have ea : a.2.err = 0 := n63_err oka (by rw [← hb]; exact eb)
  have ez : z.err = 0 := n63_err okz (by rw [← ha]; exact ea)
  obtain ⟨atz, lz⟩ := at0.take (n := 1) (by have := ez; rw [hz] at this; exact this)
  have hz1 := headD_one lz
  have atz2 : At bs z [f] := by
    rw [hz, hf]
    have := atz
    rw [hz1] at this
    exact this
  obtain ⟨o, eo, lo, ata⟩ := atz2.n63 (by rw [← ha]; exact ea)
  rw [← ha] at eo ata
  obtain ⟨t, et, lt, atb⟩ := ata.n63 (by rw [← hb]; exact eb)
  rw [← hb] at et atb
  obtain ⟨N, hN⟩ : ∃ N, N = (if f / 4 % 2 = 1 then Uv.uv c.1.toNat ++ Uv.uv d.1.toNat else []) := ⟨_, rfl⟩
  have atd : At bs d.2 ([f] ++ Uv.uv o ++ Uv.uv t ++ N) ∧ 0 ≤ c.1 ∧ 0 ≤ d.1 ∧ (¬ f / 4 % 2 = 1 → c.1 = 0 ∧ d.1 = 0) := by
    by_cases h4 : f / 4 % 2 = 1
    · rw [if_pos h4] at hN
      rw [pst_yes h4] at hc
      rw [pst_yes h4] at hd
      obtain ⟨p, ep, lp, atc⟩ := atb.n63 (by rw [← hc]; exact ec)
      rw [← hc] at ep atc
      obtain ⟨q, eq, lq, atd⟩ := atc.n63 (by rw [← hd]; exact ed)
      rw [← hd] at eq atd
      rw [ep, eq] at hN
      simp only [Int.toNat_natCast] at hN
      refine ⟨?_, by omega, by omega, fun e => absurd h4 e⟩
      rw [hN, ← List.append_assoc]
      exact atd
    · rw [if_neg h4] at hN
      rw [pst_no h4] at hc
      rw [pst_no h4] at hd
      rw [hd, hc, hN, List.append_nil]
      exact ⟨atb, by simp, by simp, fun _ => ⟨rfl, rfl⟩⟩
  obtain ⟨atd, hc0, hd0, hcz⟩ := atd
  have atk := atd.text (by rw [← hk]; exact ek)
  rw [← hk] at atk
  obtain ⟨atv, lv⟩ := atk.take (n := k.2.rest) (by rw [← hv]; exact ev)
  rw [← hv] at atv lv
  have hall := atv.pre
  have hvp2 : bs.length ≤ v.2.p := by have := atv.same; rw [this] at hvp; exact hvp
  rw [List.take_of_length_le hvp2] at hall
  have hvl : v.1.length ≤ 1115 := by
    rw [lv]
    unfold Rs.rest
    have := atk.same
    rw [this]
    omega
  obtain ⟨u, hu, hx, hck, hsh⟩ := pfin_back okv.2 hvl h
  have hm := chk_may hck
  refine ⟨hm, ?_⟩
  rw [hall]
  have hval : sb x.val = u := by rw [hx]; exact sb_strOf hu
  have hkey : sb x.key = k.1 := by rw [hx]; exact sb_strOf okk.2
  have hks : x.key.size = k.1.length := by rw [← hkey, sb_length]
  have hxo : x.o.toNat = o := by rw [hx]; simp only; omega
  have hxt : x.t.toNat = t := by rw [hx]; simp only; omega
  have hxp : x.p = c.1 := by rw [hx]
  have hxs : x.s = d.1 := by rw [hx]
  have hxk : x.k = if f % 2 = 1 then 2 else 1 := by rw [hx]
  have hp4 : 0 < x.p ↔ f / 4 % 2 = 1 := by
    rw [hxp]
    constructor
    · intro h0
      apply Classical.byContradiction
      intro e
      have := (hcz e).1
      omega
    · intro e
      have : c.1 ≠ 0 := fun e0 => hcond (.inr (.inr ⟨e, e0⟩))
      omega
  have hfl : flg x = f := by
    unfold flg
    rw [hval, hsh, hxk]
    simp only [decide_eq_true_eq]
    by_cases h1 : f % 2 = 1 <;> by_cases h2 : f / 2 % 2 = 1 <;> by_cases h3 : f / 4 % 2 = 1 <;> simp only [h1, h2, h3, hp4, if_true, if_false, if_pos, if_neg, not_false_eq_true] <;> simp <;> omega
  have hnm : nums x = N := by
    unfold nums
    rw [hN, hxp, hxs]
    by_cases h3 : f / 4 % 2 = 1
    · rw [if_pos h3, if_pos (by rw [← hxp]; exact hp4.2 h3)]
    · rw [if_neg h3, if_neg (by rw [← hxp]; exact fun e => h3 (hp4.1 e))]
  unfold bdy
  rw [hfl, hxo, hxt, hnm, hks, hkey, hval, hsh]
  simp only [List.append_assoc]
/-- The program's Decode: the same. -/
theorem wrap_take {b : List Nat} (hb : By b) {n : Nat} (h169 : b.headD 0 = 169) (hn : val ((b.drop 1).take 4) = n) (hl : 9 + n ≤ b.length) (B : List Nat) (hB : By B) :
    wrap 169 B = b.take (9 + n) ↔ B = (b.drop 9).take n ∧ val ((b.drop 5).take 4) = Crc.ext (Crc.ext 0 ((b.drop 1).take 4)) ((b.drop 9).take n) := by
  have hb1 : By ((b.drop 1).take 4) := (hb.drop 1).take 4
  have hb5 : By ((b.drop 5).take 4) := (hb.drop 5).take 4
  have l1 : ((b.drop 1).take 4).length = 4 := by simp only [List.length_take, List.length_drop]; omega
  have l5 : ((b.drop 5).take 4).length = 4 := by simp only [List.length_take, List.length_drop]; omega
  have l9 : ((b.drop 9).take n).length = n := by simp only [List.length_take, List.length_drop]; omega
  have f1 : fx n 4 = (b.drop 1).take 4 := by rw [← hn]; exact fx_val hb1 l1
  constructor
  · intro h
    have hlen : B.length = n := by
      have := congrArg List.length h
      rw [wrap_length, List.length_take] at this
      omega
    obtain ⟨p0, p1, p2, p3⟩ := wrap_parts 169 B
    have e9 : B = (b.drop 9).take n := by
      rw [← p3, h, List.drop_take]
      congr 1
      omega
    refine ⟨e9, ?_⟩
    have e5 : fx (crcOf B) 4 = (b.drop 5).take 4 := by
      rw [← p2, h, List.drop_take, List.take_take]
      congr 1
      omega
    rw [← e5, val_fx (crcOf_lt hB)]
    unfold crcOf
    rw [hlen, f1, e9]
  · rintro ⟨rfl, h⟩
    have e5 : fx (crcOf ((b.drop 9).take n)) 4 = (b.drop 5).take 4 := by
      unfold crcOf
      rw [l9, f1, ← h]
      exact fx_val hb5 l5
    have hs := split9 (b := b.take (9 + n)) (by rw [List.length_take]; omega)
    rw [hs]
    unfold wrap
    rw [l9, f1, e5]
    have a1 : (b.take (9 + n)).headD 0 = 169 := by
      rw [← h169]
      cases b with
      | nil => simp at hl
      | cons x r => rw [show 9 + n = (8 + n) + 1 by omega, List.take_succ_cons]; rfl
    have a2 : ((b.take (9 + n)).drop 1).take 4 = (b.drop 1).take 4 := by
      rw [List.drop_take, List.take_take]; congr 1; omega
    have a3 : ((b.take (9 + n)).drop 5).take 4 = (b.drop 5).take 4 := by
      rw [List.drop_take, List.take_take]; congr 1; omega
    have a4 : (b.take (9 + n)).drop 9 = (b.drop 9).take n := by
      rw [List.drop_take]; congr 1; omega
    rw [a1, a2, a3, a4]
theorem prd_iff {bs : List Nat} (hby : By bs) (hl : bs.length ≤ 1115) (x : Rc) : prd bs = some x ↔ (x = rdm bs ∧ chk (rdm bs) = 0 ∧ bdy (rdm bs) = bs) := by
  constructor
  · intro h
    obtain ⟨hm, hb⟩ := prd_back hby hl h
    have hr : rdm bs = x := by rw [← hb]; exact rdm_bdy hm
    rw [hr]
    exact ⟨rfl, may_chk hm, hb⟩
  · rintro ⟨rfl, hc, hb⟩
    have := prd_bdy (chk_may hc)
    rw [hb] at this
    exact this
/-- By the program's steps. -/
theorem rdec_prog {b : List Nat} (hb : By b) {n : Nat} (h0 : ¬ b.length = 0) (h169 : b.headD 0 = 169) (h5 : ¬ b.length < 5) (hn : val ((b.drop 1).take 4) = n) (hr : ¬ (n < 5 ∨ 1115 < n)) (hl : ¬ b.length < 9 + n) :
    rdec b = if val ((b.drop 5).take 4) = Crc.ext (Crc.ext 0 ((b.drop 1).take 4)) ((b.drop 9).take n) then (match prd ((b.drop 9).take n) with | some x => (x, 9 + n, 0) | none => (rc0, 0, 41)) else (rc0, 0, 41) := by
  unfold rdec
  rw [if_neg h0, if_neg (by simpa using h169), if_neg h5, hn, if_neg hr, if_neg hl]
  have hb9 : By ((b.drop 9).take n) := (hb.drop 9).take n
  have l9 : ((b.drop 9).take n).length = n := by simp only [List.length_take, List.length_drop]; omega
  have hi := fun x => prd_iff hb9 (by omega) x
  by_cases hs : val ((b.drop 5).take 4) = Crc.ext (Crc.ext 0 ((b.drop 1).take 4)) ((b.drop 9).take n)
  · rw [if_pos hs]
    cases hp : prd ((b.drop 9).take n) with
    | some x =>
      obtain ⟨e, hc, hB⟩ := (hi x).1 hp
      simp only
      rw [if_pos ⟨hc, (wrap_take hb h169 hn (by omega) _ (by rw [hB]; exact hb9)).2 ⟨hB, hs⟩⟩, e]
    | none =>
      simp only
      rw [if_neg]
      rintro ⟨hc, hw⟩
      have := (wrap_take hb h169 hn (by omega) _ (bdy_by (chk_may hc))).1 hw
      have h2 := (hi _).2 ⟨rfl, hc, this.1⟩
      rw [hp] at h2
      cases h2
  · rw [if_neg hs, if_neg]
    rintro ⟨hc, hw⟩
    exact hs ((wrap_take hb h169 hn (by omega) _ (bdy_by (chk_may hc))).1 hw).2
end Go.Proofs.YtljfmcgeiceagaaGreat

/- short; a record in a box. -/
namespace Go.Proofs.YtljfmcgeiceagaaGreat
open Go Go.RowKit
set_option linter.unusedVariables false
set_option linter.unusedSimpArgs false

theorem Wrote.to' {base g : Nat} {v : Value} {T : TypeId} {xs zs : List Nat} {W W' : World} {e : Ending} (hw : Wrote base W T g v zs e W') (h : Wr base W T g v xs) : ∃ v', e = .returned (.tuple #[]) ∧ Wr base W' T g v' zs ∧ Below base W W' := by
  obtain ⟨v', he, h1, h2, h3⟩ := hw
  exact ⟨v', he, h1, h2.below h.gb (fun q hq => (h.own.lt q hq).1) (Nat.le_trans h.gb (Nat.le_of_lt h.lt))⟩
/-- A record in block g. -/
def RBox (W : World) (g : Nat) (x : Rc) : Prop := W.heap[g]? = some (.cells #[.int .i64 x.k, .int .i64 x.o, .int .i64 x.t, .int .i64 x.p, .int .i64 x.s, .string x.key, .string x.val] 43 (0, 0))
theorem RBox.new (w : World) (x : Rc) : RBox (w.alloc (.cells #[.int .i64 x.k, .int .i64 x.o, .int .i64 x.t, .int .i64 x.p, .int .i64 x.s, .string x.key, .string x.val] 43)) w.heap.size x := heap_alloc_new w _
theorem RBox.below {W W' : World} {g B : Nat} {x : Rc} (h : RBox W g x) (hb : Below B W W') (hg : g < B) : RBox W' g x := (hb.block g hg).trans h
theorem RBox.facts {W : World} {g : Nat} {x : Rc} (h : RBox W g x) : W.cell? ⟨g, 0, none⟩ = some (.int .i64 x.k) ∧ W.cell? ⟨g, 1, none⟩ = some (.int .i64 x.o) ∧ W.cell? ⟨g, 2, none⟩ = some (.int .i64 x.t) ∧ W.cell? ⟨g, 3, none⟩ = some (.int .i64 x.p) ∧ W.cell? ⟨g, 4, none⟩ = some (.int .i64 x.s) ∧ W.cell? ⟨g, 5, none⟩ = some (.string x.key) ∧ W.cell? ⟨g, 6, none⟩ = some (.string x.val) := by
  unfold RBox at h
  refine ⟨?_, ?_, ?_, ?_, ?_, ?_, ?_⟩ <;> simp [World.cell?, h]
theorem rd_row8 {w : World} {g : Nat} {e : TypeId} {s : ByteArray} {zs : List Value} (h : Row w g e (b8 (sb s) ++ zs)) : Rd w (some ⟨g, 0, none⟩) (b8 (sb s)) := by
  have := h.rd.take_ s.size
  rwa [List.take_left' (by rw [b8_length, sb_length])] at this

def Short (w : World) (q : List Nat × Bool) (e : Ending) (w' : World) : Prop :=
  ∃ A c, e = .returned (.tuple #[.slice A q.1.length c, .bool q.2]) ∧ Rd w' A (b8 q.1) ∧ Below w.heap.size w w'
theorem short_mk {w W : World} {ys : List Nat} {b : Bool} {A : Option Addr} {n c : Nat} (hn : n = ys.length) (hr : Rd W A (b8 ys)) (hb : Below w.heap.size w W) : Short w (ys, b) (.returned (.tuple #[.slice A n c, .bool b])) W := by
  subst hn
  exact ⟨A, c, rfl, hr, hb⟩

set_option maxHeartbeats 1000000 in
theorem short_is (s : ByteArray) (q : List Nat × Bool) (hq : shrt (sb s) = q) (w : World) (hs : s.size ≤ 140737488351232) :
    Calls Tryz.prog 103 #[.string s] w (Short w q) := by
  have PE := Lib.hid (fun A c W (hr : Rd W A (b8 (sb s))) (hc : s.size ≤ c) => encode_is A s.size c (sb s) W hr (sb_length s) (sb_by s) hs hc)
  have HQ : Hid ((if (enc (sb s)).2 = 0 ∧ (enc (sb s)).1.length < s.size then ((enc (sb s)).1, true) else (sb s, false)) = q) := Lib.hid (by rw [← hq]; unfold shrt; rw [sb_length])
  obtain ⟨p, hp⟩ : ∃ p, p = enc (sb s) := ⟨_, rfl⟩
  rw [← hp] at PE HQ
  clear hq hp
  obtain ⟨ys, z⟩ := p
  simp only at HQ
  go_enter Tryz.func103, Tryz.ntmps103
  go_wp2_with (refine wpList_bytes _ rfl (.tmp 7) 9 27 5 rfl Tryz.underlying9 Tryz.underlying27 Tryz.underlying5 s rfl ?_; intro c2 w2 zs hrow hcm hbel hzl; have HR := Lib.hid (rd_row8 hrow); have HBL := Lib.hid hbel; clear hrow hzl hbel)
  refine (PE.out _ c2 w2 HR.out hcm).mono ?_
  rintro e w3 ⟨A3, c3, rfl, ho3, hb3⟩
  simp only at ho3 ⊢
  have HO := Lib.hid (rd_own ho3)
  have HB3 := Lib.hid (HBL.out.trans (hb3.mono HBL.out.size))
  clear ho3 hb3
  by_cases h : z = 0 ∧ ys.length < s.size
  · obtain ⟨rfl, hl⟩ := h
    have HQ2 := HQ.out
    rw [if_pos ⟨rfl, hl⟩] at HQ2
    subst HQ2
    have hl' : (ys.length : Int) < (s.size : Int) := by omega
    clear HQ
    go_wp2_with fail
    go_ret2
    exact short_mk rfl HO.out HB3.out
  · have HQ2 := HQ.out
    rw [if_neg h] at HQ2
    subst HQ2
    clear HQ
    by_cases hz : z = 0
    · have hl' : ¬ (ys.length : Int) < (s.size : Int) := by omega
      subst hz
      clear h
      go_wp2_with (refine wpList_bytes _ rfl (.tmp 22) 9 27 5 rfl Tryz.underlying9 Tryz.underlying27 Tryz.underlying5 s rfl ?_; intro c4 w4 zs4 hrow4 hcm4 hbel4 hzl4; have HR4 := Lib.hid (rd_row8 hrow4); have HB4 := Lib.hid (HB3.out.trans (hbel4.mono HB3.out.size)); clear hrow4 hzl4 hbel4)
      go_ret2
      exact short_mk (sb_length s).symm HR4.out HB4.out
    · have hz' : (z == 0) = false := by rw [beq_eq_false_iff_ne]; exact hz
      clear h
      go_wp2_with (refine wpList_bytes _ rfl (.tmp 22) 9 27 5 rfl Tryz.underlying9 Tryz.underlying27 Tryz.underlying5 s rfl ?_; intro c4 w4 zs4 hrow4 hcm4 hbel4 hzl4; have HR4 := Lib.hid (rd_row8 hrow4); have HB4 := Lib.hid (HB3.out.trans (hbel4.mono HB3.out.size)); clear hrow4 hzl4 hbel4)
      go_ret2
      exact short_mk (sb_length s).symm HR4.out HB4.out
end Go.Proofs.YtljfmcgeiceagaaGreat

/- The body of a record: the program (printed by gen_rcbody.py). -/
namespace Go.Proofs.YtljfmcgeiceagaaGreat
open Go Go.RowKit
set_option linter.unusedVariables false
set_option linter.unusedSimpArgs false

theorem got8_of {w W W' : World} {A : Option Addr} {c : Nat} {X Y : List Nat} (hX : Y = X) (ho : W'.ownsRow W.heap.size 5 1 (.slice A X.length c) X.length (b8 X)) (hT : Below w.heap.size w W) (hb : Below W.heap.size W W') : Got8 w W' (.returned (.slice A X.length c)) Y := by
  subst hX
  exact ⟨A, c, rfl, own_mono ho hT.size, hT.trans (hb.mono hT.size)⟩

set_option maxHeartbeats 8000000 in
set_option maxRecDepth 100000 in
theorem recbody_is (x : Rc) (w : World) (hm : May x) : Calls Tryz.prog 83 #[x.v] w fun e w' => Got8 w w' e (bdy x) := by
  obtain ⟨k, o, t, p, s, key, val⟩ := x
  obtain ⟨m1, m2, m3, m4, m5, m6, m7, m8, m9⟩ := hm
  simp only at m1 m2 m3 m4 m5 m6 m7 m8 m9
  obtain ⟨o, rfl⟩ : ∃ n : Nat, o = (n : Int) := ⟨o.toNat, by omega⟩
  obtain ⟨t, rfl⟩ : ∃ n : Nat, t = (n : Int) := ⟨t.toNat, by omega⟩
  obtain ⟨p, rfl⟩ : ∃ n : Nat, p = (n : Int) := ⟨p.toNat, by omega⟩
  obtain ⟨s, rfl⟩ : ∃ n : Nat, s = (n : Int) := ⟨s.toNat, by omega⟩
  obtain ⟨q, hq⟩ : ∃ q, shrt (sb val) = q := ⟨_, rfl⟩
  obtain ⟨ys, sm⟩ := q
  have hyl : ys.length ≤ 1024 := by have h := shrt_len (sb val); rw [hq, sb_length] at h; simp only at h; omega
  have hsm : k = 2 → sm = false := fun h => by
    have h0 := m9 h
    cases sm with
    | false => rfl
    | true =>
      have h1 := hq
      unfold shrt at h1
      rw [sb_length, h0] at h1
      rw [if_neg (by omega)] at h1
      simp at h1
  have HQ := Lib.hid hq
  have HBD : Hid (∀ F N, flg ⟨k, o, t, p, s, key, val⟩ = F → nums ⟨k, o, t, p, s, key, val⟩ = N → bdy ⟨k, o, t, p, s, key, val⟩ = [F] ++ Uv.uv o ++ Uv.uv t ++ N ++ Uv.uv key.size ++ sb key ++ ys) := Lib.hid (fun F N h1 h2 => by unfold bdy; rw [h1, h2]; simp only [hq, Int.toNat_natCast])
  have hlo := Uv.uv_len_64 o (by omega)
  have hlt := Uv.uv_len_64 t (by omega)
  have hlp := Uv.uv_len_64 p (by omega)
  have hls := Uv.uv_len_64 s (by omega)
  have hlk := Uv.uv_len_64 key.size (by omega)
  unfold Rc.v
  simp only
  clear hq
  have SHP : Hid (∀ W, Calls Tryz.prog 103 #[.string val] W (Short W (ys, sm))) := Lib.hid (fun W => short_is val (ys, sm) HQ.out W (by omega))
  by_cases kk : k = 2
  · obtain rfl := hsm kk
    subst kk
    by_cases hp : (0 : Int) < (p : Int)
    · skip
      have HD := Lib.hid (HBD.out 5 (Uv.uv p ++ Uv.uv s) (by unfold flg; simp only [HQ.out]; have hp1 : 0 < p := (by omega); simp [hp1]) (by unfold nums; simp only [Int.toNat_natCast]; rw [if_pos hp]))
      clear HBD HQ m9 hsm m1 m6
      go_enter Tryz.func83, Tryz.ntmps83
      go_wp2_with fail
      refine (SHP.out _).mono ?_
      rintro e w1 ⟨A1, c1, rfl, hr1, hb1⟩
      simp only at hr1 ⊢
      have R1 := Lib.hid hr1
      have BX1 := Lib.hid ((RBox.new w ⟨2, o, t, p, s, key, val⟩).below hb1 (by simp))
      have T1 := Lib.hid (((Below.refl w.heap.size w).alloc (Nat.le_refl _) (.cells #[.int .i64 2, .int .i64 o, .int .i64 t, .int .i64 p, .int .i64 s, .string key, .string val] 43)).trans (hb1.mono (by simp)))
      have hz1 : w.heap.size + 1 ≤ w1.heap.size := by have := hb1.size; simpa using this
      clear hr1 hb1
      have R1' := R1
      obtain ⟨x0, x1, x2, x3, x4, x5, x6⟩ := (BX1.out).facts
      simp only at x0 x1 x2 x3 x4 x5 x6
      go_wp2_with fail
      refine (new_is w1).mono ?_
      rintro e w2 ⟨rfl, hw2⟩
      have V2 : Hid (Wr w1.heap.size w2 106 w1.heap.size (.slice none 0 0) []) := Lib.hid (by rw [hw2]; exact new_wr w1.heap.size w1 (Nat.le_refl _))
      have D2 : Hid (Below w1.heap.size w1 w2) := Lib.hid (by rw [hw2]; exact (Below.refl _ _).alloc (Nat.le_refl _) _)
      have hl2 : ([] : List Nat).length ≤ 0 := Nat.le_refl _
      clear hw2
      clear x0 x1 x2 x3 x4 x5 x6
      obtain ⟨x0, x1, x2, x3, x4, x5, x6⟩ := (BX1.out.below D2.out (by omega)).facts
      simp only at x0 x1 x2 x3 x4 x5 x6
      go_wp2_with fail
      refine (byte_is w1.heap.size w1.heap.size (.slice none 0 0) [] 5 w2 V2.out  (by omega) D2.out.size).mono ?_
      intro e w3 hw
      obtain ⟨v3, rfl, h, b⟩ := hw.to' V2.out
      have V3 := Lib.hid h
      have D3 := Lib.hid (D2.out.trans b)
      obtain ⟨X3, hX⟩ : ∃ X, X = [] ++ [5] := ⟨_, rfl⟩
      have hl3 : X3.length ≤ 1 := by rw [hX]; simp only [List.length_append, List.length_cons, List.length_nil, sb_length]; omega
      have HX3 := Lib.hid hX
      rw [← hX] at V3
      clear hw h b hX
      clear x0 x1 x2 x3 x4 x5 x6
      obtain ⟨x0, x1, x2, x3, x4, x5, x6⟩ := (BX1.out.below D3.out (by omega)).facts
      simp only at x0 x1 x2 x3 x4 x5 x6
      go_wp2_with fail
      refine (uvarint_w w1.heap.size w1.heap.size v3 X3 o w3 V3.out (by omega) (by omega) D3.out.size).mono ?_
      intro e w4 hw
      obtain ⟨v4, rfl, h, b⟩ := hw.to' V3.out
      have V4 := Lib.hid h
      have D4 := Lib.hid (D3.out.trans b)
      obtain ⟨X4, hX⟩ : ∃ X, X = X3 ++ Uv.uv o := ⟨_, rfl⟩
      have hl4 : X4.length ≤ 11 := by rw [hX]; simp only [List.length_append, List.length_cons, List.length_nil, sb_length]; omega
      have HX4 := Lib.hid hX
      rw [← hX] at V4
      clear hw h b hX
      clear x0 x1 x2 x3 x4 x5 x6
      obtain ⟨x0, x1, x2, x3, x4, x5, x6⟩ := (BX1.out.below D4.out (by omega)).facts
      simp only at x0 x1 x2 x3 x4 x5 x6
      go_wp2_with fail
      refine (uvarint_w w1.heap.size w1.heap.size v4 X4 t w4 V4.out (by omega) (by omega) D4.out.size).mono ?_
      intro e w5 hw
      obtain ⟨v5, rfl, h, b⟩ := hw.to' V4.out
      have V5 := Lib.hid h
      have D5 := Lib.hid (D4.out.trans b)
      obtain ⟨X5, hX⟩ : ∃ X, X = X4 ++ Uv.uv t := ⟨_, rfl⟩
      have hl5 : X5.length ≤ 21 := by rw [hX]; simp only [List.length_append, List.length_cons, List.length_nil, sb_length]; omega
      have HX5 := Lib.hid hX
      rw [← hX] at V5
      clear hw h b hX
      clear x0 x1 x2 x3 x4 x5 x6
      obtain ⟨x0, x1, x2, x3, x4, x5, x6⟩ := (BX1.out.below D5.out (by omega)).facts
      simp only at x0 x1 x2 x3 x4 x5 x6
      go_wp2_with fail
      refine (uvarint_w w1.heap.size w1.heap.size v5 X5 p w5 V5.out (by omega) (by omega) D5.out.size).mono ?_
      intro e w6 hw
      obtain ⟨v6, rfl, h, b⟩ := hw.to' V5.out
      have V6 := Lib.hid h
      have D6 := Lib.hid (D5.out.trans b)
      obtain ⟨X6, hX⟩ : ∃ X, X = X5 ++ Uv.uv p := ⟨_, rfl⟩
      have hl6 : X6.length ≤ 31 := by rw [hX]; simp only [List.length_append, List.length_cons, List.length_nil, sb_length]; omega
      have HX6 := Lib.hid hX
      rw [← hX] at V6
      clear hw h b hX
      clear x0 x1 x2 x3 x4 x5 x6
      obtain ⟨x0, x1, x2, x3, x4, x5, x6⟩ := (BX1.out.below D6.out (by omega)).facts
      simp only at x0 x1 x2 x3 x4 x5 x6
      go_wp2_with fail
      refine (uvarint_w w1.heap.size w1.heap.size v6 X6 s w6 V6.out (by omega) (by omega) D6.out.size).mono ?_
      intro e w7 hw
      obtain ⟨v7, rfl, h, b⟩ := hw.to' V6.out
      have V7 := Lib.hid h
      have D7 := Lib.hid (D6.out.trans b)
      obtain ⟨X7, hX⟩ : ∃ X, X = X6 ++ Uv.uv s := ⟨_, rfl⟩
      have hl7 : X7.length ≤ 41 := by rw [hX]; simp only [List.length_append, List.length_cons, List.length_nil, sb_length]; omega
      have HX7 := Lib.hid hX
      rw [← hX] at V7
      clear hw h b hX
      clear x0 x1 x2 x3 x4 x5 x6
      obtain ⟨x0, x1, x2, x3, x4, x5, x6⟩ := (BX1.out.below D7.out (by omega)).facts
      simp only at x0 x1 x2 x3 x4 x5 x6
      go_wp2_with fail
      refine (text_w w1.heap.size w1.heap.size v7 X7 key w7 V7.out  (by omega) D7.out.size).mono ?_
      intro e w8 hw
      obtain ⟨v8, rfl, h, b⟩ := hw.to' V7.out
      have V8 := Lib.hid h
      have D8 := Lib.hid (D7.out.trans b)
      obtain ⟨X8, hX⟩ : ∃ X, X = X7 ++ (Uv.uv key.size ++ sb key) := ⟨_, rfl⟩
      have hl8 : X8.length ≤ 115 := by rw [hX]; simp only [List.length_append, List.length_cons, List.length_nil, sb_length]; omega
      have HX8 := Lib.hid hX
      rw [List.append_assoc, ← hX] at V8
      clear hw h b hX
      clear x0 x1 x2 x3 x4 x5 x6
      obtain ⟨x0, x1, x2, x3, x4, x5, x6⟩ := (BX1.out.below D8.out (by omega)).facts
      simp only at x0 x1 x2 x3 x4 x5 x6
      go_wp2_with fail
      refine (raw_is w1.heap.size w1.heap.size v8 X8 A1 ys.length c1 ys w8 V8.out (R1'.out.below D8.out) rfl (by omega) D8.out.size).mono ?_
      intro e w9 hw
      obtain ⟨v9, rfl, h, b⟩ := hw.to' V8.out
      have V9 := Lib.hid h
      have D9 := Lib.hid (D8.out.trans b)
      obtain ⟨X9, hX⟩ : ∃ X, X = X8 ++ ys := ⟨_, rfl⟩
      have hl9 : X9.length ≤ 1139 := by rw [hX]; simp only [List.length_append]; omega
      have HX9 := Lib.hid hX
      rw [← hX] at V9
      clear hw h b hX
      go_wp2_with fail
      refine (bytes_w w1.heap.size w1.heap.size v9 X9 w9 V9.out (by omega)).mono ?_
      rintro e wz ⟨Az, cz, rfl, hoz, hbz⟩
      have OZ := Lib.hid hoz
      have BZ := Lib.hid hbz
      clear hoz hbz
      go_wp2_with fail
      go_ret
      exact got8_of (HD.out.trans (by rw [HX9.out, HX8.out, HX7.out, HX6.out, HX5.out, HX4.out, HX3.out]; simp only [List.nil_append, List.append_assoc, List.append_nil])) OZ.out (T1.out.trans (D9.out.mono (by omega))) BZ.out
    · skip
      have HD := Lib.hid (HBD.out 1 [] (by unfold flg; simp only [HQ.out]; have hp1 : p = 0 := (by omega); simp [hp1]) (by unfold nums; simp only [Int.toNat_natCast]; rw [if_neg hp]))
      clear HBD HQ m9 hsm m1 m6
      go_enter Tryz.func83, Tryz.ntmps83
      go_wp2_with fail
      refine (SHP.out _).mono ?_
      rintro e w1 ⟨A1, c1, rfl, hr1, hb1⟩
      simp only at hr1 ⊢
      have R1 := Lib.hid hr1
      have BX1 := Lib.hid ((RBox.new w ⟨2, o, t, p, s, key, val⟩).below hb1 (by simp))
      have T1 := Lib.hid (((Below.refl w.heap.size w).alloc (Nat.le_refl _) (.cells #[.int .i64 2, .int .i64 o, .int .i64 t, .int .i64 p, .int .i64 s, .string key, .string val] 43)).trans (hb1.mono (by simp)))
      have hz1 : w.heap.size + 1 ≤ w1.heap.size := by have := hb1.size; simpa using this
      clear hr1 hb1
      have R1' := R1
      obtain ⟨x0, x1, x2, x3, x4, x5, x6⟩ := (BX1.out).facts
      simp only at x0 x1 x2 x3 x4 x5 x6
      go_wp2_with fail
      refine (new_is w1).mono ?_
      rintro e w2 ⟨rfl, hw2⟩
      have V2 : Hid (Wr w1.heap.size w2 106 w1.heap.size (.slice none 0 0) []) := Lib.hid (by rw [hw2]; exact new_wr w1.heap.size w1 (Nat.le_refl _))
      have D2 : Hid (Below w1.heap.size w1 w2) := Lib.hid (by rw [hw2]; exact (Below.refl _ _).alloc (Nat.le_refl _) _)
      have hl2 : ([] : List Nat).length ≤ 0 := Nat.le_refl _
      clear hw2
      clear x0 x1 x2 x3 x4 x5 x6
      obtain ⟨x0, x1, x2, x3, x4, x5, x6⟩ := (BX1.out.below D2.out (by omega)).facts
      simp only at x0 x1 x2 x3 x4 x5 x6
      go_wp2_with fail
      refine (byte_is w1.heap.size w1.heap.size (.slice none 0 0) [] 1 w2 V2.out  (by omega) D2.out.size).mono ?_
      intro e w3 hw
      obtain ⟨v3, rfl, h, b⟩ := hw.to' V2.out
      have V3 := Lib.hid h
      have D3 := Lib.hid (D2.out.trans b)
      obtain ⟨X3, hX⟩ : ∃ X, X = [] ++ [1] := ⟨_, rfl⟩
      have hl3 : X3.length ≤ 1 := by rw [hX]; simp only [List.length_append, List.length_cons, List.length_nil, sb_length]; omega
      have HX3 := Lib.hid hX
      rw [← hX] at V3
      clear hw h b hX
      clear x0 x1 x2 x3 x4 x5 x6
      obtain ⟨x0, x1, x2, x3, x4, x5, x6⟩ := (BX1.out.below D3.out (by omega)).facts
      simp only at x0 x1 x2 x3 x4 x5 x6
      go_wp2_with fail
      refine (uvarint_w w1.heap.size w1.heap.size v3 X3 o w3 V3.out (by omega) (by omega) D3.out.size).mono ?_
      intro e w4 hw
      obtain ⟨v4, rfl, h, b⟩ := hw.to' V3.out
      have V4 := Lib.hid h
      have D4 := Lib.hid (D3.out.trans b)
      obtain ⟨X4, hX⟩ : ∃ X, X = X3 ++ Uv.uv o := ⟨_, rfl⟩
      have hl4 : X4.length ≤ 11 := by rw [hX]; simp only [List.length_append, List.length_cons, List.length_nil, sb_length]; omega
      have HX4 := Lib.hid hX
      rw [← hX] at V4
      clear hw h b hX
      clear x0 x1 x2 x3 x4 x5 x6
      obtain ⟨x0, x1, x2, x3, x4, x5, x6⟩ := (BX1.out.below D4.out (by omega)).facts
      simp only at x0 x1 x2 x3 x4 x5 x6
      go_wp2_with fail
      refine (uvarint_w w1.heap.size w1.heap.size v4 X4 t w4 V4.out (by omega) (by omega) D4.out.size).mono ?_
      intro e w5 hw
      obtain ⟨v5, rfl, h, b⟩ := hw.to' V4.out
      have V5 := Lib.hid h
      have D5 := Lib.hid (D4.out.trans b)
      obtain ⟨X5, hX⟩ : ∃ X, X = X4 ++ Uv.uv t := ⟨_, rfl⟩
      have hl5 : X5.length ≤ 21 := by rw [hX]; simp only [List.length_append, List.length_cons, List.length_nil, sb_length]; omega
      have HX5 := Lib.hid hX
      rw [← hX] at V5
      clear hw h b hX
      clear x0 x1 x2 x3 x4 x5 x6
      obtain ⟨x0, x1, x2, x3, x4, x5, x6⟩ := (BX1.out.below D5.out (by omega)).facts
      simp only at x0 x1 x2 x3 x4 x5 x6
      go_wp2_with fail
      refine (text_w w1.heap.size w1.heap.size v5 X5 key w5 V5.out  (by omega) D5.out.size).mono ?_
      intro e w6 hw
      obtain ⟨v6, rfl, h, b⟩ := hw.to' V5.out
      have V6 := Lib.hid h
      have D6 := Lib.hid (D5.out.trans b)
      obtain ⟨X6, hX⟩ : ∃ X, X = X5 ++ (Uv.uv key.size ++ sb key) := ⟨_, rfl⟩
      have hl6 : X6.length ≤ 95 := by rw [hX]; simp only [List.length_append, List.length_cons, List.length_nil, sb_length]; omega
      have HX6 := Lib.hid hX
      rw [List.append_assoc, ← hX] at V6
      clear hw h b hX
      clear x0 x1 x2 x3 x4 x5 x6
      obtain ⟨x0, x1, x2, x3, x4, x5, x6⟩ := (BX1.out.below D6.out (by omega)).facts
      simp only at x0 x1 x2 x3 x4 x5 x6
      go_wp2_with fail
      refine (raw_is w1.heap.size w1.heap.size v6 X6 A1 ys.length c1 ys w6 V6.out (R1'.out.below D6.out) rfl (by omega) D6.out.size).mono ?_
      intro e w7 hw
      obtain ⟨v7, rfl, h, b⟩ := hw.to' V6.out
      have V7 := Lib.hid h
      have D7 := Lib.hid (D6.out.trans b)
      obtain ⟨X7, hX⟩ : ∃ X, X = X6 ++ ys := ⟨_, rfl⟩
      have hl7 : X7.length ≤ 1119 := by rw [hX]; simp only [List.length_append]; omega
      have HX7 := Lib.hid hX
      rw [← hX] at V7
      clear hw h b hX
      go_wp2_with fail
      refine (bytes_w w1.heap.size w1.heap.size v7 X7 w7 V7.out (by omega)).mono ?_
      rintro e wz ⟨Az, cz, rfl, hoz, hbz⟩
      have OZ := Lib.hid hoz
      have BZ := Lib.hid hbz
      clear hoz hbz
      go_wp2_with fail
      go_ret
      exact got8_of (HD.out.trans (by rw [HX7.out, HX6.out, HX5.out, HX4.out, HX3.out]; simp only [List.nil_append, List.append_assoc, List.append_nil])) OZ.out (T1.out.trans (D7.out.mono (by omega))) BZ.out
  · have k1 : (k == 2) = false := by rw [beq_eq_false_iff_ne]; exact kk
    cases sm with
    | false =>
      by_cases hp : (0 : Int) < (p : Int)
      · skip
        have HD := Lib.hid (HBD.out 4 (Uv.uv p ++ Uv.uv s) (by unfold flg; simp only [HQ.out]; have hp1 : 0 < p := (by omega); simp [hp1, kk]) (by unfold nums; simp only [Int.toNat_natCast]; rw [if_pos hp]))
        clear HBD HQ m9 hsm m1 m6
        go_enter Tryz.func83, Tryz.ntmps83
        go_wp2_with fail
        refine (SHP.out _).mono ?_
        rintro e w1 ⟨A1, c1, rfl, hr1, hb1⟩
        simp only at hr1 ⊢
        have R1 := Lib.hid hr1
        have BX1 := Lib.hid ((RBox.new w ⟨k, o, t, p, s, key, val⟩).below hb1 (by simp))
        have T1 := Lib.hid (((Below.refl w.heap.size w).alloc (Nat.le_refl _) (.cells #[.int .i64 k, .int .i64 o, .int .i64 t, .int .i64 p, .int .i64 s, .string key, .string val] 43)).trans (hb1.mono (by simp)))
        have hz1 : w.heap.size + 1 ≤ w1.heap.size := by have := hb1.size; simpa using this
        clear hr1 hb1
        have R1' := R1
        obtain ⟨x0, x1, x2, x3, x4, x5, x6⟩ := (BX1.out).facts
        simp only at x0 x1 x2 x3 x4 x5 x6
        go_wp2_with fail
        refine (new_is w1).mono ?_
        rintro e w2 ⟨rfl, hw2⟩
        have V2 : Hid (Wr w1.heap.size w2 106 w1.heap.size (.slice none 0 0) []) := Lib.hid (by rw [hw2]; exact new_wr w1.heap.size w1 (Nat.le_refl _))
        have D2 : Hid (Below w1.heap.size w1 w2) := Lib.hid (by rw [hw2]; exact (Below.refl _ _).alloc (Nat.le_refl _) _)
        have hl2 : ([] : List Nat).length ≤ 0 := Nat.le_refl _
        clear hw2
        clear x0 x1 x2 x3 x4 x5 x6
        obtain ⟨x0, x1, x2, x3, x4, x5, x6⟩ := (BX1.out.below D2.out (by omega)).facts
        simp only at x0 x1 x2 x3 x4 x5 x6
        go_wp2_with fail
        refine (byte_is w1.heap.size w1.heap.size (.slice none 0 0) [] 4 w2 V2.out  (by omega) D2.out.size).mono ?_
        intro e w3 hw
        obtain ⟨v3, rfl, h, b⟩ := hw.to' V2.out
        have V3 := Lib.hid h
        have D3 := Lib.hid (D2.out.trans b)
        obtain ⟨X3, hX⟩ : ∃ X, X = [] ++ [4] := ⟨_, rfl⟩
        have hl3 : X3.length ≤ 1 := by rw [hX]; simp only [List.length_append, List.length_cons, List.length_nil, sb_length]; omega
        have HX3 := Lib.hid hX
        rw [← hX] at V3
        clear hw h b hX
        clear x0 x1 x2 x3 x4 x5 x6
        obtain ⟨x0, x1, x2, x3, x4, x5, x6⟩ := (BX1.out.below D3.out (by omega)).facts
        simp only at x0 x1 x2 x3 x4 x5 x6
        go_wp2_with fail
        refine (uvarint_w w1.heap.size w1.heap.size v3 X3 o w3 V3.out (by omega) (by omega) D3.out.size).mono ?_
        intro e w4 hw
        obtain ⟨v4, rfl, h, b⟩ := hw.to' V3.out
        have V4 := Lib.hid h
        have D4 := Lib.hid (D3.out.trans b)
        obtain ⟨X4, hX⟩ : ∃ X, X = X3 ++ Uv.uv o := ⟨_, rfl⟩
        have hl4 : X4.length ≤ 11 := by rw [hX]; simp only [List.length_append, List.length_cons, List.length_nil, sb_length]; omega
        have HX4 := Lib.hid hX
        rw [← hX] at V4
        clear hw h b hX
        clear x0 x1 x2 x3 x4 x5 x6
        obtain ⟨x0, x1, x2, x3, x4, x5, x6⟩ := (BX1.out.below D4.out (by omega)).facts
        simp only at x0 x1 x2 x3 x4 x5 x6
        go_wp2_with fail
        refine (uvarint_w w1.heap.size w1.heap.size v4 X4 t w4 V4.out (by omega) (by omega) D4.out.size).mono ?_
        intro e w5 hw
        obtain ⟨v5, rfl, h, b⟩ := hw.to' V4.out
        have V5 := Lib.hid h
        have D5 := Lib.hid (D4.out.trans b)
        obtain ⟨X5, hX⟩ : ∃ X, X = X4 ++ Uv.uv t := ⟨_, rfl⟩
        have hl5 : X5.length ≤ 21 := by rw [hX]; simp only [List.length_append, List.length_cons, List.length_nil, sb_length]; omega
        have HX5 := Lib.hid hX
        rw [← hX] at V5
        clear hw h b hX
        clear x0 x1 x2 x3 x4 x5 x6
        obtain ⟨x0, x1, x2, x3, x4, x5, x6⟩ := (BX1.out.below D5.out (by omega)).facts
        simp only at x0 x1 x2 x3 x4 x5 x6
        go_wp2_with fail
        refine (uvarint_w w1.heap.size w1.heap.size v5 X5 p w5 V5.out (by omega) (by omega) D5.out.size).mono ?_
        intro e w6 hw
        obtain ⟨v6, rfl, h, b⟩ := hw.to' V5.out
        have V6 := Lib.hid h
        have D6 := Lib.hid (D5.out.trans b)
        obtain ⟨X6, hX⟩ : ∃ X, X = X5 ++ Uv.uv p := ⟨_, rfl⟩
        have hl6 : X6.length ≤ 31 := by rw [hX]; simp only [List.length_append, List.length_cons, List.length_nil, sb_length]; omega
        have HX6 := Lib.hid hX
        rw [← hX] at V6
        clear hw h b hX
        clear x0 x1 x2 x3 x4 x5 x6
        obtain ⟨x0, x1, x2, x3, x4, x5, x6⟩ := (BX1.out.below D6.out (by omega)).facts
        simp only at x0 x1 x2 x3 x4 x5 x6
        go_wp2_with fail
        refine (uvarint_w w1.heap.size w1.heap.size v6 X6 s w6 V6.out (by omega) (by omega) D6.out.size).mono ?_
        intro e w7 hw
        obtain ⟨v7, rfl, h, b⟩ := hw.to' V6.out
        have V7 := Lib.hid h
        have D7 := Lib.hid (D6.out.trans b)
        obtain ⟨X7, hX⟩ : ∃ X, X = X6 ++ Uv.uv s := ⟨_, rfl⟩
        have hl7 : X7.length ≤ 41 := by rw [hX]; simp only [List.length_append, List.length_cons, List.length_nil, sb_length]; omega
        have HX7 := Lib.hid hX
        rw [← hX] at V7
        clear hw h b hX
        clear x0 x1 x2 x3 x4 x5 x6
        obtain ⟨x0, x1, x2, x3, x4, x5, x6⟩ := (BX1.out.below D7.out (by omega)).facts
        simp only at x0 x1 x2 x3 x4 x5 x6
        go_wp2_with fail
        refine (text_w w1.heap.size w1.heap.size v7 X7 key w7 V7.out  (by omega) D7.out.size).mono ?_
        intro e w8 hw
        obtain ⟨v8, rfl, h, b⟩ := hw.to' V7.out
        have V8 := Lib.hid h
        have D8 := Lib.hid (D7.out.trans b)
        obtain ⟨X8, hX⟩ : ∃ X, X = X7 ++ (Uv.uv key.size ++ sb key) := ⟨_, rfl⟩
        have hl8 : X8.length ≤ 115 := by rw [hX]; simp only [List.length_append, List.length_cons, List.length_nil, sb_length]; omega
        have HX8 := Lib.hid hX
        rw [List.append_assoc, ← hX] at V8
        clear hw h b hX
        clear x0 x1 x2 x3 x4 x5 x6
        obtain ⟨x0, x1, x2, x3, x4, x5, x6⟩ := (BX1.out.below D8.out (by omega)).facts
        simp only at x0 x1 x2 x3 x4 x5 x6
        go_wp2_with fail
        refine (raw_is w1.heap.size w1.heap.size v8 X8 A1 ys.length c1 ys w8 V8.out (R1'.out.below D8.out) rfl (by omega) D8.out.size).mono ?_
        intro e w9 hw
        obtain ⟨v9, rfl, h, b⟩ := hw.to' V8.out
        have V9 := Lib.hid h
        have D9 := Lib.hid (D8.out.trans b)
        obtain ⟨X9, hX⟩ : ∃ X, X = X8 ++ ys := ⟨_, rfl⟩
        have hl9 : X9.length ≤ 1139 := by rw [hX]; simp only [List.length_append]; omega
        have HX9 := Lib.hid hX
        rw [← hX] at V9
        clear hw h b hX
        go_wp2_with fail
        refine (bytes_w w1.heap.size w1.heap.size v9 X9 w9 V9.out (by omega)).mono ?_
        rintro e wz ⟨Az, cz, rfl, hoz, hbz⟩
        have OZ := Lib.hid hoz
        have BZ := Lib.hid hbz
        clear hoz hbz
        go_wp2_with fail
        go_ret
        exact got8_of (HD.out.trans (by rw [HX9.out, HX8.out, HX7.out, HX6.out, HX5.out, HX4.out, HX3.out]; simp only [List.nil_append, List.append_assoc, List.append_nil])) OZ.out (T1.out.trans (D9.out.mono (by omega))) BZ.out
      · skip
        have HD := Lib.hid (HBD.out 0 [] (by unfold flg; simp only [HQ.out]; have hp1 : p = 0 := (by omega); simp [hp1, kk]) (by unfold nums; simp only [Int.toNat_natCast]; rw [if_neg hp]))
        clear HBD HQ m9 hsm m1 m6
        go_enter Tryz.func83, Tryz.ntmps83
        go_wp2_with fail
        refine (SHP.out _).mono ?_
        rintro e w1 ⟨A1, c1, rfl, hr1, hb1⟩
        simp only at hr1 ⊢
        have R1 := Lib.hid hr1
        have BX1 := Lib.hid ((RBox.new w ⟨k, o, t, p, s, key, val⟩).below hb1 (by simp))
        have T1 := Lib.hid (((Below.refl w.heap.size w).alloc (Nat.le_refl _) (.cells #[.int .i64 k, .int .i64 o, .int .i64 t, .int .i64 p, .int .i64 s, .string key, .string val] 43)).trans (hb1.mono (by simp)))
        have hz1 : w.heap.size + 1 ≤ w1.heap.size := by have := hb1.size; simpa using this
        clear hr1 hb1
        have R1' := R1
        obtain ⟨x0, x1, x2, x3, x4, x5, x6⟩ := (BX1.out).facts
        simp only at x0 x1 x2 x3 x4 x5 x6
        go_wp2_with fail
        refine (new_is w1).mono ?_
        rintro e w2 ⟨rfl, hw2⟩
        have V2 : Hid (Wr w1.heap.size w2 106 w1.heap.size (.slice none 0 0) []) := Lib.hid (by rw [hw2]; exact new_wr w1.heap.size w1 (Nat.le_refl _))
        have D2 : Hid (Below w1.heap.size w1 w2) := Lib.hid (by rw [hw2]; exact (Below.refl _ _).alloc (Nat.le_refl _) _)
        have hl2 : ([] : List Nat).length ≤ 0 := Nat.le_refl _
        clear hw2
        clear x0 x1 x2 x3 x4 x5 x6
        obtain ⟨x0, x1, x2, x3, x4, x5, x6⟩ := (BX1.out.below D2.out (by omega)).facts
        simp only at x0 x1 x2 x3 x4 x5 x6
        go_wp2_with fail
        refine (byte_is w1.heap.size w1.heap.size (.slice none 0 0) [] 0 w2 V2.out  (by omega) D2.out.size).mono ?_
        intro e w3 hw
        obtain ⟨v3, rfl, h, b⟩ := hw.to' V2.out
        have V3 := Lib.hid h
        have D3 := Lib.hid (D2.out.trans b)
        obtain ⟨X3, hX⟩ : ∃ X, X = [] ++ [0] := ⟨_, rfl⟩
        have hl3 : X3.length ≤ 1 := by rw [hX]; simp only [List.length_append, List.length_cons, List.length_nil, sb_length]; omega
        have HX3 := Lib.hid hX
        rw [← hX] at V3
        clear hw h b hX
        clear x0 x1 x2 x3 x4 x5 x6
        obtain ⟨x0, x1, x2, x3, x4, x5, x6⟩ := (BX1.out.below D3.out (by omega)).facts
        simp only at x0 x1 x2 x3 x4 x5 x6
        go_wp2_with fail
        refine (uvarint_w w1.heap.size w1.heap.size v3 X3 o w3 V3.out (by omega) (by omega) D3.out.size).mono ?_
        intro e w4 hw
        obtain ⟨v4, rfl, h, b⟩ := hw.to' V3.out
        have V4 := Lib.hid h
        have D4 := Lib.hid (D3.out.trans b)
        obtain ⟨X4, hX⟩ : ∃ X, X = X3 ++ Uv.uv o := ⟨_, rfl⟩
        have hl4 : X4.length ≤ 11 := by rw [hX]; simp only [List.length_append, List.length_cons, List.length_nil, sb_length]; omega
        have HX4 := Lib.hid hX
        rw [← hX] at V4
        clear hw h b hX
        clear x0 x1 x2 x3 x4 x5 x6
        obtain ⟨x0, x1, x2, x3, x4, x5, x6⟩ := (BX1.out.below D4.out (by omega)).facts
        simp only at x0 x1 x2 x3 x4 x5 x6
        go_wp2_with fail
        refine (uvarint_w w1.heap.size w1.heap.size v4 X4 t w4 V4.out (by omega) (by omega) D4.out.size).mono ?_
        intro e w5 hw
        obtain ⟨v5, rfl, h, b⟩ := hw.to' V4.out
        have V5 := Lib.hid h
        have D5 := Lib.hid (D4.out.trans b)
        obtain ⟨X5, hX⟩ : ∃ X, X = X4 ++ Uv.uv t := ⟨_, rfl⟩
        have hl5 : X5.length ≤ 21 := by rw [hX]; simp only [List.length_append, List.length_cons, List.length_nil, sb_length]; omega
        have HX5 := Lib.hid hX
        rw [← hX] at V5
        clear hw h b hX
        clear x0 x1 x2 x3 x4 x5 x6
        obtain ⟨x0, x1, x2, x3, x4, x5, x6⟩ := (BX1.out.below D5.out (by omega)).facts
        simp only at x0 x1 x2 x3 x4 x5 x6
        go_wp2_with fail
        refine (text_w w1.heap.size w1.heap.size v5 X5 key w5 V5.out  (by omega) D5.out.size).mono ?_
        intro e w6 hw
        obtain ⟨v6, rfl, h, b⟩ := hw.to' V5.out
        have V6 := Lib.hid h
        have D6 := Lib.hid (D5.out.trans b)
        obtain ⟨X6, hX⟩ : ∃ X, X = X5 ++ (Uv.uv key.size ++ sb key) := ⟨_, rfl⟩
        have hl6 : X6.length ≤ 95 := by rw [hX]; simp only [List.length_append, List.length_cons, List.length_nil, sb_length]; omega
        have HX6 := Lib.hid hX
        rw [List.append_assoc, ← hX] at V6
        clear hw h b hX
        clear x0 x1 x2 x3 x4 x5 x6
        obtain ⟨x0, x1, x2, x3, x4, x5, x6⟩ := (BX1.out.below D6.out (by omega)).facts
        simp only at x0 x1 x2 x3 x4 x5 x6
        go_wp2_with fail
        refine (raw_is w1.heap.size w1.heap.size v6 X6 A1 ys.length c1 ys w6 V6.out (R1'.out.below D6.out) rfl (by omega) D6.out.size).mono ?_
        intro e w7 hw
        obtain ⟨v7, rfl, h, b⟩ := hw.to' V6.out
        have V7 := Lib.hid h
        have D7 := Lib.hid (D6.out.trans b)
        obtain ⟨X7, hX⟩ : ∃ X, X = X6 ++ ys := ⟨_, rfl⟩
        have hl7 : X7.length ≤ 1119 := by rw [hX]; simp only [List.length_append]; omega
        have HX7 := Lib.hid hX
        rw [← hX] at V7
        clear hw h b hX
        go_wp2_with fail
        refine (bytes_w w1.heap.size w1.heap.size v7 X7 w7 V7.out (by omega)).mono ?_
        rintro e wz ⟨Az, cz, rfl, hoz, hbz⟩
        have OZ := Lib.hid hoz
        have BZ := Lib.hid hbz
        clear hoz hbz
        go_wp2_with fail
        go_ret
        exact got8_of (HD.out.trans (by rw [HX7.out, HX6.out, HX5.out, HX4.out, HX3.out]; simp only [List.nil_append, List.append_assoc, List.append_nil])) OZ.out (T1.out.trans (D7.out.mono (by omega))) BZ.out
    | true =>
      by_cases hp : (0 : Int) < (p : Int)
      · skip
        have HD := Lib.hid (HBD.out 6 (Uv.uv p ++ Uv.uv s) (by unfold flg; simp only [HQ.out]; have hp1 : 0 < p := (by omega); simp [hp1, kk]) (by unfold nums; simp only [Int.toNat_natCast]; rw [if_pos hp]))
        clear HBD HQ m9 hsm m1 m6
        go_enter Tryz.func83, Tryz.ntmps83
        go_wp2_with fail
        refine (SHP.out _).mono ?_
        rintro e w1 ⟨A1, c1, rfl, hr1, hb1⟩
        simp only at hr1 ⊢
        have R1 := Lib.hid hr1
        have BX1 := Lib.hid ((RBox.new w ⟨k, o, t, p, s, key, val⟩).below hb1 (by simp))
        have T1 := Lib.hid (((Below.refl w.heap.size w).alloc (Nat.le_refl _) (.cells #[.int .i64 k, .int .i64 o, .int .i64 t, .int .i64 p, .int .i64 s, .string key, .string val] 43)).trans (hb1.mono (by simp)))
        have hz1 : w.heap.size + 1 ≤ w1.heap.size := by have := hb1.size; simpa using this
        clear hr1 hb1
        have R1' := R1
        obtain ⟨x0, x1, x2, x3, x4, x5, x6⟩ := (BX1.out).facts
        simp only at x0 x1 x2 x3 x4 x5 x6
        go_wp2_with fail
        refine (new_is w1).mono ?_
        rintro e w2 ⟨rfl, hw2⟩
        have V2 : Hid (Wr w1.heap.size w2 106 w1.heap.size (.slice none 0 0) []) := Lib.hid (by rw [hw2]; exact new_wr w1.heap.size w1 (Nat.le_refl _))
        have D2 : Hid (Below w1.heap.size w1 w2) := Lib.hid (by rw [hw2]; exact (Below.refl _ _).alloc (Nat.le_refl _) _)
        have hl2 : ([] : List Nat).length ≤ 0 := Nat.le_refl _
        clear hw2
        clear x0 x1 x2 x3 x4 x5 x6
        obtain ⟨x0, x1, x2, x3, x4, x5, x6⟩ := (BX1.out.below D2.out (by omega)).facts
        simp only at x0 x1 x2 x3 x4 x5 x6
        go_wp2_with fail
        refine (byte_is w1.heap.size w1.heap.size (.slice none 0 0) [] 6 w2 V2.out  (by omega) D2.out.size).mono ?_
        intro e w3 hw
        obtain ⟨v3, rfl, h, b⟩ := hw.to' V2.out
        have V3 := Lib.hid h
        have D3 := Lib.hid (D2.out.trans b)
        obtain ⟨X3, hX⟩ : ∃ X, X = [] ++ [6] := ⟨_, rfl⟩
        have hl3 : X3.length ≤ 1 := by rw [hX]; simp only [List.length_append, List.length_cons, List.length_nil, sb_length]; omega
        have HX3 := Lib.hid hX
        rw [← hX] at V3
        clear hw h b hX
        clear x0 x1 x2 x3 x4 x5 x6
        obtain ⟨x0, x1, x2, x3, x4, x5, x6⟩ := (BX1.out.below D3.out (by omega)).facts
        simp only at x0 x1 x2 x3 x4 x5 x6
        go_wp2_with fail
        refine (uvarint_w w1.heap.size w1.heap.size v3 X3 o w3 V3.out (by omega) (by omega) D3.out.size).mono ?_
        intro e w4 hw
        obtain ⟨v4, rfl, h, b⟩ := hw.to' V3.out
        have V4 := Lib.hid h
        have D4 := Lib.hid (D3.out.trans b)
        obtain ⟨X4, hX⟩ : ∃ X, X = X3 ++ Uv.uv o := ⟨_, rfl⟩
        have hl4 : X4.length ≤ 11 := by rw [hX]; simp only [List.length_append, List.length_cons, List.length_nil, sb_length]; omega
        have HX4 := Lib.hid hX
        rw [← hX] at V4
        clear hw h b hX
        clear x0 x1 x2 x3 x4 x5 x6
        obtain ⟨x0, x1, x2, x3, x4, x5, x6⟩ := (BX1.out.below D4.out (by omega)).facts
        simp only at x0 x1 x2 x3 x4 x5 x6
        go_wp2_with fail
        refine (uvarint_w w1.heap.size w1.heap.size v4 X4 t w4 V4.out (by omega) (by omega) D4.out.size).mono ?_
        intro e w5 hw
        obtain ⟨v5, rfl, h, b⟩ := hw.to' V4.out
        have V5 := Lib.hid h
        have D5 := Lib.hid (D4.out.trans b)
        obtain ⟨X5, hX⟩ : ∃ X, X = X4 ++ Uv.uv t := ⟨_, rfl⟩
        have hl5 : X5.length ≤ 21 := by rw [hX]; simp only [List.length_append, List.length_cons, List.length_nil, sb_length]; omega
        have HX5 := Lib.hid hX
        rw [← hX] at V5
        clear hw h b hX
        clear x0 x1 x2 x3 x4 x5 x6
        obtain ⟨x0, x1, x2, x3, x4, x5, x6⟩ := (BX1.out.below D5.out (by omega)).facts
        simp only at x0 x1 x2 x3 x4 x5 x6
        go_wp2_with fail
        refine (uvarint_w w1.heap.size w1.heap.size v5 X5 p w5 V5.out (by omega) (by omega) D5.out.size).mono ?_
        intro e w6 hw
        obtain ⟨v6, rfl, h, b⟩ := hw.to' V5.out
        have V6 := Lib.hid h
        have D6 := Lib.hid (D5.out.trans b)
        obtain ⟨X6, hX⟩ : ∃ X, X = X5 ++ Uv.uv p := ⟨_, rfl⟩
        have hl6 : X6.length ≤ 31 := by rw [hX]; simp only [List.length_append, List.length_cons, List.length_nil, sb_length]; omega
        have HX6 := Lib.hid hX
        rw [← hX] at V6
        clear hw h b hX
        clear x0 x1 x2 x3 x4 x5 x6
        obtain ⟨x0, x1, x2, x3, x4, x5, x6⟩ := (BX1.out.below D6.out (by omega)).facts
        simp only at x0 x1 x2 x3 x4 x5 x6
        go_wp2_with fail
        refine (uvarint_w w1.heap.size w1.heap.size v6 X6 s w6 V6.out (by omega) (by omega) D6.out.size).mono ?_
        intro e w7 hw
        obtain ⟨v7, rfl, h, b⟩ := hw.to' V6.out
        have V7 := Lib.hid h
        have D7 := Lib.hid (D6.out.trans b)
        obtain ⟨X7, hX⟩ : ∃ X, X = X6 ++ Uv.uv s := ⟨_, rfl⟩
        have hl7 : X7.length ≤ 41 := by rw [hX]; simp only [List.length_append, List.length_cons, List.length_nil, sb_length]; omega
        have HX7 := Lib.hid hX
        rw [← hX] at V7
        clear hw h b hX
        clear x0 x1 x2 x3 x4 x5 x6
        obtain ⟨x0, x1, x2, x3, x4, x5, x6⟩ := (BX1.out.below D7.out (by omega)).facts
        simp only at x0 x1 x2 x3 x4 x5 x6
        go_wp2_with fail
        refine (text_w w1.heap.size w1.heap.size v7 X7 key w7 V7.out  (by omega) D7.out.size).mono ?_
        intro e w8 hw
        obtain ⟨v8, rfl, h, b⟩ := hw.to' V7.out
        have V8 := Lib.hid h
        have D8 := Lib.hid (D7.out.trans b)
        obtain ⟨X8, hX⟩ : ∃ X, X = X7 ++ (Uv.uv key.size ++ sb key) := ⟨_, rfl⟩
        have hl8 : X8.length ≤ 115 := by rw [hX]; simp only [List.length_append, List.length_cons, List.length_nil, sb_length]; omega
        have HX8 := Lib.hid hX
        rw [List.append_assoc, ← hX] at V8
        clear hw h b hX
        clear x0 x1 x2 x3 x4 x5 x6
        obtain ⟨x0, x1, x2, x3, x4, x5, x6⟩ := (BX1.out.below D8.out (by omega)).facts
        simp only at x0 x1 x2 x3 x4 x5 x6
        go_wp2_with fail
        refine (raw_is w1.heap.size w1.heap.size v8 X8 A1 ys.length c1 ys w8 V8.out (R1'.out.below D8.out) rfl (by omega) D8.out.size).mono ?_
        intro e w9 hw
        obtain ⟨v9, rfl, h, b⟩ := hw.to' V8.out
        have V9 := Lib.hid h
        have D9 := Lib.hid (D8.out.trans b)
        obtain ⟨X9, hX⟩ : ∃ X, X = X8 ++ ys := ⟨_, rfl⟩
        have hl9 : X9.length ≤ 1139 := by rw [hX]; simp only [List.length_append]; omega
        have HX9 := Lib.hid hX
        rw [← hX] at V9
        clear hw h b hX
        go_wp2_with fail
        refine (bytes_w w1.heap.size w1.heap.size v9 X9 w9 V9.out (by omega)).mono ?_
        rintro e wz ⟨Az, cz, rfl, hoz, hbz⟩
        have OZ := Lib.hid hoz
        have BZ := Lib.hid hbz
        clear hoz hbz
        go_wp2_with fail
        go_ret
        exact got8_of (HD.out.trans (by rw [HX9.out, HX8.out, HX7.out, HX6.out, HX5.out, HX4.out, HX3.out]; simp only [List.nil_append, List.append_assoc, List.append_nil])) OZ.out (T1.out.trans (D9.out.mono (by omega))) BZ.out
      · skip
        have HD := Lib.hid (HBD.out 2 [] (by unfold flg; simp only [HQ.out]; have hp1 : p = 0 := (by omega); simp [hp1, kk]) (by unfold nums; simp only [Int.toNat_natCast]; rw [if_neg hp]))
        clear HBD HQ m9 hsm m1 m6
        go_enter Tryz.func83, Tryz.ntmps83
        go_wp2_with fail
        refine (SHP.out _).mono ?_
        rintro e w1 ⟨A1, c1, rfl, hr1, hb1⟩
        simp only at hr1 ⊢
        have R1 := Lib.hid hr1
        have BX1 := Lib.hid ((RBox.new w ⟨k, o, t, p, s, key, val⟩).below hb1 (by simp))
        have T1 := Lib.hid (((Below.refl w.heap.size w).alloc (Nat.le_refl _) (.cells #[.int .i64 k, .int .i64 o, .int .i64 t, .int .i64 p, .int .i64 s, .string key, .string val] 43)).trans (hb1.mono (by simp)))
        have hz1 : w.heap.size + 1 ≤ w1.heap.size := by have := hb1.size; simpa using this
        clear hr1 hb1
        have R1' := R1
        obtain ⟨x0, x1, x2, x3, x4, x5, x6⟩ := (BX1.out).facts
        simp only at x0 x1 x2 x3 x4 x5 x6
        go_wp2_with fail
        refine (new_is w1).mono ?_
        rintro e w2 ⟨rfl, hw2⟩
        have V2 : Hid (Wr w1.heap.size w2 106 w1.heap.size (.slice none 0 0) []) := Lib.hid (by rw [hw2]; exact new_wr w1.heap.size w1 (Nat.le_refl _))
        have D2 : Hid (Below w1.heap.size w1 w2) := Lib.hid (by rw [hw2]; exact (Below.refl _ _).alloc (Nat.le_refl _) _)
        have hl2 : ([] : List Nat).length ≤ 0 := Nat.le_refl _
        clear hw2
        clear x0 x1 x2 x3 x4 x5 x6
        obtain ⟨x0, x1, x2, x3, x4, x5, x6⟩ := (BX1.out.below D2.out (by omega)).facts
        simp only at x0 x1 x2 x3 x4 x5 x6
        go_wp2_with fail
        refine (byte_is w1.heap.size w1.heap.size (.slice none 0 0) [] 2 w2 V2.out  (by omega) D2.out.size).mono ?_
        intro e w3 hw
        obtain ⟨v3, rfl, h, b⟩ := hw.to' V2.out
        have V3 := Lib.hid h
        have D3 := Lib.hid (D2.out.trans b)
        obtain ⟨X3, hX⟩ : ∃ X, X = [] ++ [2] := ⟨_, rfl⟩
        have hl3 : X3.length ≤ 1 := by rw [hX]; simp only [List.length_append, List.length_cons, List.length_nil, sb_length]; omega
        have HX3 := Lib.hid hX
        rw [← hX] at V3
        clear hw h b hX
        clear x0 x1 x2 x3 x4 x5 x6
        obtain ⟨x0, x1, x2, x3, x4, x5, x6⟩ := (BX1.out.below D3.out (by omega)).facts
        simp only at x0 x1 x2 x3 x4 x5 x6
        go_wp2_with fail
        refine (uvarint_w w1.heap.size w1.heap.size v3 X3 o w3 V3.out (by omega) (by omega) D3.out.size).mono ?_
        intro e w4 hw
        obtain ⟨v4, rfl, h, b⟩ := hw.to' V3.out
        have V4 := Lib.hid h
        have D4 := Lib.hid (D3.out.trans b)
        obtain ⟨X4, hX⟩ : ∃ X, X = X3 ++ Uv.uv o := ⟨_, rfl⟩
        have hl4 : X4.length ≤ 11 := by rw [hX]; simp only [List.length_append, List.length_cons, List.length_nil, sb_length]; omega
        have HX4 := Lib.hid hX
        rw [← hX] at V4
        clear hw h b hX
        clear x0 x1 x2 x3 x4 x5 x6
        obtain ⟨x0, x1, x2, x3, x4, x5, x6⟩ := (BX1.out.below D4.out (by omega)).facts
        simp only at x0 x1 x2 x3 x4 x5 x6
        go_wp2_with fail
        refine (uvarint_w w1.heap.size w1.heap.size v4 X4 t w4 V4.out (by omega) (by omega) D4.out.size).mono ?_
        intro e w5 hw
        obtain ⟨v5, rfl, h, b⟩ := hw.to' V4.out
        have V5 := Lib.hid h
        have D5 := Lib.hid (D4.out.trans b)
        obtain ⟨X5, hX⟩ : ∃ X, X = X4 ++ Uv.uv t := ⟨_, rfl⟩
        have hl5 : X5.length ≤ 21 := by rw [hX]; simp only [List.length_append, List.length_cons, List.length_nil, sb_length]; omega
        have HX5 := Lib.hid hX
        rw [← hX] at V5
        clear hw h b hX
        clear x0 x1 x2 x3 x4 x5 x6
        obtain ⟨x0, x1, x2, x3, x4, x5, x6⟩ := (BX1.out.below D5.out (by omega)).facts
        simp only at x0 x1 x2 x3 x4 x5 x6
        go_wp2_with fail
        refine (text_w w1.heap.size w1.heap.size v5 X5 key w5 V5.out  (by omega) D5.out.size).mono ?_
        intro e w6 hw
        obtain ⟨v6, rfl, h, b⟩ := hw.to' V5.out
        have V6 := Lib.hid h
        have D6 := Lib.hid (D5.out.trans b)
        obtain ⟨X6, hX⟩ : ∃ X, X = X5 ++ (Uv.uv key.size ++ sb key) := ⟨_, rfl⟩
        have hl6 : X6.length ≤ 95 := by rw [hX]; simp only [List.length_append, List.length_cons, List.length_nil, sb_length]; omega
        have HX6 := Lib.hid hX
        rw [List.append_assoc, ← hX] at V6
        clear hw h b hX
        clear x0 x1 x2 x3 x4 x5 x6
        obtain ⟨x0, x1, x2, x3, x4, x5, x6⟩ := (BX1.out.below D6.out (by omega)).facts
        simp only at x0 x1 x2 x3 x4 x5 x6
        go_wp2_with fail
        refine (raw_is w1.heap.size w1.heap.size v6 X6 A1 ys.length c1 ys w6 V6.out (R1'.out.below D6.out) rfl (by omega) D6.out.size).mono ?_
        intro e w7 hw
        obtain ⟨v7, rfl, h, b⟩ := hw.to' V6.out
        have V7 := Lib.hid h
        have D7 := Lib.hid (D6.out.trans b)
        obtain ⟨X7, hX⟩ : ∃ X, X = X6 ++ ys := ⟨_, rfl⟩
        have hl7 : X7.length ≤ 1119 := by rw [hX]; simp only [List.length_append]; omega
        have HX7 := Lib.hid hX
        rw [← hX] at V7
        clear hw h b hX
        go_wp2_with fail
        refine (bytes_w w1.heap.size w1.heap.size v7 X7 w7 V7.out (by omega)).mono ?_
        rintro e wz ⟨Az, cz, rfl, hoz, hbz⟩
        have OZ := Lib.hid hoz
        have BZ := Lib.hid hbz
        clear hoz hbz
        go_wp2_with fail
        go_ret
        exact got8_of (HD.out.trans (by rw [HX7.out, HX6.out, HX5.out, HX4.out, HX3.out]; simp only [List.nil_append, List.append_assoc, List.append_nil])) OZ.out (T1.out.trans (D7.out.mono (by omega))) BZ.out
end Go.Proofs.YtljfmcgeiceagaaGreat

/- The body of a record: the document (printed by gen_rcbody.py). -/
namespace Go.Proofs.YtljfmcgeiceagaaGreat
open Go Go.RowKit
set_option linter.unusedVariables false
set_option linter.unusedSimpArgs false

set_option maxHeartbeats 2000000 in
set_option maxRecDepth 100000 in
theorem rrecbody_2ftt (x : Rc) (w : World) (hm : May x) (kk : x.k = 2) (c2 : (shrt (sb x.val)).2 = false) (hp : 0 < x.p) (c4 : (enc (sb x.val)).2 = 0) : Calls Tryz.prog 97 #[x.v] w fun e w' => Got8 w w' e (bdy x) := by
  obtain ⟨k, o, t, p, s, key, val⟩ := x
  obtain ⟨m1, m2, m3, m4, m5, m6, m7, m8, m9⟩ := hm
  simp only at m1 m2 m3 m4 m5 m6 m7 m8 m9
  obtain ⟨o, rfl⟩ : ∃ n : Nat, o = (n : Int) := ⟨o.toNat, by omega⟩
  obtain ⟨t, rfl⟩ : ∃ n : Nat, t = (n : Int) := ⟨t.toNat, by omega⟩
  obtain ⟨p, rfl⟩ : ∃ n : Nat, p = (n : Int) := ⟨p.toNat, by omega⟩
  obtain ⟨s, rfl⟩ : ∃ n : Nat, s = (n : Int) := ⟨s.toNat, by omega⟩
  obtain ⟨q, hq⟩ : ∃ q, shrt (sb val) = q := ⟨_, rfl⟩
  obtain ⟨ys, sm⟩ := q
  have hyl : ys.length ≤ 1024 := by have h := shrt_len (sb val); rw [hq, sb_length] at h; simp only at h; omega
  have hsm : k = 2 → sm = false := fun h => by
    have h0 := m9 h
    cases sm with
    | false => rfl
    | true =>
      have h1 := hq
      unfold shrt at h1
      rw [sb_length, h0] at h1
      rw [if_neg (by omega)] at h1
      simp at h1
  have HQ := Lib.hid hq
  have HBD : Hid (∀ F N, flg ⟨k, o, t, p, s, key, val⟩ = F → nums ⟨k, o, t, p, s, key, val⟩ = N → bdy ⟨k, o, t, p, s, key, val⟩ = [F] ++ Uv.uv o ++ Uv.uv t ++ N ++ Uv.uv key.size ++ sb key ++ ys) := Lib.hid (fun F N h1 h2 => by unfold bdy; rw [h1, h2]; simp only [hq, Int.toNat_natCast])
  have hlo := Uv.uv_len_64 o (by omega)
  have hlt := Uv.uv_len_64 t (by omega)
  have hlp := Uv.uv_len_64 p (by omega)
  have hls := Uv.uv_len_64 s (by omega)
  have hlk := Uv.uv_len_64 key.size (by omega)
  unfold Rc.v
  simp only
  simp only at kk c2 hp c4
  rw [hq] at c2
  simp only at c2
  subst c2
  obtain ⟨eb, hE⟩ : ∃ q, enc (sb val) = q := ⟨_, rfl⟩
  obtain ⟨es, ez⟩ := eb
  have hsh : (if ez = 0 ∧ es.length < val.size then (es, true) else (sb val, false)) = (ys, false) := by
    rw [← hq]
    unfold shrt
    rw [hE, sb_length]
  have HE := Lib.hid hE
  clear hq hE
  have hez : ez = 0 := by have h := HE.out; rw [h] at c4; exact c4
  clear c4
  have PE := Lib.hid (fun A c W (hr : Rd W A (b8 (sb val))) (hc : val.size ≤ c) => rencode_is A val.size c (sb val) W hr (sb_length val) (sb_by val) (by omega))
  subst kk
  have HD := Lib.hid (HBD.out 5 (Uv.uv p ++ Uv.uv s) (by unfold flg; simp only [HQ.out]; have hp1 : 0 < p := (by omega); simp [hp1]) (by unfold nums; simp only [Int.toNat_natCast]; rw [if_pos hp]))
  have he : ¬ (ez = 0 ∧ es.length < val.size) := by
    intro h
    rw [if_pos h] at hsh
    simp at hsh
  rw [if_neg he] at hsh
  injection hsh with hy _
  have HY := Lib.hid hy
  clear hy
  have he3 : ¬ (es.length : Int) < (val.size : Int) := by omega
  subst hez
  clear he
  clear HBD HQ m9 hsm m1 m6
  go_enter Tryz.func97, Tryz.ntmps97
  go_wp2_with (refine wpList_bytes _ rfl (.tmp 9) 9 27 5 rfl Tryz.underlying9 Tryz.underlying27 Tryz.underlying5 val rfl ?_; intro c0 w0 zs hrow hcm hbel hzl; have HR0 := Lib.hid hrow; have HB0 := Lib.hid hbel; clear hrow hzl hbel)
  have hr0 := HR0.out
  rw [World.size_alloc] at hr0
  have R0 := Lib.hid (rd_row8 hr0)
  have hz0 : w.heap.size + 2 ≤ w0.heap.size := by have := hr0.lt; omega
  have hb0 := HB0.out
  rw [World.size_alloc] at hb0
  clear hr0 HR0 HB0
  have BX0 := Lib.hid ((RBox.new w ⟨2, o, t, p, s, key, val⟩).below hb0 (by simp))
  refine (PE.out _ c0 w0 R0.out hcm).mono ?_
  rw [HE.out]
  rintro e w1 ⟨A1, c1, rfl, ho1, hb1⟩
  simp only at ho1 ⊢
  have R1 := Lib.hid (R0.out.below hb1)
  have BX1 := Lib.hid (BX0.out.below hb1 (by omega))
  have T1 := Lib.hid ((((Below.refl w.heap.size w).alloc (Nat.le_refl _) (.cells #[.int .i64 2, .int .i64 o, .int .i64 t, .int .i64 p, .int .i64 s, .string key, .string val] 43)).trans (hb0.mono (by simp))).trans (hb1.mono (by omega)))
  have hz1 : w.heap.size + 1 ≤ w1.heap.size := by have := hb1.size; omega
  clear ho1 hb1 hb0
  have R1' : Hid (Rd w1 (some ⟨w.heap.size + 1, 0, none⟩) (b8 ys)) := Lib.hid (by rw [← HY.out]; simpa using R1.out)
  obtain ⟨x0, x1, x2, x3, x4, x5, x6⟩ := (BX1.out).facts
  simp only at x0 x1 x2 x3 x4 x5 x6
  go_wp2_with fail
  refine (rnew_is w1).mono ?_
  rintro e w2 ⟨rfl, hw2⟩
  have V2 : Hid (Wr w1.heap.size w2 110 w1.heap.size (.slice none 0 0) []) := Lib.hid (by rw [hw2]; exact rnew_wr w1.heap.size w1 (Nat.le_refl _))
  have D2 : Hid (Below w1.heap.size w1 w2) := Lib.hid (by rw [hw2]; exact (Below.refl _ _).alloc (Nat.le_refl _) _)
  have hl2 : ([] : List Nat).length ≤ 0 := Nat.le_refl _
  clear hw2
  clear x0 x1 x2 x3 x4 x5 x6
  obtain ⟨x0, x1, x2, x3, x4, x5, x6⟩ := (BX1.out.below D2.out (by omega)).facts
  simp only at x0 x1 x2 x3 x4 x5 x6
  go_wp2_with fail
  refine (rbyte_is w1.heap.size w1.heap.size (.slice none 0 0) [] 5 w2 V2.out  (by omega) D2.out.size).mono ?_
  intro e w3 hw
  obtain ⟨v3, rfl, h, b⟩ := hw.to' V2.out
  have V3 := Lib.hid h
  have D3 := Lib.hid (D2.out.trans b)
  obtain ⟨X3, hX⟩ : ∃ X, X = [] ++ [5] := ⟨_, rfl⟩
  have hl3 : X3.length ≤ 1 := by rw [hX]; simp only [List.length_append, List.length_cons, List.length_nil, sb_length]; omega
  have HX3 := Lib.hid hX
  rw [← hX] at V3
  clear hw h b hX
  clear x0 x1 x2 x3 x4 x5 x6
  obtain ⟨x0, x1, x2, x3, x4, x5, x6⟩ := (BX1.out.below D3.out (by omega)).facts
  simp only at x0 x1 x2 x3 x4 x5 x6
  go_wp2_with fail
  refine (ruvarint_w w1.heap.size w1.heap.size v3 X3 o w3 V3.out (by omega) (by omega) D3.out.size).mono ?_
  intro e w4 hw
  obtain ⟨v4, rfl, h, b⟩ := hw.to' V3.out
  have V4 := Lib.hid h
  have D4 := Lib.hid (D3.out.trans b)
  obtain ⟨X4, hX⟩ : ∃ X, X = X3 ++ Uv.uv o := ⟨_, rfl⟩
  have hl4 : X4.length ≤ 11 := by rw [hX]; simp only [List.length_append, List.length_cons, List.length_nil, sb_length]; omega
  have HX4 := Lib.hid hX
  rw [← hX] at V4
  clear hw h b hX
  clear x0 x1 x2 x3 x4 x5 x6
  obtain ⟨x0, x1, x2, x3, x4, x5, x6⟩ := (BX1.out.below D4.out (by omega)).facts
  simp only at x0 x1 x2 x3 x4 x5 x6
  go_wp2_with fail
  refine (ruvarint_w w1.heap.size w1.heap.size v4 X4 t w4 V4.out (by omega) (by omega) D4.out.size).mono ?_
  intro e w5 hw
  obtain ⟨v5, rfl, h, b⟩ := hw.to' V4.out
  have V5 := Lib.hid h
  have D5 := Lib.hid (D4.out.trans b)
  obtain ⟨X5, hX⟩ : ∃ X, X = X4 ++ Uv.uv t := ⟨_, rfl⟩
  have hl5 : X5.length ≤ 21 := by rw [hX]; simp only [List.length_append, List.length_cons, List.length_nil, sb_length]; omega
  have HX5 := Lib.hid hX
  rw [← hX] at V5
  clear hw h b hX
  clear x0 x1 x2 x3 x4 x5 x6
  obtain ⟨x0, x1, x2, x3, x4, x5, x6⟩ := (BX1.out.below D5.out (by omega)).facts
  simp only at x0 x1 x2 x3 x4 x5 x6
  go_wp2_with fail
  refine (ruvarint_w w1.heap.size w1.heap.size v5 X5 p w5 V5.out (by omega) (by omega) D5.out.size).mono ?_
  intro e w6 hw
  obtain ⟨v6, rfl, h, b⟩ := hw.to' V5.out
  have V6 := Lib.hid h
  have D6 := Lib.hid (D5.out.trans b)
  obtain ⟨X6, hX⟩ : ∃ X, X = X5 ++ Uv.uv p := ⟨_, rfl⟩
  have hl6 : X6.length ≤ 31 := by rw [hX]; simp only [List.length_append, List.length_cons, List.length_nil, sb_length]; omega
  have HX6 := Lib.hid hX
  rw [← hX] at V6
  clear hw h b hX
  clear x0 x1 x2 x3 x4 x5 x6
  obtain ⟨x0, x1, x2, x3, x4, x5, x6⟩ := (BX1.out.below D6.out (by omega)).facts
  simp only at x0 x1 x2 x3 x4 x5 x6
  go_wp2_with fail
  refine (ruvarint_w w1.heap.size w1.heap.size v6 X6 s w6 V6.out (by omega) (by omega) D6.out.size).mono ?_
  intro e w7 hw
  obtain ⟨v7, rfl, h, b⟩ := hw.to' V6.out
  have V7 := Lib.hid h
  have D7 := Lib.hid (D6.out.trans b)
  obtain ⟨X7, hX⟩ : ∃ X, X = X6 ++ Uv.uv s := ⟨_, rfl⟩
  have hl7 : X7.length ≤ 41 := by rw [hX]; simp only [List.length_append, List.length_cons, List.length_nil, sb_length]; omega
  have HX7 := Lib.hid hX
  rw [← hX] at V7
  clear hw h b hX
  clear x0 x1 x2 x3 x4 x5 x6
  obtain ⟨x0, x1, x2, x3, x4, x5, x6⟩ := (BX1.out.below D7.out (by omega)).facts
  simp only at x0 x1 x2 x3 x4 x5 x6
  go_wp2_with fail
  refine (rtext_w w1.heap.size w1.heap.size v7 X7 key w7 V7.out  (by omega) D7.out.size).mono ?_
  intro e w8 hw
  obtain ⟨v8, rfl, h, b⟩ := hw.to' V7.out
  have V8 := Lib.hid h
  have D8 := Lib.hid (D7.out.trans b)
  obtain ⟨X8, hX⟩ : ∃ X, X = X7 ++ (Uv.uv key.size ++ sb key) := ⟨_, rfl⟩
  have hl8 : X8.length ≤ 115 := by rw [hX]; simp only [List.length_append, List.length_cons, List.length_nil, sb_length]; omega
  have HX8 := Lib.hid hX
  rw [List.append_assoc, ← hX] at V8
  clear hw h b hX
  clear x0 x1 x2 x3 x4 x5 x6
  obtain ⟨x0, x1, x2, x3, x4, x5, x6⟩ := (BX1.out.below D8.out (by omega)).facts
  simp only at x0 x1 x2 x3 x4 x5 x6
  go_wp2_with fail
  refine (rraw_is w1.heap.size w1.heap.size v8 X8 (some ⟨w.heap.size + 1, 0, none⟩) val.size c0 ys w8 V8.out (R1'.out.below D8.out) (by rw [← HY.out, sb_length]) (by omega) D8.out.size).mono ?_
  intro e w9 hw
  obtain ⟨v9, rfl, h, b⟩ := hw.to' V8.out
  have V9 := Lib.hid h
  have D9 := Lib.hid (D8.out.trans b)
  obtain ⟨X9, hX⟩ : ∃ X, X = X8 ++ ys := ⟨_, rfl⟩
  have hl9 : X9.length ≤ 1139 := by rw [hX]; simp only [List.length_append]; omega
  have HX9 := Lib.hid hX
  rw [← hX] at V9
  clear hw h b hX
  go_wp2_with fail
  refine (rbytes_w w1.heap.size w1.heap.size v9 X9 w9 V9.out (by omega)).mono ?_
  rintro e wz ⟨Az, cz, rfl, hoz, hbz⟩
  have OZ := Lib.hid hoz
  have BZ := Lib.hid hbz
  clear hoz hbz
  go_wp2_with fail
  go_ret
  exact got8_of (HD.out.trans (by rw [HX9.out, HX8.out, HX7.out, HX6.out, HX5.out, HX4.out, HX3.out]; simp only [List.nil_append, List.append_assoc, List.append_nil])) OZ.out (T1.out.trans (D9.out.mono (by omega))) BZ.out
set_option maxHeartbeats 2000000 in
set_option maxRecDepth 100000 in
theorem rrecbody_2ftf (x : Rc) (w : World) (hm : May x) (kk : x.k = 2) (c2 : (shrt (sb x.val)).2 = false) (hp : 0 < x.p) (c4 : ¬ (enc (sb x.val)).2 = 0) : Calls Tryz.prog 97 #[x.v] w fun e w' => Got8 w w' e (bdy x) := by
  obtain ⟨k, o, t, p, s, key, val⟩ := x
  obtain ⟨m1, m2, m3, m4, m5, m6, m7, m8, m9⟩ := hm
  simp only at m1 m2 m3 m4 m5 m6 m7 m8 m9
  obtain ⟨o, rfl⟩ : ∃ n : Nat, o = (n : Int) := ⟨o.toNat, by omega⟩
  obtain ⟨t, rfl⟩ : ∃ n : Nat, t = (n : Int) := ⟨t.toNat, by omega⟩
  obtain ⟨p, rfl⟩ : ∃ n : Nat, p = (n : Int) := ⟨p.toNat, by omega⟩
  obtain ⟨s, rfl⟩ : ∃ n : Nat, s = (n : Int) := ⟨s.toNat, by omega⟩
  obtain ⟨q, hq⟩ : ∃ q, shrt (sb val) = q := ⟨_, rfl⟩
  obtain ⟨ys, sm⟩ := q
  have hyl : ys.length ≤ 1024 := by have h := shrt_len (sb val); rw [hq, sb_length] at h; simp only at h; omega
  have hsm : k = 2 → sm = false := fun h => by
    have h0 := m9 h
    cases sm with
    | false => rfl
    | true =>
      have h1 := hq
      unfold shrt at h1
      rw [sb_length, h0] at h1
      rw [if_neg (by omega)] at h1
      simp at h1
  have HQ := Lib.hid hq
  have HBD : Hid (∀ F N, flg ⟨k, o, t, p, s, key, val⟩ = F → nums ⟨k, o, t, p, s, key, val⟩ = N → bdy ⟨k, o, t, p, s, key, val⟩ = [F] ++ Uv.uv o ++ Uv.uv t ++ N ++ Uv.uv key.size ++ sb key ++ ys) := Lib.hid (fun F N h1 h2 => by unfold bdy; rw [h1, h2]; simp only [hq, Int.toNat_natCast])
  have hlo := Uv.uv_len_64 o (by omega)
  have hlt := Uv.uv_len_64 t (by omega)
  have hlp := Uv.uv_len_64 p (by omega)
  have hls := Uv.uv_len_64 s (by omega)
  have hlk := Uv.uv_len_64 key.size (by omega)
  unfold Rc.v
  simp only
  simp only at kk c2 hp c4
  rw [hq] at c2
  simp only at c2
  subst c2
  obtain ⟨eb, hE⟩ : ∃ q, enc (sb val) = q := ⟨_, rfl⟩
  obtain ⟨es, ez⟩ := eb
  have hsh : (if ez = 0 ∧ es.length < val.size then (es, true) else (sb val, false)) = (ys, false) := by
    rw [← hq]
    unfold shrt
    rw [hE, sb_length]
  have HE := Lib.hid hE
  clear hq hE
  have hez : ¬ ez = 0 := by have h := HE.out; rw [h] at c4; exact c4
  clear c4
  have PE := Lib.hid (fun A c W (hr : Rd W A (b8 (sb val))) (hc : val.size ≤ c) => rencode_is A val.size c (sb val) W hr (sb_length val) (sb_by val) (by omega))
  subst kk
  have HD := Lib.hid (HBD.out 5 (Uv.uv p ++ Uv.uv s) (by unfold flg; simp only [HQ.out]; have hp1 : 0 < p := (by omega); simp [hp1]) (by unfold nums; simp only [Int.toNat_natCast]; rw [if_pos hp]))
  have he : ¬ (ez = 0 ∧ es.length < val.size) := by
    intro h
    rw [if_pos h] at hsh
    simp at hsh
  rw [if_neg he] at hsh
  injection hsh with hy _
  have HY := Lib.hid hy
  clear hy
  have he3 : (ez == 0) = false := by rw [beq_eq_false_iff_ne]; exact hez
  clear he
  clear HBD HQ m9 hsm m1 m6
  go_enter Tryz.func97, Tryz.ntmps97
  go_wp2_with (refine wpList_bytes _ rfl (.tmp 9) 9 27 5 rfl Tryz.underlying9 Tryz.underlying27 Tryz.underlying5 val rfl ?_; intro c0 w0 zs hrow hcm hbel hzl; have HR0 := Lib.hid hrow; have HB0 := Lib.hid hbel; clear hrow hzl hbel)
  have hr0 := HR0.out
  rw [World.size_alloc] at hr0
  have R0 := Lib.hid (rd_row8 hr0)
  have hz0 : w.heap.size + 2 ≤ w0.heap.size := by have := hr0.lt; omega
  have hb0 := HB0.out
  rw [World.size_alloc] at hb0
  clear hr0 HR0 HB0
  have BX0 := Lib.hid ((RBox.new w ⟨2, o, t, p, s, key, val⟩).below hb0 (by simp))
  refine (PE.out _ c0 w0 R0.out hcm).mono ?_
  rw [HE.out]
  rintro e w1 ⟨A1, c1, rfl, ho1, hb1⟩
  simp only at ho1 ⊢
  have R1 := Lib.hid (R0.out.below hb1)
  have BX1 := Lib.hid (BX0.out.below hb1 (by omega))
  have T1 := Lib.hid ((((Below.refl w.heap.size w).alloc (Nat.le_refl _) (.cells #[.int .i64 2, .int .i64 o, .int .i64 t, .int .i64 p, .int .i64 s, .string key, .string val] 43)).trans (hb0.mono (by simp))).trans (hb1.mono (by omega)))
  have hz1 : w.heap.size + 1 ≤ w1.heap.size := by have := hb1.size; omega
  clear ho1 hb1 hb0
  have R1' : Hid (Rd w1 (some ⟨w.heap.size + 1, 0, none⟩) (b8 ys)) := Lib.hid (by rw [← HY.out]; simpa using R1.out)
  obtain ⟨x0, x1, x2, x3, x4, x5, x6⟩ := (BX1.out).facts
  simp only at x0 x1 x2 x3 x4 x5 x6
  go_wp2_with fail
  refine (rnew_is w1).mono ?_
  rintro e w2 ⟨rfl, hw2⟩
  have V2 : Hid (Wr w1.heap.size w2 110 w1.heap.size (.slice none 0 0) []) := Lib.hid (by rw [hw2]; exact rnew_wr w1.heap.size w1 (Nat.le_refl _))
  have D2 : Hid (Below w1.heap.size w1 w2) := Lib.hid (by rw [hw2]; exact (Below.refl _ _).alloc (Nat.le_refl _) _)
  have hl2 : ([] : List Nat).length ≤ 0 := Nat.le_refl _
  clear hw2
  clear x0 x1 x2 x3 x4 x5 x6
  obtain ⟨x0, x1, x2, x3, x4, x5, x6⟩ := (BX1.out.below D2.out (by omega)).facts
  simp only at x0 x1 x2 x3 x4 x5 x6
  go_wp2_with fail
  refine (rbyte_is w1.heap.size w1.heap.size (.slice none 0 0) [] 5 w2 V2.out  (by omega) D2.out.size).mono ?_
  intro e w3 hw
  obtain ⟨v3, rfl, h, b⟩ := hw.to' V2.out
  have V3 := Lib.hid h
  have D3 := Lib.hid (D2.out.trans b)
  obtain ⟨X3, hX⟩ : ∃ X, X = [] ++ [5] := ⟨_, rfl⟩
  have hl3 : X3.length ≤ 1 := by rw [hX]; simp only [List.length_append, List.length_cons, List.length_nil, sb_length]; omega
  have HX3 := Lib.hid hX
  rw [← hX] at V3
  clear hw h b hX
  clear x0 x1 x2 x3 x4 x5 x6
  obtain ⟨x0, x1, x2, x3, x4, x5, x6⟩ := (BX1.out.below D3.out (by omega)).facts
  simp only at x0 x1 x2 x3 x4 x5 x6
  go_wp2_with fail
  refine (ruvarint_w w1.heap.size w1.heap.size v3 X3 o w3 V3.out (by omega) (by omega) D3.out.size).mono ?_
  intro e w4 hw
  obtain ⟨v4, rfl, h, b⟩ := hw.to' V3.out
  have V4 := Lib.hid h
  have D4 := Lib.hid (D3.out.trans b)
  obtain ⟨X4, hX⟩ : ∃ X, X = X3 ++ Uv.uv o := ⟨_, rfl⟩
  have hl4 : X4.length ≤ 11 := by rw [hX]; simp only [List.length_append, List.length_cons, List.length_nil, sb_length]; omega
  have HX4 := Lib.hid hX
  rw [← hX] at V4
  clear hw h b hX
  clear x0 x1 x2 x3 x4 x5 x6
  obtain ⟨x0, x1, x2, x3, x4, x5, x6⟩ := (BX1.out.below D4.out (by omega)).facts
  simp only at x0 x1 x2 x3 x4 x5 x6
  go_wp2_with fail
  refine (ruvarint_w w1.heap.size w1.heap.size v4 X4 t w4 V4.out (by omega) (by omega) D4.out.size).mono ?_
  intro e w5 hw
  obtain ⟨v5, rfl, h, b⟩ := hw.to' V4.out
  have V5 := Lib.hid h
  have D5 := Lib.hid (D4.out.trans b)
  obtain ⟨X5, hX⟩ : ∃ X, X = X4 ++ Uv.uv t := ⟨_, rfl⟩
  have hl5 : X5.length ≤ 21 := by rw [hX]; simp only [List.length_append, List.length_cons, List.length_nil, sb_length]; omega
  have HX5 := Lib.hid hX
  rw [← hX] at V5
  clear hw h b hX
  clear x0 x1 x2 x3 x4 x5 x6
  obtain ⟨x0, x1, x2, x3, x4, x5, x6⟩ := (BX1.out.below D5.out (by omega)).facts
  simp only at x0 x1 x2 x3 x4 x5 x6
  go_wp2_with fail
  refine (ruvarint_w w1.heap.size w1.heap.size v5 X5 p w5 V5.out (by omega) (by omega) D5.out.size).mono ?_
  intro e w6 hw
  obtain ⟨v6, rfl, h, b⟩ := hw.to' V5.out
  have V6 := Lib.hid h
  have D6 := Lib.hid (D5.out.trans b)
  obtain ⟨X6, hX⟩ : ∃ X, X = X5 ++ Uv.uv p := ⟨_, rfl⟩
  have hl6 : X6.length ≤ 31 := by rw [hX]; simp only [List.length_append, List.length_cons, List.length_nil, sb_length]; omega
  have HX6 := Lib.hid hX
  rw [← hX] at V6
  clear hw h b hX
  clear x0 x1 x2 x3 x4 x5 x6
  obtain ⟨x0, x1, x2, x3, x4, x5, x6⟩ := (BX1.out.below D6.out (by omega)).facts
  simp only at x0 x1 x2 x3 x4 x5 x6
  go_wp2_with fail
  refine (ruvarint_w w1.heap.size w1.heap.size v6 X6 s w6 V6.out (by omega) (by omega) D6.out.size).mono ?_
  intro e w7 hw
  obtain ⟨v7, rfl, h, b⟩ := hw.to' V6.out
  have V7 := Lib.hid h
  have D7 := Lib.hid (D6.out.trans b)
  obtain ⟨X7, hX⟩ : ∃ X, X = X6 ++ Uv.uv s := ⟨_, rfl⟩
  have hl7 : X7.length ≤ 41 := by rw [hX]; simp only [List.length_append, List.length_cons, List.length_nil, sb_length]; omega
  have HX7 := Lib.hid hX
  rw [← hX] at V7
  clear hw h b hX
  clear x0 x1 x2 x3 x4 x5 x6
  obtain ⟨x0, x1, x2, x3, x4, x5, x6⟩ := (BX1.out.below D7.out (by omega)).facts
  simp only at x0 x1 x2 x3 x4 x5 x6
  go_wp2_with fail
  refine (rtext_w w1.heap.size w1.heap.size v7 X7 key w7 V7.out  (by omega) D7.out.size).mono ?_
  intro e w8 hw
  obtain ⟨v8, rfl, h, b⟩ := hw.to' V7.out
  have V8 := Lib.hid h
  have D8 := Lib.hid (D7.out.trans b)
  obtain ⟨X8, hX⟩ : ∃ X, X = X7 ++ (Uv.uv key.size ++ sb key) := ⟨_, rfl⟩
  have hl8 : X8.length ≤ 115 := by rw [hX]; simp only [List.length_append, List.length_cons, List.length_nil, sb_length]; omega
  have HX8 := Lib.hid hX
  rw [List.append_assoc, ← hX] at V8
  clear hw h b hX
  clear x0 x1 x2 x3 x4 x5 x6
  obtain ⟨x0, x1, x2, x3, x4, x5, x6⟩ := (BX1.out.below D8.out (by omega)).facts
  simp only at x0 x1 x2 x3 x4 x5 x6
  go_wp2_with fail
  refine (rraw_is w1.heap.size w1.heap.size v8 X8 (some ⟨w.heap.size + 1, 0, none⟩) val.size c0 ys w8 V8.out (R1'.out.below D8.out) (by rw [← HY.out, sb_length]) (by omega) D8.out.size).mono ?_
  intro e w9 hw
  obtain ⟨v9, rfl, h, b⟩ := hw.to' V8.out
  have V9 := Lib.hid h
  have D9 := Lib.hid (D8.out.trans b)
  obtain ⟨X9, hX⟩ : ∃ X, X = X8 ++ ys := ⟨_, rfl⟩
  have hl9 : X9.length ≤ 1139 := by rw [hX]; simp only [List.length_append]; omega
  have HX9 := Lib.hid hX
  rw [← hX] at V9
  clear hw h b hX
  go_wp2_with fail
  refine (rbytes_w w1.heap.size w1.heap.size v9 X9 w9 V9.out (by omega)).mono ?_
  rintro e wz ⟨Az, cz, rfl, hoz, hbz⟩
  have OZ := Lib.hid hoz
  have BZ := Lib.hid hbz
  clear hoz hbz
  go_wp2_with fail
  go_ret
  exact got8_of (HD.out.trans (by rw [HX9.out, HX8.out, HX7.out, HX6.out, HX5.out, HX4.out, HX3.out]; simp only [List.nil_append, List.append_assoc, List.append_nil])) OZ.out (T1.out.trans (D9.out.mono (by omega))) BZ.out
set_option maxHeartbeats 2000000 in
set_option maxRecDepth 100000 in
theorem rrecbody_2fft (x : Rc) (w : World) (hm : May x) (kk : x.k = 2) (c2 : (shrt (sb x.val)).2 = false) (hp : ¬ 0 < x.p) (c4 : (enc (sb x.val)).2 = 0) : Calls Tryz.prog 97 #[x.v] w fun e w' => Got8 w w' e (bdy x) := by
  obtain ⟨k, o, t, p, s, key, val⟩ := x
  obtain ⟨m1, m2, m3, m4, m5, m6, m7, m8, m9⟩ := hm
  simp only at m1 m2 m3 m4 m5 m6 m7 m8 m9
  obtain ⟨o, rfl⟩ : ∃ n : Nat, o = (n : Int) := ⟨o.toNat, by omega⟩
  obtain ⟨t, rfl⟩ : ∃ n : Nat, t = (n : Int) := ⟨t.toNat, by omega⟩
  obtain ⟨p, rfl⟩ : ∃ n : Nat, p = (n : Int) := ⟨p.toNat, by omega⟩
  obtain ⟨s, rfl⟩ : ∃ n : Nat, s = (n : Int) := ⟨s.toNat, by omega⟩
  obtain ⟨q, hq⟩ : ∃ q, shrt (sb val) = q := ⟨_, rfl⟩
  obtain ⟨ys, sm⟩ := q
  have hyl : ys.length ≤ 1024 := by have h := shrt_len (sb val); rw [hq, sb_length] at h; simp only at h; omega
  have hsm : k = 2 → sm = false := fun h => by
    have h0 := m9 h
    cases sm with
    | false => rfl
    | true =>
      have h1 := hq
      unfold shrt at h1
      rw [sb_length, h0] at h1
      rw [if_neg (by omega)] at h1
      simp at h1
  have HQ := Lib.hid hq
  have HBD : Hid (∀ F N, flg ⟨k, o, t, p, s, key, val⟩ = F → nums ⟨k, o, t, p, s, key, val⟩ = N → bdy ⟨k, o, t, p, s, key, val⟩ = [F] ++ Uv.uv o ++ Uv.uv t ++ N ++ Uv.uv key.size ++ sb key ++ ys) := Lib.hid (fun F N h1 h2 => by unfold bdy; rw [h1, h2]; simp only [hq, Int.toNat_natCast])
  have hlo := Uv.uv_len_64 o (by omega)
  have hlt := Uv.uv_len_64 t (by omega)
  have hlp := Uv.uv_len_64 p (by omega)
  have hls := Uv.uv_len_64 s (by omega)
  have hlk := Uv.uv_len_64 key.size (by omega)
  unfold Rc.v
  simp only
  simp only at kk c2 hp c4
  rw [hq] at c2
  simp only at c2
  subst c2
  obtain ⟨eb, hE⟩ : ∃ q, enc (sb val) = q := ⟨_, rfl⟩
  obtain ⟨es, ez⟩ := eb
  have hsh : (if ez = 0 ∧ es.length < val.size then (es, true) else (sb val, false)) = (ys, false) := by
    rw [← hq]
    unfold shrt
    rw [hE, sb_length]
  have HE := Lib.hid hE
  clear hq hE
  have hez : ez = 0 := by have h := HE.out; rw [h] at c4; exact c4
  clear c4
  have PE := Lib.hid (fun A c W (hr : Rd W A (b8 (sb val))) (hc : val.size ≤ c) => rencode_is A val.size c (sb val) W hr (sb_length val) (sb_by val) (by omega))
  subst kk
  have HD := Lib.hid (HBD.out 1 [] (by unfold flg; simp only [HQ.out]; have hp1 : p = 0 := (by omega); simp [hp1]) (by unfold nums; simp only [Int.toNat_natCast]; rw [if_neg hp]))
  have he : ¬ (ez = 0 ∧ es.length < val.size) := by
    intro h
    rw [if_pos h] at hsh
    simp at hsh
  rw [if_neg he] at hsh
  injection hsh with hy _
  have HY := Lib.hid hy
  clear hy
  have he3 : ¬ (es.length : Int) < (val.size : Int) := by omega
  subst hez
  clear he
  clear HBD HQ m9 hsm m1 m6
  go_enter Tryz.func97, Tryz.ntmps97
  go_wp2_with (refine wpList_bytes _ rfl (.tmp 9) 9 27 5 rfl Tryz.underlying9 Tryz.underlying27 Tryz.underlying5 val rfl ?_; intro c0 w0 zs hrow hcm hbel hzl; have HR0 := Lib.hid hrow; have HB0 := Lib.hid hbel; clear hrow hzl hbel)
  have hr0 := HR0.out
  rw [World.size_alloc] at hr0
  have R0 := Lib.hid (rd_row8 hr0)
  have hz0 : w.heap.size + 2 ≤ w0.heap.size := by have := hr0.lt; omega
  have hb0 := HB0.out
  rw [World.size_alloc] at hb0
  clear hr0 HR0 HB0
  have BX0 := Lib.hid ((RBox.new w ⟨2, o, t, p, s, key, val⟩).below hb0 (by simp))
  refine (PE.out _ c0 w0 R0.out hcm).mono ?_
  rw [HE.out]
  rintro e w1 ⟨A1, c1, rfl, ho1, hb1⟩
  simp only at ho1 ⊢
  have R1 := Lib.hid (R0.out.below hb1)
  have BX1 := Lib.hid (BX0.out.below hb1 (by omega))
  have T1 := Lib.hid ((((Below.refl w.heap.size w).alloc (Nat.le_refl _) (.cells #[.int .i64 2, .int .i64 o, .int .i64 t, .int .i64 p, .int .i64 s, .string key, .string val] 43)).trans (hb0.mono (by simp))).trans (hb1.mono (by omega)))
  have hz1 : w.heap.size + 1 ≤ w1.heap.size := by have := hb1.size; omega
  clear ho1 hb1 hb0
  have R1' : Hid (Rd w1 (some ⟨w.heap.size + 1, 0, none⟩) (b8 ys)) := Lib.hid (by rw [← HY.out]; simpa using R1.out)
  obtain ⟨x0, x1, x2, x3, x4, x5, x6⟩ := (BX1.out).facts
  simp only at x0 x1 x2 x3 x4 x5 x6
  go_wp2_with fail
  refine (rnew_is w1).mono ?_
  rintro e w2 ⟨rfl, hw2⟩
  have V2 : Hid (Wr w1.heap.size w2 110 w1.heap.size (.slice none 0 0) []) := Lib.hid (by rw [hw2]; exact rnew_wr w1.heap.size w1 (Nat.le_refl _))
  have D2 : Hid (Below w1.heap.size w1 w2) := Lib.hid (by rw [hw2]; exact (Below.refl _ _).alloc (Nat.le_refl _) _)
  have hl2 : ([] : List Nat).length ≤ 0 := Nat.le_refl _
  clear hw2
  clear x0 x1 x2 x3 x4 x5 x6
  obtain ⟨x0, x1, x2, x3, x4, x5, x6⟩ := (BX1.out.below D2.out (by omega)).facts
  simp only at x0 x1 x2 x3 x4 x5 x6
  go_wp2_with fail
  refine (rbyte_is w1.heap.size w1.heap.size (.slice none 0 0) [] 1 w2 V2.out  (by omega) D2.out.size).mono ?_
  intro e w3 hw
  obtain ⟨v3, rfl, h, b⟩ := hw.to' V2.out
  have V3 := Lib.hid h
  have D3 := Lib.hid (D2.out.trans b)
  obtain ⟨X3, hX⟩ : ∃ X, X = [] ++ [1] := ⟨_, rfl⟩
  have hl3 : X3.length ≤ 1 := by rw [hX]; simp only [List.length_append, List.length_cons, List.length_nil, sb_length]; omega
  have HX3 := Lib.hid hX
  rw [← hX] at V3
  clear hw h b hX
  clear x0 x1 x2 x3 x4 x5 x6
  obtain ⟨x0, x1, x2, x3, x4, x5, x6⟩ := (BX1.out.below D3.out (by omega)).facts
  simp only at x0 x1 x2 x3 x4 x5 x6
  go_wp2_with fail
  refine (ruvarint_w w1.heap.size w1.heap.size v3 X3 o w3 V3.out (by omega) (by omega) D3.out.size).mono ?_
  intro e w4 hw
  obtain ⟨v4, rfl, h, b⟩ := hw.to' V3.out
  have V4 := Lib.hid h
  have D4 := Lib.hid (D3.out.trans b)
  obtain ⟨X4, hX⟩ : ∃ X, X = X3 ++ Uv.uv o := ⟨_, rfl⟩
  have hl4 : X4.length ≤ 11 := by rw [hX]; simp only [List.length_append, List.length_cons, List.length_nil, sb_length]; omega
  have HX4 := Lib.hid hX
  rw [← hX] at V4
  clear hw h b hX
  clear x0 x1 x2 x3 x4 x5 x6
  obtain ⟨x0, x1, x2, x3, x4, x5, x6⟩ := (BX1.out.below D4.out (by omega)).facts
  simp only at x0 x1 x2 x3 x4 x5 x6
  go_wp2_with fail
  refine (ruvarint_w w1.heap.size w1.heap.size v4 X4 t w4 V4.out (by omega) (by omega) D4.out.size).mono ?_
  intro e w5 hw
  obtain ⟨v5, rfl, h, b⟩ := hw.to' V4.out
  have V5 := Lib.hid h
  have D5 := Lib.hid (D4.out.trans b)
  obtain ⟨X5, hX⟩ : ∃ X, X = X4 ++ Uv.uv t := ⟨_, rfl⟩
  have hl5 : X5.length ≤ 21 := by rw [hX]; simp only [List.length_append, List.length_cons, List.length_nil, sb_length]; omega
  have HX5 := Lib.hid hX
  rw [← hX] at V5
  clear hw h b hX
  clear x0 x1 x2 x3 x4 x5 x6
  obtain ⟨x0, x1, x2, x3, x4, x5, x6⟩ := (BX1.out.below D5.out (by omega)).facts
  simp only at x0 x1 x2 x3 x4 x5 x6
  go_wp2_with fail
  refine (rtext_w w1.heap.size w1.heap.size v5 X5 key w5 V5.out  (by omega) D5.out.size).mono ?_
  intro e w6 hw
  obtain ⟨v6, rfl, h, b⟩ := hw.to' V5.out
  have V6 := Lib.hid h
  have D6 := Lib.hid (D5.out.trans b)
  obtain ⟨X6, hX⟩ : ∃ X, X = X5 ++ (Uv.uv key.size ++ sb key) := ⟨_, rfl⟩
  have hl6 : X6.length ≤ 95 := by rw [hX]; simp only [List.length_append, List.length_cons, List.length_nil, sb_length]; omega
  have HX6 := Lib.hid hX
  rw [List.append_assoc, ← hX] at V6
  clear hw h b hX
  clear x0 x1 x2 x3 x4 x5 x6
  obtain ⟨x0, x1, x2, x3, x4, x5, x6⟩ := (BX1.out.below D6.out (by omega)).facts
  simp only at x0 x1 x2 x3 x4 x5 x6
  go_wp2_with fail
  refine (rraw_is w1.heap.size w1.heap.size v6 X6 (some ⟨w.heap.size + 1, 0, none⟩) val.size c0 ys w6 V6.out (R1'.out.below D6.out) (by rw [← HY.out, sb_length]) (by omega) D6.out.size).mono ?_
  intro e w7 hw
  obtain ⟨v7, rfl, h, b⟩ := hw.to' V6.out
  have V7 := Lib.hid h
  have D7 := Lib.hid (D6.out.trans b)
  obtain ⟨X7, hX⟩ : ∃ X, X = X6 ++ ys := ⟨_, rfl⟩
  have hl7 : X7.length ≤ 1119 := by rw [hX]; simp only [List.length_append]; omega
  have HX7 := Lib.hid hX
  rw [← hX] at V7
  clear hw h b hX
  go_wp2_with fail
  refine (rbytes_w w1.heap.size w1.heap.size v7 X7 w7 V7.out (by omega)).mono ?_
  rintro e wz ⟨Az, cz, rfl, hoz, hbz⟩
  have OZ := Lib.hid hoz
  have BZ := Lib.hid hbz
  clear hoz hbz
  go_wp2_with fail
  go_ret
  exact got8_of (HD.out.trans (by rw [HX7.out, HX6.out, HX5.out, HX4.out, HX3.out]; simp only [List.nil_append, List.append_assoc, List.append_nil])) OZ.out (T1.out.trans (D7.out.mono (by omega))) BZ.out
set_option maxHeartbeats 2000000 in
set_option maxRecDepth 100000 in
theorem rrecbody_2fff (x : Rc) (w : World) (hm : May x) (kk : x.k = 2) (c2 : (shrt (sb x.val)).2 = false) (hp : ¬ 0 < x.p) (c4 : ¬ (enc (sb x.val)).2 = 0) : Calls Tryz.prog 97 #[x.v] w fun e w' => Got8 w w' e (bdy x) := by
  obtain ⟨k, o, t, p, s, key, val⟩ := x
  obtain ⟨m1, m2, m3, m4, m5, m6, m7, m8, m9⟩ := hm
  simp only at m1 m2 m3 m4 m5 m6 m7 m8 m9
  obtain ⟨o, rfl⟩ : ∃ n : Nat, o = (n : Int) := ⟨o.toNat, by omega⟩
  obtain ⟨t, rfl⟩ : ∃ n : Nat, t = (n : Int) := ⟨t.toNat, by omega⟩
  obtain ⟨p, rfl⟩ : ∃ n : Nat, p = (n : Int) := ⟨p.toNat, by omega⟩
  obtain ⟨s, rfl⟩ : ∃ n : Nat, s = (n : Int) := ⟨s.toNat, by omega⟩
  obtain ⟨q, hq⟩ : ∃ q, shrt (sb val) = q := ⟨_, rfl⟩
  obtain ⟨ys, sm⟩ := q
  have hyl : ys.length ≤ 1024 := by have h := shrt_len (sb val); rw [hq, sb_length] at h; simp only at h; omega
  have hsm : k = 2 → sm = false := fun h => by
    have h0 := m9 h
    cases sm with
    | false => rfl
    | true =>
      have h1 := hq
      unfold shrt at h1
      rw [sb_length, h0] at h1
      rw [if_neg (by omega)] at h1
      simp at h1
  have HQ := Lib.hid hq
  have HBD : Hid (∀ F N, flg ⟨k, o, t, p, s, key, val⟩ = F → nums ⟨k, o, t, p, s, key, val⟩ = N → bdy ⟨k, o, t, p, s, key, val⟩ = [F] ++ Uv.uv o ++ Uv.uv t ++ N ++ Uv.uv key.size ++ sb key ++ ys) := Lib.hid (fun F N h1 h2 => by unfold bdy; rw [h1, h2]; simp only [hq, Int.toNat_natCast])
  have hlo := Uv.uv_len_64 o (by omega)
  have hlt := Uv.uv_len_64 t (by omega)
  have hlp := Uv.uv_len_64 p (by omega)
  have hls := Uv.uv_len_64 s (by omega)
  have hlk := Uv.uv_len_64 key.size (by omega)
  unfold Rc.v
  simp only
  simp only at kk c2 hp c4
  rw [hq] at c2
  simp only at c2
  subst c2
  obtain ⟨eb, hE⟩ : ∃ q, enc (sb val) = q := ⟨_, rfl⟩
  obtain ⟨es, ez⟩ := eb
  have hsh : (if ez = 0 ∧ es.length < val.size then (es, true) else (sb val, false)) = (ys, false) := by
    rw [← hq]
    unfold shrt
    rw [hE, sb_length]
  have HE := Lib.hid hE
  clear hq hE
  have hez : ¬ ez = 0 := by have h := HE.out; rw [h] at c4; exact c4
  clear c4
  have PE := Lib.hid (fun A c W (hr : Rd W A (b8 (sb val))) (hc : val.size ≤ c) => rencode_is A val.size c (sb val) W hr (sb_length val) (sb_by val) (by omega))
  subst kk
  have HD := Lib.hid (HBD.out 1 [] (by unfold flg; simp only [HQ.out]; have hp1 : p = 0 := (by omega); simp [hp1]) (by unfold nums; simp only [Int.toNat_natCast]; rw [if_neg hp]))
  have he : ¬ (ez = 0 ∧ es.length < val.size) := by
    intro h
    rw [if_pos h] at hsh
    simp at hsh
  rw [if_neg he] at hsh
  injection hsh with hy _
  have HY := Lib.hid hy
  clear hy
  have he3 : (ez == 0) = false := by rw [beq_eq_false_iff_ne]; exact hez
  clear he
  clear HBD HQ m9 hsm m1 m6
  go_enter Tryz.func97, Tryz.ntmps97
  go_wp2_with (refine wpList_bytes _ rfl (.tmp 9) 9 27 5 rfl Tryz.underlying9 Tryz.underlying27 Tryz.underlying5 val rfl ?_; intro c0 w0 zs hrow hcm hbel hzl; have HR0 := Lib.hid hrow; have HB0 := Lib.hid hbel; clear hrow hzl hbel)
  have hr0 := HR0.out
  rw [World.size_alloc] at hr0
  have R0 := Lib.hid (rd_row8 hr0)
  have hz0 : w.heap.size + 2 ≤ w0.heap.size := by have := hr0.lt; omega
  have hb0 := HB0.out
  rw [World.size_alloc] at hb0
  clear hr0 HR0 HB0
  have BX0 := Lib.hid ((RBox.new w ⟨2, o, t, p, s, key, val⟩).below hb0 (by simp))
  refine (PE.out _ c0 w0 R0.out hcm).mono ?_
  rw [HE.out]
  rintro e w1 ⟨A1, c1, rfl, ho1, hb1⟩
  simp only at ho1 ⊢
  have R1 := Lib.hid (R0.out.below hb1)
  have BX1 := Lib.hid (BX0.out.below hb1 (by omega))
  have T1 := Lib.hid ((((Below.refl w.heap.size w).alloc (Nat.le_refl _) (.cells #[.int .i64 2, .int .i64 o, .int .i64 t, .int .i64 p, .int .i64 s, .string key, .string val] 43)).trans (hb0.mono (by simp))).trans (hb1.mono (by omega)))
  have hz1 : w.heap.size + 1 ≤ w1.heap.size := by have := hb1.size; omega
  clear ho1 hb1 hb0
  have R1' : Hid (Rd w1 (some ⟨w.heap.size + 1, 0, none⟩) (b8 ys)) := Lib.hid (by rw [← HY.out]; simpa using R1.out)
  obtain ⟨x0, x1, x2, x3, x4, x5, x6⟩ := (BX1.out).facts
  simp only at x0 x1 x2 x3 x4 x5 x6
  go_wp2_with fail
  refine (rnew_is w1).mono ?_
  rintro e w2 ⟨rfl, hw2⟩
  have V2 : Hid (Wr w1.heap.size w2 110 w1.heap.size (.slice none 0 0) []) := Lib.hid (by rw [hw2]; exact rnew_wr w1.heap.size w1 (Nat.le_refl _))
  have D2 : Hid (Below w1.heap.size w1 w2) := Lib.hid (by rw [hw2]; exact (Below.refl _ _).alloc (Nat.le_refl _) _)
  have hl2 : ([] : List Nat).length ≤ 0 := Nat.le_refl _
  clear hw2
  clear x0 x1 x2 x3 x4 x5 x6
  obtain ⟨x0, x1, x2, x3, x4, x5, x6⟩ := (BX1.out.below D2.out (by omega)).facts
  simp only at x0 x1 x2 x3 x4 x5 x6
  go_wp2_with fail
  refine (rbyte_is w1.heap.size w1.heap.size (.slice none 0 0) [] 1 w2 V2.out  (by omega) D2.out.size).mono ?_
  intro e w3 hw
  obtain ⟨v3, rfl, h, b⟩ := hw.to' V2.out
  have V3 := Lib.hid h
  have D3 := Lib.hid (D2.out.trans b)
  obtain ⟨X3, hX⟩ : ∃ X, X = [] ++ [1] := ⟨_, rfl⟩
  have hl3 : X3.length ≤ 1 := by rw [hX]; simp only [List.length_append, List.length_cons, List.length_nil, sb_length]; omega
  have HX3 := Lib.hid hX
  rw [← hX] at V3
  clear hw h b hX
  clear x0 x1 x2 x3 x4 x5 x6
  obtain ⟨x0, x1, x2, x3, x4, x5, x6⟩ := (BX1.out.below D3.out (by omega)).facts
  simp only at x0 x1 x2 x3 x4 x5 x6
  go_wp2_with fail
  refine (ruvarint_w w1.heap.size w1.heap.size v3 X3 o w3 V3.out (by omega) (by omega) D3.out.size).mono ?_
  intro e w4 hw
  obtain ⟨v4, rfl, h, b⟩ := hw.to' V3.out
  have V4 := Lib.hid h
  have D4 := Lib.hid (D3.out.trans b)
  obtain ⟨X4, hX⟩ : ∃ X, X = X3 ++ Uv.uv o := ⟨_, rfl⟩
  have hl4 : X4.length ≤ 11 := by rw [hX]; simp only [List.length_append, List.length_cons, List.length_nil, sb_length]; omega
  have HX4 := Lib.hid hX
  rw [← hX] at V4
  clear hw h b hX
  clear x0 x1 x2 x3 x4 x5 x6
  obtain ⟨x0, x1, x2, x3, x4, x5, x6⟩ := (BX1.out.below D4.out (by omega)).facts
  simp only at x0 x1 x2 x3 x4 x5 x6
  go_wp2_with fail
  refine (ruvarint_w w1.heap.size w1.heap.size v4 X4 t w4 V4.out (by omega) (by omega) D4.out.size).mono ?_
  intro e w5 hw
  obtain ⟨v5, rfl, h, b⟩ := hw.to' V4.out
  have V5 := Lib.hid h
  have D5 := Lib.hid (D4.out.trans b)
  obtain ⟨X5, hX⟩ : ∃ X, X = X4 ++ Uv.uv t := ⟨_, rfl⟩
  have hl5 : X5.length ≤ 21 := by rw [hX]; simp only [List.length_append, List.length_cons, List.length_nil, sb_length]; omega
  have HX5 := Lib.hid hX
  rw [← hX] at V5
  clear hw h b hX
  clear x0 x1 x2 x3 x4 x5 x6
  obtain ⟨x0, x1, x2, x3, x4, x5, x6⟩ := (BX1.out.below D5.out (by omega)).facts
  simp only at x0 x1 x2 x3 x4 x5 x6
  go_wp2_with fail
  refine (rtext_w w1.heap.size w1.heap.size v5 X5 key w5 V5.out  (by omega) D5.out.size).mono ?_
  intro e w6 hw
  obtain ⟨v6, rfl, h, b⟩ := hw.to' V5.out
  have V6 := Lib.hid h
  have D6 := Lib.hid (D5.out.trans b)
  obtain ⟨X6, hX⟩ : ∃ X, X = X5 ++ (Uv.uv key.size ++ sb key) := ⟨_, rfl⟩
  have hl6 : X6.length ≤ 95 := by rw [hX]; simp only [List.length_append, List.length_cons, List.length_nil, sb_length]; omega
  have HX6 := Lib.hid hX
  rw [List.append_assoc, ← hX] at V6
  clear hw h b hX
  clear x0 x1 x2 x3 x4 x5 x6
  obtain ⟨x0, x1, x2, x3, x4, x5, x6⟩ := (BX1.out.below D6.out (by omega)).facts
  simp only at x0 x1 x2 x3 x4 x5 x6
  go_wp2_with fail
  refine (rraw_is w1.heap.size w1.heap.size v6 X6 (some ⟨w.heap.size + 1, 0, none⟩) val.size c0 ys w6 V6.out (R1'.out.below D6.out) (by rw [← HY.out, sb_length]) (by omega) D6.out.size).mono ?_
  intro e w7 hw
  obtain ⟨v7, rfl, h, b⟩ := hw.to' V6.out
  have V7 := Lib.hid h
  have D7 := Lib.hid (D6.out.trans b)
  obtain ⟨X7, hX⟩ : ∃ X, X = X6 ++ ys := ⟨_, rfl⟩
  have hl7 : X7.length ≤ 1119 := by rw [hX]; simp only [List.length_append]; omega
  have HX7 := Lib.hid hX
  rw [← hX] at V7
  clear hw h b hX
  go_wp2_with fail
  refine (rbytes_w w1.heap.size w1.heap.size v7 X7 w7 V7.out (by omega)).mono ?_
  rintro e wz ⟨Az, cz, rfl, hoz, hbz⟩
  have OZ := Lib.hid hoz
  have BZ := Lib.hid hbz
  clear hoz hbz
  go_wp2_with fail
  go_ret
  exact got8_of (HD.out.trans (by rw [HX7.out, HX6.out, HX5.out, HX4.out, HX3.out]; simp only [List.nil_append, List.append_assoc, List.append_nil])) OZ.out (T1.out.trans (D7.out.mono (by omega))) BZ.out
set_option maxHeartbeats 2000000 in
set_option maxRecDepth 100000 in
theorem rrecbody_1ftt (x : Rc) (w : World) (hm : May x) (kk : ¬ x.k = 2) (c2 : (shrt (sb x.val)).2 = false) (hp : 0 < x.p) (c4 : (enc (sb x.val)).2 = 0) : Calls Tryz.prog 97 #[x.v] w fun e w' => Got8 w w' e (bdy x) := by
  obtain ⟨k, o, t, p, s, key, val⟩ := x
  obtain ⟨m1, m2, m3, m4, m5, m6, m7, m8, m9⟩ := hm
  simp only at m1 m2 m3 m4 m5 m6 m7 m8 m9
  obtain ⟨o, rfl⟩ : ∃ n : Nat, o = (n : Int) := ⟨o.toNat, by omega⟩
  obtain ⟨t, rfl⟩ : ∃ n : Nat, t = (n : Int) := ⟨t.toNat, by omega⟩
  obtain ⟨p, rfl⟩ : ∃ n : Nat, p = (n : Int) := ⟨p.toNat, by omega⟩
  obtain ⟨s, rfl⟩ : ∃ n : Nat, s = (n : Int) := ⟨s.toNat, by omega⟩
  obtain ⟨q, hq⟩ : ∃ q, shrt (sb val) = q := ⟨_, rfl⟩
  obtain ⟨ys, sm⟩ := q
  have hyl : ys.length ≤ 1024 := by have h := shrt_len (sb val); rw [hq, sb_length] at h; simp only at h; omega
  have hsm : k = 2 → sm = false := fun h => by
    have h0 := m9 h
    cases sm with
    | false => rfl
    | true =>
      have h1 := hq
      unfold shrt at h1
      rw [sb_length, h0] at h1
      rw [if_neg (by omega)] at h1
      simp at h1
  have HQ := Lib.hid hq
  have HBD : Hid (∀ F N, flg ⟨k, o, t, p, s, key, val⟩ = F → nums ⟨k, o, t, p, s, key, val⟩ = N → bdy ⟨k, o, t, p, s, key, val⟩ = [F] ++ Uv.uv o ++ Uv.uv t ++ N ++ Uv.uv key.size ++ sb key ++ ys) := Lib.hid (fun F N h1 h2 => by unfold bdy; rw [h1, h2]; simp only [hq, Int.toNat_natCast])
  have hlo := Uv.uv_len_64 o (by omega)
  have hlt := Uv.uv_len_64 t (by omega)
  have hlp := Uv.uv_len_64 p (by omega)
  have hls := Uv.uv_len_64 s (by omega)
  have hlk := Uv.uv_len_64 key.size (by omega)
  unfold Rc.v
  simp only
  simp only at kk c2 hp c4
  rw [hq] at c2
  simp only at c2
  subst c2
  obtain ⟨eb, hE⟩ : ∃ q, enc (sb val) = q := ⟨_, rfl⟩
  obtain ⟨es, ez⟩ := eb
  have hsh : (if ez = 0 ∧ es.length < val.size then (es, true) else (sb val, false)) = (ys, false) := by
    rw [← hq]
    unfold shrt
    rw [hE, sb_length]
  have HE := Lib.hid hE
  clear hq hE
  have hez : ez = 0 := by have h := HE.out; rw [h] at c4; exact c4
  clear c4
  have PE := Lib.hid (fun A c W (hr : Rd W A (b8 (sb val))) (hc : val.size ≤ c) => rencode_is A val.size c (sb val) W hr (sb_length val) (sb_by val) (by omega))
  have k1 : (k == 2) = false := by rw [beq_eq_false_iff_ne]; exact kk
  have HD := Lib.hid (HBD.out 4 (Uv.uv p ++ Uv.uv s) (by unfold flg; simp only [HQ.out]; have hp1 : 0 < p := (by omega); simp [hp1, kk]) (by unfold nums; simp only [Int.toNat_natCast]; rw [if_pos hp]))
  have he : ¬ (ez = 0 ∧ es.length < val.size) := by
    intro h
    rw [if_pos h] at hsh
    simp at hsh
  rw [if_neg he] at hsh
  injection hsh with hy _
  have HY := Lib.hid hy
  clear hy
  have he3 : ¬ (es.length : Int) < (val.size : Int) := by omega
  subst hez
  clear he
  clear HBD HQ m9 hsm m1 m6
  go_enter Tryz.func97, Tryz.ntmps97
  go_wp2_with (refine wpList_bytes _ rfl (.tmp 9) 9 27 5 rfl Tryz.underlying9 Tryz.underlying27 Tryz.underlying5 val rfl ?_; intro c0 w0 zs hrow hcm hbel hzl; have HR0 := Lib.hid hrow; have HB0 := Lib.hid hbel; clear hrow hzl hbel)
  have hr0 := HR0.out
  rw [World.size_alloc] at hr0
  have R0 := Lib.hid (rd_row8 hr0)
  have hz0 : w.heap.size + 2 ≤ w0.heap.size := by have := hr0.lt; omega
  have hb0 := HB0.out
  rw [World.size_alloc] at hb0
  clear hr0 HR0 HB0
  have BX0 := Lib.hid ((RBox.new w ⟨k, o, t, p, s, key, val⟩).below hb0 (by simp))
  refine (PE.out _ c0 w0 R0.out hcm).mono ?_
  rw [HE.out]
  rintro e w1 ⟨A1, c1, rfl, ho1, hb1⟩
  simp only at ho1 ⊢
  have R1 := Lib.hid (R0.out.below hb1)
  have BX1 := Lib.hid (BX0.out.below hb1 (by omega))
  have T1 := Lib.hid ((((Below.refl w.heap.size w).alloc (Nat.le_refl _) (.cells #[.int .i64 k, .int .i64 o, .int .i64 t, .int .i64 p, .int .i64 s, .string key, .string val] 43)).trans (hb0.mono (by simp))).trans (hb1.mono (by omega)))
  have hz1 : w.heap.size + 1 ≤ w1.heap.size := by have := hb1.size; omega
  clear ho1 hb1 hb0
  have R1' : Hid (Rd w1 (some ⟨w.heap.size + 1, 0, none⟩) (b8 ys)) := Lib.hid (by rw [← HY.out]; simpa using R1.out)
  obtain ⟨x0, x1, x2, x3, x4, x5, x6⟩ := (BX1.out).facts
  simp only at x0 x1 x2 x3 x4 x5 x6
  go_wp2_with fail
  refine (rnew_is w1).mono ?_
  rintro e w2 ⟨rfl, hw2⟩
  have V2 : Hid (Wr w1.heap.size w2 110 w1.heap.size (.slice none 0 0) []) := Lib.hid (by rw [hw2]; exact rnew_wr w1.heap.size w1 (Nat.le_refl _))
  have D2 : Hid (Below w1.heap.size w1 w2) := Lib.hid (by rw [hw2]; exact (Below.refl _ _).alloc (Nat.le_refl _) _)
  have hl2 : ([] : List Nat).length ≤ 0 := Nat.le_refl _
  clear hw2
  clear x0 x1 x2 x3 x4 x5 x6
  obtain ⟨x0, x1, x2, x3, x4, x5, x6⟩ := (BX1.out.below D2.out (by omega)).facts
  simp only at x0 x1 x2 x3 x4 x5 x6
  go_wp2_with fail
  refine (rbyte_is w1.heap.size w1.heap.size (.slice none 0 0) [] 4 w2 V2.out  (by omega) D2.out.size).mono ?_
  intro e w3 hw
  obtain ⟨v3, rfl, h, b⟩ := hw.to' V2.out
  have V3 := Lib.hid h
  have D3 := Lib.hid (D2.out.trans b)
  obtain ⟨X3, hX⟩ : ∃ X, X = [] ++ [4] := ⟨_, rfl⟩
  have hl3 : X3.length ≤ 1 := by rw [hX]; simp only [List.length_append, List.length_cons, List.length_nil, sb_length]; omega
  have HX3 := Lib.hid hX
  rw [← hX] at V3
  clear hw h b hX
  clear x0 x1 x2 x3 x4 x5 x6
  obtain ⟨x0, x1, x2, x3, x4, x5, x6⟩ := (BX1.out.below D3.out (by omega)).facts
  simp only at x0 x1 x2 x3 x4 x5 x6
  go_wp2_with fail
  refine (ruvarint_w w1.heap.size w1.heap.size v3 X3 o w3 V3.out (by omega) (by omega) D3.out.size).mono ?_
  intro e w4 hw
  obtain ⟨v4, rfl, h, b⟩ := hw.to' V3.out
  have V4 := Lib.hid h
  have D4 := Lib.hid (D3.out.trans b)
  obtain ⟨X4, hX⟩ : ∃ X, X = X3 ++ Uv.uv o := ⟨_, rfl⟩
  have hl4 : X4.length ≤ 11 := by rw [hX]; simp only [List.length_append, List.length_cons, List.length_nil, sb_length]; omega
  have HX4 := Lib.hid hX
  rw [← hX] at V4
  clear hw h b hX
  clear x0 x1 x2 x3 x4 x5 x6
  obtain ⟨x0, x1, x2, x3, x4, x5, x6⟩ := (BX1.out.below D4.out (by omega)).facts
  simp only at x0 x1 x2 x3 x4 x5 x6
  go_wp2_with fail
  refine (ruvarint_w w1.heap.size w1.heap.size v4 X4 t w4 V4.out (by omega) (by omega) D4.out.size).mono ?_
  intro e w5 hw
  obtain ⟨v5, rfl, h, b⟩ := hw.to' V4.out
  have V5 := Lib.hid h
  have D5 := Lib.hid (D4.out.trans b)
  obtain ⟨X5, hX⟩ : ∃ X, X = X4 ++ Uv.uv t := ⟨_, rfl⟩
  have hl5 : X5.length ≤ 21 := by rw [hX]; simp only [List.length_append, List.length_cons, List.length_nil, sb_length]; omega
  have HX5 := Lib.hid hX
  rw [← hX] at V5
  clear hw h b hX
  clear x0 x1 x2 x3 x4 x5 x6
  obtain ⟨x0, x1, x2, x3, x4, x5, x6⟩ := (BX1.out.below D5.out (by omega)).facts
  simp only at x0 x1 x2 x3 x4 x5 x6
  go_wp2_with fail
  refine (ruvarint_w w1.heap.size w1.heap.size v5 X5 p w5 V5.out (by omega) (by omega) D5.out.size).mono ?_
  intro e w6 hw
  obtain ⟨v6, rfl, h, b⟩ := hw.to' V5.out
  have V6 := Lib.hid h
  have D6 := Lib.hid (D5.out.trans b)
  obtain ⟨X6, hX⟩ : ∃ X, X = X5 ++ Uv.uv p := ⟨_, rfl⟩
  have hl6 : X6.length ≤ 31 := by rw [hX]; simp only [List.length_append, List.length_cons, List.length_nil, sb_length]; omega
  have HX6 := Lib.hid hX
  rw [← hX] at V6
  clear hw h b hX
  clear x0 x1 x2 x3 x4 x5 x6
  obtain ⟨x0, x1, x2, x3, x4, x5, x6⟩ := (BX1.out.below D6.out (by omega)).facts
  simp only at x0 x1 x2 x3 x4 x5 x6
  go_wp2_with fail
  refine (ruvarint_w w1.heap.size w1.heap.size v6 X6 s w6 V6.out (by omega) (by omega) D6.out.size).mono ?_
  intro e w7 hw
  obtain ⟨v7, rfl, h, b⟩ := hw.to' V6.out
  have V7 := Lib.hid h
  have D7 := Lib.hid (D6.out.trans b)
  obtain ⟨X7, hX⟩ : ∃ X, X = X6 ++ Uv.uv s := ⟨_, rfl⟩
  have hl7 : X7.length ≤ 41 := by rw [hX]; simp only [List.length_append, List.length_cons, List.length_nil, sb_length]; omega
  have HX7 := Lib.hid hX
  rw [← hX] at V7
  clear hw h b hX
  clear x0 x1 x2 x3 x4 x5 x6
  obtain ⟨x0, x1, x2, x3, x4, x5, x6⟩ := (BX1.out.below D7.out (by omega)).facts
  simp only at x0 x1 x2 x3 x4 x5 x6
  go_wp2_with fail
  refine (rtext_w w1.heap.size w1.heap.size v7 X7 key w7 V7.out  (by omega) D7.out.size).mono ?_
  intro e w8 hw
  obtain ⟨v8, rfl, h, b⟩ := hw.to' V7.out
  have V8 := Lib.hid h
  have D8 := Lib.hid (D7.out.trans b)
  obtain ⟨X8, hX⟩ : ∃ X, X = X7 ++ (Uv.uv key.size ++ sb key) := ⟨_, rfl⟩
  have hl8 : X8.length ≤ 115 := by rw [hX]; simp only [List.length_append, List.length_cons, List.length_nil, sb_length]; omega
  have HX8 := Lib.hid hX
  rw [List.append_assoc, ← hX] at V8
  clear hw h b hX
  clear x0 x1 x2 x3 x4 x5 x6
  obtain ⟨x0, x1, x2, x3, x4, x5, x6⟩ := (BX1.out.below D8.out (by omega)).facts
  simp only at x0 x1 x2 x3 x4 x5 x6
  go_wp2_with fail
  refine (rraw_is w1.heap.size w1.heap.size v8 X8 (some ⟨w.heap.size + 1, 0, none⟩) val.size c0 ys w8 V8.out (R1'.out.below D8.out) (by rw [← HY.out, sb_length]) (by omega) D8.out.size).mono ?_
  intro e w9 hw
  obtain ⟨v9, rfl, h, b⟩ := hw.to' V8.out
  have V9 := Lib.hid h
  have D9 := Lib.hid (D8.out.trans b)
  obtain ⟨X9, hX⟩ : ∃ X, X = X8 ++ ys := ⟨_, rfl⟩
  have hl9 : X9.length ≤ 1139 := by rw [hX]; simp only [List.length_append]; omega
  have HX9 := Lib.hid hX
  rw [← hX] at V9
  clear hw h b hX
  go_wp2_with fail
  refine (rbytes_w w1.heap.size w1.heap.size v9 X9 w9 V9.out (by omega)).mono ?_
  rintro e wz ⟨Az, cz, rfl, hoz, hbz⟩
  have OZ := Lib.hid hoz
  have BZ := Lib.hid hbz
  clear hoz hbz
  go_wp2_with fail
  go_ret
  exact got8_of (HD.out.trans (by rw [HX9.out, HX8.out, HX7.out, HX6.out, HX5.out, HX4.out, HX3.out]; simp only [List.nil_append, List.append_assoc, List.append_nil])) OZ.out (T1.out.trans (D9.out.mono (by omega))) BZ.out
set_option maxHeartbeats 2000000 in
set_option maxRecDepth 100000 in
theorem rrecbody_1ftf (x : Rc) (w : World) (hm : May x) (kk : ¬ x.k = 2) (c2 : (shrt (sb x.val)).2 = false) (hp : 0 < x.p) (c4 : ¬ (enc (sb x.val)).2 = 0) : Calls Tryz.prog 97 #[x.v] w fun e w' => Got8 w w' e (bdy x) := by
  obtain ⟨k, o, t, p, s, key, val⟩ := x
  obtain ⟨m1, m2, m3, m4, m5, m6, m7, m8, m9⟩ := hm
  simp only at m1 m2 m3 m4 m5 m6 m7 m8 m9
  obtain ⟨o, rfl⟩ : ∃ n : Nat, o = (n : Int) := ⟨o.toNat, by omega⟩
  obtain ⟨t, rfl⟩ : ∃ n : Nat, t = (n : Int) := ⟨t.toNat, by omega⟩
  obtain ⟨p, rfl⟩ : ∃ n : Nat, p = (n : Int) := ⟨p.toNat, by omega⟩
  obtain ⟨s, rfl⟩ : ∃ n : Nat, s = (n : Int) := ⟨s.toNat, by omega⟩
  obtain ⟨q, hq⟩ : ∃ q, shrt (sb val) = q := ⟨_, rfl⟩
  obtain ⟨ys, sm⟩ := q
  have hyl : ys.length ≤ 1024 := by have h := shrt_len (sb val); rw [hq, sb_length] at h; simp only at h; omega
  have hsm : k = 2 → sm = false := fun h => by
    have h0 := m9 h
    cases sm with
    | false => rfl
    | true =>
      have h1 := hq
      unfold shrt at h1
      rw [sb_length, h0] at h1
      rw [if_neg (by omega)] at h1
      simp at h1
  have HQ := Lib.hid hq
  have HBD : Hid (∀ F N, flg ⟨k, o, t, p, s, key, val⟩ = F → nums ⟨k, o, t, p, s, key, val⟩ = N → bdy ⟨k, o, t, p, s, key, val⟩ = [F] ++ Uv.uv o ++ Uv.uv t ++ N ++ Uv.uv key.size ++ sb key ++ ys) := Lib.hid (fun F N h1 h2 => by unfold bdy; rw [h1, h2]; simp only [hq, Int.toNat_natCast])
  have hlo := Uv.uv_len_64 o (by omega)
  have hlt := Uv.uv_len_64 t (by omega)
  have hlp := Uv.uv_len_64 p (by omega)
  have hls := Uv.uv_len_64 s (by omega)
  have hlk := Uv.uv_len_64 key.size (by omega)
  unfold Rc.v
  simp only
  simp only at kk c2 hp c4
  rw [hq] at c2
  simp only at c2
  subst c2
  obtain ⟨eb, hE⟩ : ∃ q, enc (sb val) = q := ⟨_, rfl⟩
  obtain ⟨es, ez⟩ := eb
  have hsh : (if ez = 0 ∧ es.length < val.size then (es, true) else (sb val, false)) = (ys, false) := by
    rw [← hq]
    unfold shrt
    rw [hE, sb_length]
  have HE := Lib.hid hE
  clear hq hE
  have hez : ¬ ez = 0 := by have h := HE.out; rw [h] at c4; exact c4
  clear c4
  have PE := Lib.hid (fun A c W (hr : Rd W A (b8 (sb val))) (hc : val.size ≤ c) => rencode_is A val.size c (sb val) W hr (sb_length val) (sb_by val) (by omega))
  have k1 : (k == 2) = false := by rw [beq_eq_false_iff_ne]; exact kk
  have HD := Lib.hid (HBD.out 4 (Uv.uv p ++ Uv.uv s) (by unfold flg; simp only [HQ.out]; have hp1 : 0 < p := (by omega); simp [hp1, kk]) (by unfold nums; simp only [Int.toNat_natCast]; rw [if_pos hp]))
  have he : ¬ (ez = 0 ∧ es.length < val.size) := by
    intro h
    rw [if_pos h] at hsh
    simp at hsh
  rw [if_neg he] at hsh
  injection hsh with hy _
  have HY := Lib.hid hy
  clear hy
  have he3 : (ez == 0) = false := by rw [beq_eq_false_iff_ne]; exact hez
  clear he
  clear HBD HQ m9 hsm m1 m6
  go_enter Tryz.func97, Tryz.ntmps97
  go_wp2_with (refine wpList_bytes _ rfl (.tmp 9) 9 27 5 rfl Tryz.underlying9 Tryz.underlying27 Tryz.underlying5 val rfl ?_; intro c0 w0 zs hrow hcm hbel hzl; have HR0 := Lib.hid hrow; have HB0 := Lib.hid hbel; clear hrow hzl hbel)
  have hr0 := HR0.out
  rw [World.size_alloc] at hr0
  have R0 := Lib.hid (rd_row8 hr0)
  have hz0 : w.heap.size + 2 ≤ w0.heap.size := by have := hr0.lt; omega
  have hb0 := HB0.out
  rw [World.size_alloc] at hb0
  clear hr0 HR0 HB0
  have BX0 := Lib.hid ((RBox.new w ⟨k, o, t, p, s, key, val⟩).below hb0 (by simp))
  refine (PE.out _ c0 w0 R0.out hcm).mono ?_
  rw [HE.out]
  rintro e w1 ⟨A1, c1, rfl, ho1, hb1⟩
  simp only at ho1 ⊢
  have R1 := Lib.hid (R0.out.below hb1)
  have BX1 := Lib.hid (BX0.out.below hb1 (by omega))
  have T1 := Lib.hid ((((Below.refl w.heap.size w).alloc (Nat.le_refl _) (.cells #[.int .i64 k, .int .i64 o, .int .i64 t, .int .i64 p, .int .i64 s, .string key, .string val] 43)).trans (hb0.mono (by simp))).trans (hb1.mono (by omega)))
  have hz1 : w.heap.size + 1 ≤ w1.heap.size := by have := hb1.size; omega
  clear ho1 hb1 hb0
  have R1' : Hid (Rd w1 (some ⟨w.heap.size + 1, 0, none⟩) (b8 ys)) := Lib.hid (by rw [← HY.out]; simpa using R1.out)
  obtain ⟨x0, x1, x2, x3, x4, x5, x6⟩ := (BX1.out).facts
  simp only at x0 x1 x2 x3 x4 x5 x6
  go_wp2_with fail
  refine (rnew_is w1).mono ?_
  rintro e w2 ⟨rfl, hw2⟩
  have V2 : Hid (Wr w1.heap.size w2 110 w1.heap.size (.slice none 0 0) []) := Lib.hid (by rw [hw2]; exact rnew_wr w1.heap.size w1 (Nat.le_refl _))
  have D2 : Hid (Below w1.heap.size w1 w2) := Lib.hid (by rw [hw2]; exact (Below.refl _ _).alloc (Nat.le_refl _) _)
  have hl2 : ([] : List Nat).length ≤ 0 := Nat.le_refl _
  clear hw2
  clear x0 x1 x2 x3 x4 x5 x6
  obtain ⟨x0, x1, x2, x3, x4, x5, x6⟩ := (BX1.out.below D2.out (by omega)).facts
  simp only at x0 x1 x2 x3 x4 x5 x6
  go_wp2_with fail
  refine (rbyte_is w1.heap.size w1.heap.size (.slice none 0 0) [] 4 w2 V2.out  (by omega) D2.out.size).mono ?_
  intro e w3 hw
  obtain ⟨v3, rfl, h, b⟩ := hw.to' V2.out
  have V3 := Lib.hid h
  have D3 := Lib.hid (D2.out.trans b)
  obtain ⟨X3, hX⟩ : ∃ X, X = [] ++ [4] := ⟨_, rfl⟩
  have hl3 : X3.length ≤ 1 := by rw [hX]; simp only [List.length_append, List.length_cons, List.length_nil, sb_length]; omega
  have HX3 := Lib.hid hX
  rw [← hX] at V3
  clear hw h b hX
  clear x0 x1 x2 x3 x4 x5 x6
  obtain ⟨x0, x1, x2, x3, x4, x5, x6⟩ := (BX1.out.below D3.out (by omega)).facts
  simp only at x0 x1 x2 x3 x4 x5 x6
  go_wp2_with fail
  refine (ruvarint_w w1.heap.size w1.heap.size v3 X3 o w3 V3.out (by omega) (by omega) D3.out.size).mono ?_
  intro e w4 hw
  obtain ⟨v4, rfl, h, b⟩ := hw.to' V3.out
  have V4 := Lib.hid h
  have D4 := Lib.hid (D3.out.trans b)
  obtain ⟨X4, hX⟩ : ∃ X, X = X3 ++ Uv.uv o := ⟨_, rfl⟩
  have hl4 : X4.length ≤ 11 := by rw [hX]; simp only [List.length_append, List.length_cons, List.length_nil, sb_length]; omega
  have HX4 := Lib.hid hX
  rw [← hX] at V4
  clear hw h b hX
  clear x0 x1 x2 x3 x4 x5 x6
  obtain ⟨x0, x1, x2, x3, x4, x5, x6⟩ := (BX1.out.below D4.out (by omega)).facts
  simp only at x0 x1 x2 x3 x4 x5 x6
  go_wp2_with fail
  refine (ruvarint_w w1.heap.size w1.heap.size v4 X4 t w4 V4.out (by omega) (by omega) D4.out.size).mono ?_
  intro e w5 hw
  obtain ⟨v5, rfl, h, b⟩ := hw.to' V4.out
  have V5 := Lib.hid h
  have D5 := Lib.hid (D4.out.trans b)
  obtain ⟨X5, hX⟩ : ∃ X, X = X4 ++ Uv.uv t := ⟨_, rfl⟩
  have hl5 : X5.length ≤ 21 := by rw [hX]; simp only [List.length_append, List.length_cons, List.length_nil, sb_length]; omega
  have HX5 := Lib.hid hX
  rw [← hX] at V5
  clear hw h b hX
  clear x0 x1 x2 x3 x4 x5 x6
  obtain ⟨x0, x1, x2, x3, x4, x5, x6⟩ := (BX1.out.below D5.out (by omega)).facts
  simp only at x0 x1 x2 x3 x4 x5 x6
  go_wp2_with fail
  refine (ruvarint_w w1.heap.size w1.heap.size v5 X5 p w5 V5.out (by omega) (by omega) D5.out.size).mono ?_
  intro e w6 hw
  obtain ⟨v6, rfl, h, b⟩ := hw.to' V5.out
  have V6 := Lib.hid h
  have D6 := Lib.hid (D5.out.trans b)
  obtain ⟨X6, hX⟩ : ∃ X, X = X5 ++ Uv.uv p := ⟨_, rfl⟩
  have hl6 : X6.length ≤ 31 := by rw [hX]; simp only [List.length_append, List.length_cons, List.length_nil, sb_length]; omega
  have HX6 := Lib.hid hX
  rw [← hX] at V6
  clear hw h b hX
  clear x0 x1 x2 x3 x4 x5 x6
  obtain ⟨x0, x1, x2, x3, x4, x5, x6⟩ := (BX1.out.below D6.out (by omega)).facts
  simp only at x0 x1 x2 x3 x4 x5 x6
  go_wp2_with fail
  refine (ruvarint_w w1.heap.size w1.heap.size v6 X6 s w6 V6.out (by omega) (by omega) D6.out.size).mono ?_
  intro e w7 hw
  obtain ⟨v7, rfl, h, b⟩ := hw.to' V6.out
  have V7 := Lib.hid h
  have D7 := Lib.hid (D6.out.trans b)
  obtain ⟨X7, hX⟩ : ∃ X, X = X6 ++ Uv.uv s := ⟨_, rfl⟩
  have hl7 : X7.length ≤ 41 := by rw [hX]; simp only [List.length_append, List.length_cons, List.length_nil, sb_length]; omega
  have HX7 := Lib.hid hX
  rw [← hX] at V7
  clear hw h b hX
  clear x0 x1 x2 x3 x4 x5 x6
  obtain ⟨x0, x1, x2, x3, x4, x5, x6⟩ := (BX1.out.below D7.out (by omega)).facts
  simp only at x0 x1 x2 x3 x4 x5 x6
  go_wp2_with fail
  refine (rtext_w w1.heap.size w1.heap.size v7 X7 key w7 V7.out  (by omega) D7.out.size).mono ?_
  intro e w8 hw
  obtain ⟨v8, rfl, h, b⟩ := hw.to' V7.out
  have V8 := Lib.hid h
  have D8 := Lib.hid (D7.out.trans b)
  obtain ⟨X8, hX⟩ : ∃ X, X = X7 ++ (Uv.uv key.size ++ sb key) := ⟨_, rfl⟩
  have hl8 : X8.length ≤ 115 := by rw [hX]; simp only [List.length_append, List.length_cons, List.length_nil, sb_length]; omega
  have HX8 := Lib.hid hX
  rw [List.append_assoc, ← hX] at V8
  clear hw h b hX
  clear x0 x1 x2 x3 x4 x5 x6
  obtain ⟨x0, x1, x2, x3, x4, x5, x6⟩ := (BX1.out.below D8.out (by omega)).facts
  simp only at x0 x1 x2 x3 x4 x5 x6
  go_wp2_with fail
  refine (rraw_is w1.heap.size w1.heap.size v8 X8 (some ⟨w.heap.size + 1, 0, none⟩) val.size c0 ys w8 V8.out (R1'.out.below D8.out) (by rw [← HY.out, sb_length]) (by omega) D8.out.size).mono ?_
  intro e w9 hw
  obtain ⟨v9, rfl, h, b⟩ := hw.to' V8.out
  have V9 := Lib.hid h
  have D9 := Lib.hid (D8.out.trans b)
  obtain ⟨X9, hX⟩ : ∃ X, X = X8 ++ ys := ⟨_, rfl⟩
  have hl9 : X9.length ≤ 1139 := by rw [hX]; simp only [List.length_append]; omega
  have HX9 := Lib.hid hX
  rw [← hX] at V9
  clear hw h b hX
  go_wp2_with fail
  refine (rbytes_w w1.heap.size w1.heap.size v9 X9 w9 V9.out (by omega)).mono ?_
  rintro e wz ⟨Az, cz, rfl, hoz, hbz⟩
  have OZ := Lib.hid hoz
  have BZ := Lib.hid hbz
  clear hoz hbz
  go_wp2_with fail
  go_ret
  exact got8_of (HD.out.trans (by rw [HX9.out, HX8.out, HX7.out, HX6.out, HX5.out, HX4.out, HX3.out]; simp only [List.nil_append, List.append_assoc, List.append_nil])) OZ.out (T1.out.trans (D9.out.mono (by omega))) BZ.out
set_option maxHeartbeats 2000000 in
set_option maxRecDepth 100000 in
theorem rrecbody_1fft (x : Rc) (w : World) (hm : May x) (kk : ¬ x.k = 2) (c2 : (shrt (sb x.val)).2 = false) (hp : ¬ 0 < x.p) (c4 : (enc (sb x.val)).2 = 0) : Calls Tryz.prog 97 #[x.v] w fun e w' => Got8 w w' e (bdy x) := by
  obtain ⟨k, o, t, p, s, key, val⟩ := x
  obtain ⟨m1, m2, m3, m4, m5, m6, m7, m8, m9⟩ := hm
  simp only at m1 m2 m3 m4 m5 m6 m7 m8 m9
  obtain ⟨o, rfl⟩ : ∃ n : Nat, o = (n : Int) := ⟨o.toNat, by omega⟩
  obtain ⟨t, rfl⟩ : ∃ n : Nat, t = (n : Int) := ⟨t.toNat, by omega⟩
  obtain ⟨p, rfl⟩ : ∃ n : Nat, p = (n : Int) := ⟨p.toNat, by omega⟩
  obtain ⟨s, rfl⟩ : ∃ n : Nat, s = (n : Int) := ⟨s.toNat, by omega⟩
  obtain ⟨q, hq⟩ : ∃ q, shrt (sb val) = q := ⟨_, rfl⟩
  obtain ⟨ys, sm⟩ := q
  have hyl : ys.length ≤ 1024 := by have h := shrt_len (sb val); rw [hq, sb_length] at h; simp only at h; omega
  have hsm : k = 2 → sm = false := fun h => by
    have h0 := m9 h
    cases sm with
    | false => rfl
    | true =>
      have h1 := hq
      unfold shrt at h1
      rw [sb_length, h0] at h1
      rw [if_neg (by omega)] at h1
      simp at h1
  have HQ := Lib.hid hq
  have HBD : Hid (∀ F N, flg ⟨k, o, t, p, s, key, val⟩ = F → nums ⟨k, o, t, p, s, key, val⟩ = N → bdy ⟨k, o, t, p, s, key, val⟩ = [F] ++ Uv.uv o ++ Uv.uv t ++ N ++ Uv.uv key.size ++ sb key ++ ys) := Lib.hid (fun F N h1 h2 => by unfold bdy; rw [h1, h2]; simp only [hq, Int.toNat_natCast])
  have hlo := Uv.uv_len_64 o (by omega)
  have hlt := Uv.uv_len_64 t (by omega)
  have hlp := Uv.uv_len_64 p (by omega)
  have hls := Uv.uv_len_64 s (by omega)
  have hlk := Uv.uv_len_64 key.size (by omega)
  unfold Rc.v
  simp only
  simp only at kk c2 hp c4
  rw [hq] at c2
  simp only at c2
  subst c2
  obtain ⟨eb, hE⟩ : ∃ q, enc (sb val) = q := ⟨_, rfl⟩
  obtain ⟨es, ez⟩ := eb
  have hsh : (if ez = 0 ∧ es.length < val.size then (es, true) else (sb val, false)) = (ys, false) := by
    rw [← hq]
    unfold shrt
    rw [hE, sb_length]
  have HE := Lib.hid hE
  clear hq hE
  have hez : ez = 0 := by have h := HE.out; rw [h] at c4; exact c4
  clear c4
  have PE := Lib.hid (fun A c W (hr : Rd W A (b8 (sb val))) (hc : val.size ≤ c) => rencode_is A val.size c (sb val) W hr (sb_length val) (sb_by val) (by omega))
  have k1 : (k == 2) = false := by rw [beq_eq_false_iff_ne]; exact kk
  have HD := Lib.hid (HBD.out 0 [] (by unfold flg; simp only [HQ.out]; have hp1 : p = 0 := (by omega); simp [hp1, kk]) (by unfold nums; simp only [Int.toNat_natCast]; rw [if_neg hp]))
  have he : ¬ (ez = 0 ∧ es.length < val.size) := by
    intro h
    rw [if_pos h] at hsh
    simp at hsh
  rw [if_neg he] at hsh
  injection hsh with hy _
  have HY := Lib.hid hy
  clear hy
  have he3 : ¬ (es.length : Int) < (val.size : Int) := by omega
  subst hez
  clear he
  clear HBD HQ m9 hsm m1 m6
  go_enter Tryz.func97, Tryz.ntmps97
  go_wp2_with (refine wpList_bytes _ rfl (.tmp 9) 9 27 5 rfl Tryz.underlying9 Tryz.underlying27 Tryz.underlying5 val rfl ?_; intro c0 w0 zs hrow hcm hbel hzl; have HR0 := Lib.hid hrow; have HB0 := Lib.hid hbel; clear hrow hzl hbel)
  have hr0 := HR0.out
  rw [World.size_alloc] at hr0
  have R0 := Lib.hid (rd_row8 hr0)
  have hz0 : w.heap.size + 2 ≤ w0.heap.size := by have := hr0.lt; omega
  have hb0 := HB0.out
  rw [World.size_alloc] at hb0
  clear hr0 HR0 HB0
  have BX0 := Lib.hid ((RBox.new w ⟨k, o, t, p, s, key, val⟩).below hb0 (by simp))
  refine (PE.out _ c0 w0 R0.out hcm).mono ?_
  rw [HE.out]
  rintro e w1 ⟨A1, c1, rfl, ho1, hb1⟩
  simp only at ho1 ⊢
  have R1 := Lib.hid (R0.out.below hb1)
  have BX1 := Lib.hid (BX0.out.below hb1 (by omega))
  have T1 := Lib.hid ((((Below.refl w.heap.size w).alloc (Nat.le_refl _) (.cells #[.int .i64 k, .int .i64 o, .int .i64 t, .int .i64 p, .int .i64 s, .string key, .string val] 43)).trans (hb0.mono (by simp))).trans (hb1.mono (by omega)))
  have hz1 : w.heap.size + 1 ≤ w1.heap.size := by have := hb1.size; omega
  clear ho1 hb1 hb0
  have R1' : Hid (Rd w1 (some ⟨w.heap.size + 1, 0, none⟩) (b8 ys)) := Lib.hid (by rw [← HY.out]; simpa using R1.out)
  obtain ⟨x0, x1, x2, x3, x4, x5, x6⟩ := (BX1.out).facts
  simp only at x0 x1 x2 x3 x4 x5 x6
  go_wp2_with fail
  refine (rnew_is w1).mono ?_
  rintro e w2 ⟨rfl, hw2⟩
  have V2 : Hid (Wr w1.heap.size w2 110 w1.heap.size (.slice none 0 0) []) := Lib.hid (by rw [hw2]; exact rnew_wr w1.heap.size w1 (Nat.le_refl _))
  have D2 : Hid (Below w1.heap.size w1 w2) := Lib.hid (by rw [hw2]; exact (Below.refl _ _).alloc (Nat.le_refl _) _)
  have hl2 : ([] : List Nat).length ≤ 0 := Nat.le_refl _
  clear hw2
  clear x0 x1 x2 x3 x4 x5 x6
  obtain ⟨x0, x1, x2, x3, x4, x5, x6⟩ := (BX1.out.below D2.out (by omega)).facts
  simp only at x0 x1 x2 x3 x4 x5 x6
  go_wp2_with fail
  refine (rbyte_is w1.heap.size w1.heap.size (.slice none 0 0) [] 0 w2 V2.out  (by omega) D2.out.size).mono ?_
  intro e w3 hw
  obtain ⟨v3, rfl, h, b⟩ := hw.to' V2.out
  have V3 := Lib.hid h
  have D3 := Lib.hid (D2.out.trans b)
  obtain ⟨X3, hX⟩ : ∃ X, X = [] ++ [0] := ⟨_, rfl⟩
  have hl3 : X3.length ≤ 1 := by rw [hX]; simp only [List.length_append, List.length_cons, List.length_nil, sb_length]; omega
  have HX3 := Lib.hid hX
  rw [← hX] at V3
  clear hw h b hX
  clear x0 x1 x2 x3 x4 x5 x6
  obtain ⟨x0, x1, x2, x3, x4, x5, x6⟩ := (BX1.out.below D3.out (by omega)).facts
  simp only at x0 x1 x2 x3 x4 x5 x6
  go_wp2_with fail
  refine (ruvarint_w w1.heap.size w1.heap.size v3 X3 o w3 V3.out (by omega) (by omega) D3.out.size).mono ?_
  intro e w4 hw
  obtain ⟨v4, rfl, h, b⟩ := hw.to' V3.out
  have V4 := Lib.hid h
  have D4 := Lib.hid (D3.out.trans b)
  obtain ⟨X4, hX⟩ : ∃ X, X = X3 ++ Uv.uv o := ⟨_, rfl⟩
  have hl4 : X4.length ≤ 11 := by rw [hX]; simp only [List.length_append, List.length_cons, List.length_nil, sb_length]; omega
  have HX4 := Lib.hid hX
  rw [← hX] at V4
  clear hw h b hX
  clear x0 x1 x2 x3 x4 x5 x6
  obtain ⟨x0, x1, x2, x3, x4, x5, x6⟩ := (BX1.out.below D4.out (by omega)).facts
  simp only at x0 x1 x2 x3 x4 x5 x6
  go_wp2_with fail
  refine (ruvarint_w w1.heap.size w1.heap.size v4 X4 t w4 V4.out (by omega) (by omega) D4.out.size).mono ?_
  intro e w5 hw
  obtain ⟨v5, rfl, h, b⟩ := hw.to' V4.out
  have V5 := Lib.hid h
  have D5 := Lib.hid (D4.out.trans b)
  obtain ⟨X5, hX⟩ : ∃ X, X = X4 ++ Uv.uv t := ⟨_, rfl⟩
  have hl5 : X5.length ≤ 21 := by rw [hX]; simp only [List.length_append, List.length_cons, List.length_nil, sb_length]; omega
  have HX5 := Lib.hid hX
  rw [← hX] at V5
  clear hw h b hX
  clear x0 x1 x2 x3 x4 x5 x6
  obtain ⟨x0, x1, x2, x3, x4, x5, x6⟩ := (BX1.out.below D5.out (by omega)).facts
  simp only at x0 x1 x2 x3 x4 x5 x6
  go_wp2_with fail
  refine (rtext_w w1.heap.size w1.heap.size v5 X5 key w5 V5.out  (by omega) D5.out.size).mono ?_
  intro e w6 hw
  obtain ⟨v6, rfl, h, b⟩ := hw.to' V5.out
  have V6 := Lib.hid h
  have D6 := Lib.hid (D5.out.trans b)
  obtain ⟨X6, hX⟩ : ∃ X, X = X5 ++ (Uv.uv key.size ++ sb key) := ⟨_, rfl⟩
  have hl6 : X6.length ≤ 95 := by rw [hX]; simp only [List.length_append, List.length_cons, List.length_nil, sb_length]; omega
  have HX6 := Lib.hid hX
  rw [List.append_assoc, ← hX] at V6
  clear hw h b hX
  clear x0 x1 x2 x3 x4 x5 x6
  obtain ⟨x0, x1, x2, x3, x4, x5, x6⟩ := (BX1.out.below D6.out (by omega)).facts
  simp only at x0 x1 x2 x3 x4 x5 x6
  go_wp2_with fail
  refine (rraw_is w1.heap.size w1.heap.size v6 X6 (some ⟨w.heap.size + 1, 0, none⟩) val.size c0 ys w6 V6.out (R1'.out.below D6.out) (by rw [← HY.out, sb_length]) (by omega) D6.out.size).mono ?_
  intro e w7 hw
  obtain ⟨v7, rfl, h, b⟩ := hw.to' V6.out
  have V7 := Lib.hid h
  have D7 := Lib.hid (D6.out.trans b)
  obtain ⟨X7, hX⟩ : ∃ X, X = X6 ++ ys := ⟨_, rfl⟩
  have hl7 : X7.length ≤ 1119 := by rw [hX]; simp only [List.length_append]; omega
  have HX7 := Lib.hid hX
  rw [← hX] at V7
  clear hw h b hX
  go_wp2_with fail
  refine (rbytes_w w1.heap.size w1.heap.size v7 X7 w7 V7.out (by omega)).mono ?_
  rintro e wz ⟨Az, cz, rfl, hoz, hbz⟩
  have OZ := Lib.hid hoz
  have BZ := Lib.hid hbz
  clear hoz hbz
  go_wp2_with fail
  go_ret
  exact got8_of (HD.out.trans (by rw [HX7.out, HX6.out, HX5.out, HX4.out, HX3.out]; simp only [List.nil_append, List.append_assoc, List.append_nil])) OZ.out (T1.out.trans (D7.out.mono (by omega))) BZ.out
set_option maxHeartbeats 2000000 in
set_option maxRecDepth 100000 in
theorem rrecbody_1fff (x : Rc) (w : World) (hm : May x) (kk : ¬ x.k = 2) (c2 : (shrt (sb x.val)).2 = false) (hp : ¬ 0 < x.p) (c4 : ¬ (enc (sb x.val)).2 = 0) : Calls Tryz.prog 97 #[x.v] w fun e w' => Got8 w w' e (bdy x) := by
  obtain ⟨k, o, t, p, s, key, val⟩ := x
  obtain ⟨m1, m2, m3, m4, m5, m6, m7, m8, m9⟩ := hm
  simp only at m1 m2 m3 m4 m5 m6 m7 m8 m9
  obtain ⟨o, rfl⟩ : ∃ n : Nat, o = (n : Int) := ⟨o.toNat, by omega⟩
  obtain ⟨t, rfl⟩ : ∃ n : Nat, t = (n : Int) := ⟨t.toNat, by omega⟩
  obtain ⟨p, rfl⟩ : ∃ n : Nat, p = (n : Int) := ⟨p.toNat, by omega⟩
  obtain ⟨s, rfl⟩ : ∃ n : Nat, s = (n : Int) := ⟨s.toNat, by omega⟩
  obtain ⟨q, hq⟩ : ∃ q, shrt (sb val) = q := ⟨_, rfl⟩
  obtain ⟨ys, sm⟩ := q
  have hyl : ys.length ≤ 1024 := by have h := shrt_len (sb val); rw [hq, sb_length] at h; simp only at h; omega
  have hsm : k = 2 → sm = false := fun h => by
    have h0 := m9 h
    cases sm with
    | false => rfl
    | true =>
      have h1 := hq
      unfold shrt at h1
      rw [sb_length, h0] at h1
      rw [if_neg (by omega)] at h1
      simp at h1
  have HQ := Lib.hid hq
  have HBD : Hid (∀ F N, flg ⟨k, o, t, p, s, key, val⟩ = F → nums ⟨k, o, t, p, s, key, val⟩ = N → bdy ⟨k, o, t, p, s, key, val⟩ = [F] ++ Uv.uv o ++ Uv.uv t ++ N ++ Uv.uv key.size ++ sb key ++ ys) := Lib.hid (fun F N h1 h2 => by unfold bdy; rw [h1, h2]; simp only [hq, Int.toNat_natCast])
  have hlo := Uv.uv_len_64 o (by omega)
  have hlt := Uv.uv_len_64 t (by omega)
  have hlp := Uv.uv_len_64 p (by omega)
  have hls := Uv.uv_len_64 s (by omega)
  have hlk := Uv.uv_len_64 key.size (by omega)
  unfold Rc.v
  simp only
  simp only at kk c2 hp c4
  rw [hq] at c2
  simp only at c2
  subst c2
  obtain ⟨eb, hE⟩ : ∃ q, enc (sb val) = q := ⟨_, rfl⟩
  obtain ⟨es, ez⟩ := eb
  have hsh : (if ez = 0 ∧ es.length < val.size then (es, true) else (sb val, false)) = (ys, false) := by
    rw [← hq]
    unfold shrt
    rw [hE, sb_length]
  have HE := Lib.hid hE
  clear hq hE
  have hez : ¬ ez = 0 := by have h := HE.out; rw [h] at c4; exact c4
  clear c4
  have PE := Lib.hid (fun A c W (hr : Rd W A (b8 (sb val))) (hc : val.size ≤ c) => rencode_is A val.size c (sb val) W hr (sb_length val) (sb_by val) (by omega))
  have k1 : (k == 2) = false := by rw [beq_eq_false_iff_ne]; exact kk
  have HD := Lib.hid (HBD.out 0 [] (by unfold flg; simp only [HQ.out]; have hp1 : p = 0 := (by omega); simp [hp1, kk]) (by unfold nums; simp only [Int.toNat_natCast]; rw [if_neg hp]))
  have he : ¬ (ez = 0 ∧ es.length < val.size) := by
    intro h
    rw [if_pos h] at hsh
    simp at hsh
  rw [if_neg he] at hsh
  injection hsh with hy _
  have HY := Lib.hid hy
  clear hy
  have he3 : (ez == 0) = false := by rw [beq_eq_false_iff_ne]; exact hez
  clear he
  clear HBD HQ m9 hsm m1 m6
  go_enter Tryz.func97, Tryz.ntmps97
  go_wp2_with (refine wpList_bytes _ rfl (.tmp 9) 9 27 5 rfl Tryz.underlying9 Tryz.underlying27 Tryz.underlying5 val rfl ?_; intro c0 w0 zs hrow hcm hbel hzl; have HR0 := Lib.hid hrow; have HB0 := Lib.hid hbel; clear hrow hzl hbel)
  have hr0 := HR0.out
  rw [World.size_alloc] at hr0
  have R0 := Lib.hid (rd_row8 hr0)
  have hz0 : w.heap.size + 2 ≤ w0.heap.size := by have := hr0.lt; omega
  have hb0 := HB0.out
  rw [World.size_alloc] at hb0
  clear hr0 HR0 HB0
  have BX0 := Lib.hid ((RBox.new w ⟨k, o, t, p, s, key, val⟩).below hb0 (by simp))
  refine (PE.out _ c0 w0 R0.out hcm).mono ?_
  rw [HE.out]
  rintro e w1 ⟨A1, c1, rfl, ho1, hb1⟩
  simp only at ho1 ⊢
  have R1 := Lib.hid (R0.out.below hb1)
  have BX1 := Lib.hid (BX0.out.below hb1 (by omega))
  have T1 := Lib.hid ((((Below.refl w.heap.size w).alloc (Nat.le_refl _) (.cells #[.int .i64 k, .int .i64 o, .int .i64 t, .int .i64 p, .int .i64 s, .string key, .string val] 43)).trans (hb0.mono (by simp))).trans (hb1.mono (by omega)))
  have hz1 : w.heap.size + 1 ≤ w1.heap.size := by have := hb1.size; omega
  clear ho1 hb1 hb0
  have R1' : Hid (Rd w1 (some ⟨w.heap.size + 1, 0, none⟩) (b8 ys)) := Lib.hid (by rw [← HY.out]; simpa using R1.out)
  obtain ⟨x0, x1, x2, x3, x4, x5, x6⟩ := (BX1.out).facts
  simp only at x0 x1 x2 x3 x4 x5 x6
  go_wp2_with fail
  refine (rnew_is w1).mono ?_
  rintro e w2 ⟨rfl, hw2⟩
  have V2 : Hid (Wr w1.heap.size w2 110 w1.heap.size (.slice none 0 0) []) := Lib.hid (by rw [hw2]; exact rnew_wr w1.heap.size w1 (Nat.le_refl _))
  have D2 : Hid (Below w1.heap.size w1 w2) := Lib.hid (by rw [hw2]; exact (Below.refl _ _).alloc (Nat.le_refl _) _)
  have hl2 : ([] : List Nat).length ≤ 0 := Nat.le_refl _
  clear hw2
  clear x0 x1 x2 x3 x4 x5 x6
  obtain ⟨x0, x1, x2, x3, x4, x5, x6⟩ := (BX1.out.below D2.out (by omega)).facts
  simp only at x0 x1 x2 x3 x4 x5 x6
  go_wp2_with fail
  refine (rbyte_is w1.heap.size w1.heap.size (.slice none 0 0) [] 0 w2 V2.out  (by omega) D2.out.size).mono ?_
  intro e w3 hw
  obtain ⟨v3, rfl, h, b⟩ := hw.to' V2.out
  have V3 := Lib.hid h
  have D3 := Lib.hid (D2.out.trans b)
  obtain ⟨X3, hX⟩ : ∃ X, X = [] ++ [0] := ⟨_, rfl⟩
  have hl3 : X3.length ≤ 1 := by rw [hX]; simp only [List.length_append, List.length_cons, List.length_nil, sb_length]; omega
  have HX3 := Lib.hid hX
  rw [← hX] at V3
  clear hw h b hX
  clear x0 x1 x2 x3 x4 x5 x6
  obtain ⟨x0, x1, x2, x3, x4, x5, x6⟩ := (BX1.out.below D3.out (by omega)).facts
  simp only at x0 x1 x2 x3 x4 x5 x6
  go_wp2_with fail
  refine (ruvarint_w w1.heap.size w1.heap.size v3 X3 o w3 V3.out (by omega) (by omega) D3.out.size).mono ?_
  intro e w4 hw
  obtain ⟨v4, rfl, h, b⟩ := hw.to' V3.out
  have V4 := Lib.hid h
  have D4 := Lib.hid (D3.out.trans b)
  obtain ⟨X4, hX⟩ : ∃ X, X = X3 ++ Uv.uv o := ⟨_, rfl⟩
  have hl4 : X4.length ≤ 11 := by rw [hX]; simp only [List.length_append, List.length_cons, List.length_nil, sb_length]; omega
  have HX4 := Lib.hid hX
  rw [← hX] at V4
  clear hw h b hX
  clear x0 x1 x2 x3 x4 x5 x6
  obtain ⟨x0, x1, x2, x3, x4, x5, x6⟩ := (BX1.out.below D4.out (by omega)).facts
  simp only at x0 x1 x2 x3 x4 x5 x6
  go_wp2_with fail
  refine (ruvarint_w w1.heap.size w1.heap.size v4 X4 t w4 V4.out (by omega) (by omega) D4.out.size).mono ?_
  intro e w5 hw
  obtain ⟨v5, rfl, h, b⟩ := hw.to' V4.out
  have V5 := Lib.hid h
  have D5 := Lib.hid (D4.out.trans b)
  obtain ⟨X5, hX⟩ : ∃ X, X = X4 ++ Uv.uv t := ⟨_, rfl⟩
  have hl5 : X5.length ≤ 21 := by rw [hX]; simp only [List.length_append, List.length_cons, List.length_nil, sb_length]; omega
  have HX5 := Lib.hid hX
  rw [← hX] at V5
  clear hw h b hX
  clear x0 x1 x2 x3 x4 x5 x6
  obtain ⟨x0, x1, x2, x3, x4, x5, x6⟩ := (BX1.out.below D5.out (by omega)).facts
  simp only at x0 x1 x2 x3 x4 x5 x6
  go_wp2_with fail
  refine (rtext_w w1.heap.size w1.heap.size v5 X5 key w5 V5.out  (by omega) D5.out.size).mono ?_
  intro e w6 hw
  obtain ⟨v6, rfl, h, b⟩ := hw.to' V5.out
  have V6 := Lib.hid h
  have D6 := Lib.hid (D5.out.trans b)
  obtain ⟨X6, hX⟩ : ∃ X, X = X5 ++ (Uv.uv key.size ++ sb key) := ⟨_, rfl⟩
  have hl6 : X6.length ≤ 95 := by rw [hX]; simp only [List.length_append, List.length_cons, List.length_nil, sb_length]; omega
  have HX6 := Lib.hid hX
  rw [List.append_assoc, ← hX] at V6
  clear hw h b hX
  clear x0 x1 x2 x3 x4 x5 x6
  obtain ⟨x0, x1, x2, x3, x4, x5, x6⟩ := (BX1.out.below D6.out (by omega)).facts
  simp only at x0 x1 x2 x3 x4 x5 x6
  go_wp2_with fail
  refine (rraw_is w1.heap.size w1.heap.size v6 X6 (some ⟨w.heap.size + 1, 0, none⟩) val.size c0 ys w6 V6.out (R1'.out.below D6.out) (by rw [← HY.out, sb_length]) (by omega) D6.out.size).mono ?_
  intro e w7 hw
  obtain ⟨v7, rfl, h, b⟩ := hw.to' V6.out
  have V7 := Lib.hid h
  have D7 := Lib.hid (D6.out.trans b)
  obtain ⟨X7, hX⟩ : ∃ X, X = X6 ++ ys := ⟨_, rfl⟩
  have hl7 : X7.length ≤ 1119 := by rw [hX]; simp only [List.length_append]; omega
  have HX7 := Lib.hid hX
  rw [← hX] at V7
  clear hw h b hX
  go_wp2_with fail
  refine (rbytes_w w1.heap.size w1.heap.size v7 X7 w7 V7.out (by omega)).mono ?_
  rintro e wz ⟨Az, cz, rfl, hoz, hbz⟩
  have OZ := Lib.hid hoz
  have BZ := Lib.hid hbz
  clear hoz hbz
  go_wp2_with fail
  go_ret
  exact got8_of (HD.out.trans (by rw [HX7.out, HX6.out, HX5.out, HX4.out, HX3.out]; simp only [List.nil_append, List.append_assoc, List.append_nil])) OZ.out (T1.out.trans (D7.out.mono (by omega))) BZ.out
set_option maxHeartbeats 2000000 in
set_option maxRecDepth 100000 in
theorem rrecbody_1tt (x : Rc) (w : World) (hm : May x) (kk : ¬ x.k = 2) (c2 : (shrt (sb x.val)).2 = true) (hp : 0 < x.p) : Calls Tryz.prog 97 #[x.v] w fun e w' => Got8 w w' e (bdy x) := by
  obtain ⟨k, o, t, p, s, key, val⟩ := x
  obtain ⟨m1, m2, m3, m4, m5, m6, m7, m8, m9⟩ := hm
  simp only at m1 m2 m3 m4 m5 m6 m7 m8 m9
  obtain ⟨o, rfl⟩ : ∃ n : Nat, o = (n : Int) := ⟨o.toNat, by omega⟩
  obtain ⟨t, rfl⟩ : ∃ n : Nat, t = (n : Int) := ⟨t.toNat, by omega⟩
  obtain ⟨p, rfl⟩ : ∃ n : Nat, p = (n : Int) := ⟨p.toNat, by omega⟩
  obtain ⟨s, rfl⟩ : ∃ n : Nat, s = (n : Int) := ⟨s.toNat, by omega⟩
  obtain ⟨q, hq⟩ : ∃ q, shrt (sb val) = q := ⟨_, rfl⟩
  obtain ⟨ys, sm⟩ := q
  have hyl : ys.length ≤ 1024 := by have h := shrt_len (sb val); rw [hq, sb_length] at h; simp only at h; omega
  have hsm : k = 2 → sm = false := fun h => by
    have h0 := m9 h
    cases sm with
    | false => rfl
    | true =>
      have h1 := hq
      unfold shrt at h1
      rw [sb_length, h0] at h1
      rw [if_neg (by omega)] at h1
      simp at h1
  have HQ := Lib.hid hq
  have HBD : Hid (∀ F N, flg ⟨k, o, t, p, s, key, val⟩ = F → nums ⟨k, o, t, p, s, key, val⟩ = N → bdy ⟨k, o, t, p, s, key, val⟩ = [F] ++ Uv.uv o ++ Uv.uv t ++ N ++ Uv.uv key.size ++ sb key ++ ys) := Lib.hid (fun F N h1 h2 => by unfold bdy; rw [h1, h2]; simp only [hq, Int.toNat_natCast])
  have hlo := Uv.uv_len_64 o (by omega)
  have hlt := Uv.uv_len_64 t (by omega)
  have hlp := Uv.uv_len_64 p (by omega)
  have hls := Uv.uv_len_64 s (by omega)
  have hlk := Uv.uv_len_64 key.size (by omega)
  unfold Rc.v
  simp only
  simp only at kk c2 hp
  rw [hq] at c2
  simp only at c2
  subst c2
  obtain ⟨eb, hE⟩ : ∃ q, enc (sb val) = q := ⟨_, rfl⟩
  obtain ⟨es, ez⟩ := eb
  have hsh : (if ez = 0 ∧ es.length < val.size then (es, true) else (sb val, false)) = (ys, true) := by
    rw [← hq]
    unfold shrt
    rw [hE, sb_length]
  have HE := Lib.hid hE
  clear hq hE
  have PE := Lib.hid (fun A c W (hr : Rd W A (b8 (sb val))) (hc : val.size ≤ c) => rencode_is A val.size c (sb val) W hr (sb_length val) (sb_by val) (by omega))
  have k1 : (k == 2) = false := by rw [beq_eq_false_iff_ne]; exact kk
  have HD := Lib.hid (HBD.out 6 (Uv.uv p ++ Uv.uv s) (by unfold flg; simp only [HQ.out]; have hp1 : 0 < p := (by omega); simp [hp1, kk]) (by unfold nums; simp only [Int.toNat_natCast]; rw [if_pos hp]))
  have he : ez = 0 ∧ es.length < val.size := by
    apply Classical.byContradiction
    intro h
    rw [if_neg h] at hsh
    simp at hsh
  rw [if_pos he] at hsh
  injection hsh with hy _
  subst hy
  obtain ⟨ys, hys⟩ : ∃ ys, ys = es := ⟨_, rfl⟩
  subst hys
  obtain ⟨rfl, he2⟩ := he
  have he3 : (ys.length : Int) < (val.size : Int) := by omega
  clear HBD HQ m9 hsm m1 m6
  go_enter Tryz.func97, Tryz.ntmps97
  go_wp2_with (refine wpList_bytes _ rfl (.tmp 9) 9 27 5 rfl Tryz.underlying9 Tryz.underlying27 Tryz.underlying5 val rfl ?_; intro c0 w0 zs hrow hcm hbel hzl; have HR0 := Lib.hid hrow; have HB0 := Lib.hid hbel; clear hrow hzl hbel)
  have hr0 := HR0.out
  rw [World.size_alloc] at hr0
  have R0 := Lib.hid (rd_row8 hr0)
  have hz0 : w.heap.size + 2 ≤ w0.heap.size := by have := hr0.lt; omega
  have hb0 := HB0.out
  rw [World.size_alloc] at hb0
  clear hr0 HR0 HB0
  have BX0 := Lib.hid ((RBox.new w ⟨k, o, t, p, s, key, val⟩).below hb0 (by simp))
  refine (PE.out _ c0 w0 R0.out hcm).mono ?_
  rw [HE.out]
  rintro e w1 ⟨A1, c1, rfl, ho1, hb1⟩
  simp only at ho1 ⊢
  have R1 := Lib.hid (rd_own ho1)
  have BX1 := Lib.hid (BX0.out.below hb1 (by omega))
  have T1 := Lib.hid ((((Below.refl w.heap.size w).alloc (Nat.le_refl _) (.cells #[.int .i64 k, .int .i64 o, .int .i64 t, .int .i64 p, .int .i64 s, .string key, .string val] 43)).trans (hb0.mono (by simp))).trans (hb1.mono (by omega)))
  have hz1 : w.heap.size + 1 ≤ w1.heap.size := by have := hb1.size; omega
  clear ho1 hb1 hb0
  have R1' := R1
  obtain ⟨x0, x1, x2, x3, x4, x5, x6⟩ := (BX1.out).facts
  simp only at x0 x1 x2 x3 x4 x5 x6
  go_wp2_with fail
  refine (rnew_is w1).mono ?_
  rintro e w2 ⟨rfl, hw2⟩
  have V2 : Hid (Wr w1.heap.size w2 110 w1.heap.size (.slice none 0 0) []) := Lib.hid (by rw [hw2]; exact rnew_wr w1.heap.size w1 (Nat.le_refl _))
  have D2 : Hid (Below w1.heap.size w1 w2) := Lib.hid (by rw [hw2]; exact (Below.refl _ _).alloc (Nat.le_refl _) _)
  have hl2 : ([] : List Nat).length ≤ 0 := Nat.le_refl _
  clear hw2
  clear x0 x1 x2 x3 x4 x5 x6
  obtain ⟨x0, x1, x2, x3, x4, x5, x6⟩ := (BX1.out.below D2.out (by omega)).facts
  simp only at x0 x1 x2 x3 x4 x5 x6
  go_wp2_with fail
  refine (rbyte_is w1.heap.size w1.heap.size (.slice none 0 0) [] 6 w2 V2.out  (by omega) D2.out.size).mono ?_
  intro e w3 hw
  obtain ⟨v3, rfl, h, b⟩ := hw.to' V2.out
  have V3 := Lib.hid h
  have D3 := Lib.hid (D2.out.trans b)
  obtain ⟨X3, hX⟩ : ∃ X, X = [] ++ [6] := ⟨_, rfl⟩
  have hl3 : X3.length ≤ 1 := by rw [hX]; simp only [List.length_append, List.length_cons, List.length_nil, sb_length]; omega
  have HX3 := Lib.hid hX
  rw [← hX] at V3
  clear hw h b hX
  clear x0 x1 x2 x3 x4 x5 x6
  obtain ⟨x0, x1, x2, x3, x4, x5, x6⟩ := (BX1.out.below D3.out (by omega)).facts
  simp only at x0 x1 x2 x3 x4 x5 x6
  go_wp2_with fail
  refine (ruvarint_w w1.heap.size w1.heap.size v3 X3 o w3 V3.out (by omega) (by omega) D3.out.size).mono ?_
  intro e w4 hw
  obtain ⟨v4, rfl, h, b⟩ := hw.to' V3.out
  have V4 := Lib.hid h
  have D4 := Lib.hid (D3.out.trans b)
  obtain ⟨X4, hX⟩ : ∃ X, X = X3 ++ Uv.uv o := ⟨_, rfl⟩
  have hl4 : X4.length ≤ 11 := by rw [hX]; simp only [List.length_append, List.length_cons, List.length_nil, sb_length]; omega
  have HX4 := Lib.hid hX
  rw [← hX] at V4
  clear hw h b hX
  clear x0 x1 x2 x3 x4 x5 x6
  obtain ⟨x0, x1, x2, x3, x4, x5, x6⟩ := (BX1.out.below D4.out (by omega)).facts
  simp only at x0 x1 x2 x3 x4 x5 x6
  go_wp2_with fail
  refine (ruvarint_w w1.heap.size w1.heap.size v4 X4 t w4 V4.out (by omega) (by omega) D4.out.size).mono ?_
  intro e w5 hw
  obtain ⟨v5, rfl, h, b⟩ := hw.to' V4.out
  have V5 := Lib.hid h
  have D5 := Lib.hid (D4.out.trans b)
  obtain ⟨X5, hX⟩ : ∃ X, X = X4 ++ Uv.uv t := ⟨_, rfl⟩
  have hl5 : X5.length ≤ 21 := by rw [hX]; simp only [List.length_append, List.length_cons, List.length_nil, sb_length]; omega
  have HX5 := Lib.hid hX
  rw [← hX] at V5
  clear hw h b hX
  clear x0 x1 x2 x3 x4 x5 x6
  obtain ⟨x0, x1, x2, x3, x4, x5, x6⟩ := (BX1.out.below D5.out (by omega)).facts
  simp only at x0 x1 x2 x3 x4 x5 x6
  go_wp2_with fail
  refine (ruvarint_w w1.heap.size w1.heap.size v5 X5 p w5 V5.out (by omega) (by omega) D5.out.size).mono ?_
  intro e w6 hw
  obtain ⟨v6, rfl, h, b⟩ := hw.to' V5.out
  have V6 := Lib.hid h
  have D6 := Lib.hid (D5.out.trans b)
  obtain ⟨X6, hX⟩ : ∃ X, X = X5 ++ Uv.uv p := ⟨_, rfl⟩
  have hl6 : X6.length ≤ 31 := by rw [hX]; simp only [List.length_append, List.length_cons, List.length_nil, sb_length]; omega
  have HX6 := Lib.hid hX
  rw [← hX] at V6
  clear hw h b hX
  clear x0 x1 x2 x3 x4 x5 x6
  obtain ⟨x0, x1, x2, x3, x4, x5, x6⟩ := (BX1.out.below D6.out (by omega)).facts
  simp only at x0 x1 x2 x3 x4 x5 x6
  go_wp2_with fail
  refine (ruvarint_w w1.heap.size w1.heap.size v6 X6 s w6 V6.out (by omega) (by omega) D6.out.size).mono ?_
  intro e w7 hw
  obtain ⟨v7, rfl, h, b⟩ := hw.to' V6.out
  have V7 := Lib.hid h
  have D7 := Lib.hid (D6.out.trans b)
  obtain ⟨X7, hX⟩ : ∃ X, X = X6 ++ Uv.uv s := ⟨_, rfl⟩
  have hl7 : X7.length ≤ 41 := by rw [hX]; simp only [List.length_append, List.length_cons, List.length_nil, sb_length]; omega
  have HX7 := Lib.hid hX
  rw [← hX] at V7
  clear hw h b hX
  clear x0 x1 x2 x3 x4 x5 x6
  obtain ⟨x0, x1, x2, x3, x4, x5, x6⟩ := (BX1.out.below D7.out (by omega)).facts
  simp only at x0 x1 x2 x3 x4 x5 x6
  go_wp2_with fail
  refine (rtext_w w1.heap.size w1.heap.size v7 X7 key w7 V7.out  (by omega) D7.out.size).mono ?_
  intro e w8 hw
  obtain ⟨v8, rfl, h, b⟩ := hw.to' V7.out
  have V8 := Lib.hid h
  have D8 := Lib.hid (D7.out.trans b)
  obtain ⟨X8, hX⟩ : ∃ X, X = X7 ++ (Uv.uv key.size ++ sb key) := ⟨_, rfl⟩
  have hl8 : X8.length ≤ 115 := by rw [hX]; simp only [List.length_append, List.length_cons, List.length_nil, sb_length]; omega
  have HX8 := Lib.hid hX
  rw [List.append_assoc, ← hX] at V8
  clear hw h b hX
  clear x0 x1 x2 x3 x4 x5 x6
  obtain ⟨x0, x1, x2, x3, x4, x5, x6⟩ := (BX1.out.below D8.out (by omega)).facts
  simp only at x0 x1 x2 x3 x4 x5 x6
  go_wp2_with fail
  refine (rraw_is w1.heap.size w1.heap.size v8 X8 A1 ys.length c1 ys w8 V8.out (R1'.out.below D8.out) rfl (by omega) D8.out.size).mono ?_
  intro e w9 hw
  obtain ⟨v9, rfl, h, b⟩ := hw.to' V8.out
  have V9 := Lib.hid h
  have D9 := Lib.hid (D8.out.trans b)
  obtain ⟨X9, hX⟩ : ∃ X, X = X8 ++ ys := ⟨_, rfl⟩
  have hl9 : X9.length ≤ 1139 := by rw [hX]; simp only [List.length_append]; omega
  have HX9 := Lib.hid hX
  rw [← hX] at V9
  clear hw h b hX
  go_wp2_with fail
  refine (rbytes_w w1.heap.size w1.heap.size v9 X9 w9 V9.out (by omega)).mono ?_
  rintro e wz ⟨Az, cz, rfl, hoz, hbz⟩
  have OZ := Lib.hid hoz
  have BZ := Lib.hid hbz
  clear hoz hbz
  go_wp2_with fail
  go_ret
  exact got8_of (HD.out.trans (by rw [HX9.out, HX8.out, HX7.out, HX6.out, HX5.out, HX4.out, HX3.out]; simp only [List.nil_append, List.append_assoc, List.append_nil])) OZ.out (T1.out.trans (D9.out.mono (by omega))) BZ.out
set_option maxHeartbeats 2000000 in
set_option maxRecDepth 100000 in
theorem rrecbody_1tf (x : Rc) (w : World) (hm : May x) (kk : ¬ x.k = 2) (c2 : (shrt (sb x.val)).2 = true) (hp : ¬ 0 < x.p) : Calls Tryz.prog 97 #[x.v] w fun e w' => Got8 w w' e (bdy x) := by
  obtain ⟨k, o, t, p, s, key, val⟩ := x
  obtain ⟨m1, m2, m3, m4, m5, m6, m7, m8, m9⟩ := hm
  simp only at m1 m2 m3 m4 m5 m6 m7 m8 m9
  obtain ⟨o, rfl⟩ : ∃ n : Nat, o = (n : Int) := ⟨o.toNat, by omega⟩
  obtain ⟨t, rfl⟩ : ∃ n : Nat, t = (n : Int) := ⟨t.toNat, by omega⟩
  obtain ⟨p, rfl⟩ : ∃ n : Nat, p = (n : Int) := ⟨p.toNat, by omega⟩
  obtain ⟨s, rfl⟩ : ∃ n : Nat, s = (n : Int) := ⟨s.toNat, by omega⟩
  obtain ⟨q, hq⟩ : ∃ q, shrt (sb val) = q := ⟨_, rfl⟩
  obtain ⟨ys, sm⟩ := q
  have hyl : ys.length ≤ 1024 := by have h := shrt_len (sb val); rw [hq, sb_length] at h; simp only at h; omega
  have hsm : k = 2 → sm = false := fun h => by
    have h0 := m9 h
    cases sm with
    | false => rfl
    | true =>
      have h1 := hq
      unfold shrt at h1
      rw [sb_length, h0] at h1
      rw [if_neg (by omega)] at h1
      simp at h1
  have HQ := Lib.hid hq
  have HBD : Hid (∀ F N, flg ⟨k, o, t, p, s, key, val⟩ = F → nums ⟨k, o, t, p, s, key, val⟩ = N → bdy ⟨k, o, t, p, s, key, val⟩ = [F] ++ Uv.uv o ++ Uv.uv t ++ N ++ Uv.uv key.size ++ sb key ++ ys) := Lib.hid (fun F N h1 h2 => by unfold bdy; rw [h1, h2]; simp only [hq, Int.toNat_natCast])
  have hlo := Uv.uv_len_64 o (by omega)
  have hlt := Uv.uv_len_64 t (by omega)
  have hlp := Uv.uv_len_64 p (by omega)
  have hls := Uv.uv_len_64 s (by omega)
  have hlk := Uv.uv_len_64 key.size (by omega)
  unfold Rc.v
  simp only
  simp only at kk c2 hp
  rw [hq] at c2
  simp only at c2
  subst c2
  obtain ⟨eb, hE⟩ : ∃ q, enc (sb val) = q := ⟨_, rfl⟩
  obtain ⟨es, ez⟩ := eb
  have hsh : (if ez = 0 ∧ es.length < val.size then (es, true) else (sb val, false)) = (ys, true) := by
    rw [← hq]
    unfold shrt
    rw [hE, sb_length]
  have HE := Lib.hid hE
  clear hq hE
  have PE := Lib.hid (fun A c W (hr : Rd W A (b8 (sb val))) (hc : val.size ≤ c) => rencode_is A val.size c (sb val) W hr (sb_length val) (sb_by val) (by omega))
  have k1 : (k == 2) = false := by rw [beq_eq_false_iff_ne]; exact kk
  have HD := Lib.hid (HBD.out 2 [] (by unfold flg; simp only [HQ.out]; have hp1 : p = 0 := (by omega); simp [hp1, kk]) (by unfold nums; simp only [Int.toNat_natCast]; rw [if_neg hp]))
  have he : ez = 0 ∧ es.length < val.size := by
    apply Classical.byContradiction
    intro h
    rw [if_neg h] at hsh
    simp at hsh
  rw [if_pos he] at hsh
  injection hsh with hy _
  subst hy
  obtain ⟨ys, hys⟩ : ∃ ys, ys = es := ⟨_, rfl⟩
  subst hys
  obtain ⟨rfl, he2⟩ := he
  have he3 : (ys.length : Int) < (val.size : Int) := by omega
  clear HBD HQ m9 hsm m1 m6
  go_enter Tryz.func97, Tryz.ntmps97
  go_wp2_with (refine wpList_bytes _ rfl (.tmp 9) 9 27 5 rfl Tryz.underlying9 Tryz.underlying27 Tryz.underlying5 val rfl ?_; intro c0 w0 zs hrow hcm hbel hzl; have HR0 := Lib.hid hrow; have HB0 := Lib.hid hbel; clear hrow hzl hbel)
  have hr0 := HR0.out
  rw [World.size_alloc] at hr0
  have R0 := Lib.hid (rd_row8 hr0)
  have hz0 : w.heap.size + 2 ≤ w0.heap.size := by have := hr0.lt; omega
  have hb0 := HB0.out
  rw [World.size_alloc] at hb0
  clear hr0 HR0 HB0
  have BX0 := Lib.hid ((RBox.new w ⟨k, o, t, p, s, key, val⟩).below hb0 (by simp))
  refine (PE.out _ c0 w0 R0.out hcm).mono ?_
  rw [HE.out]
  rintro e w1 ⟨A1, c1, rfl, ho1, hb1⟩
  simp only at ho1 ⊢
  have R1 := Lib.hid (rd_own ho1)
  have BX1 := Lib.hid (BX0.out.below hb1 (by omega))
  have T1 := Lib.hid ((((Below.refl w.heap.size w).alloc (Nat.le_refl _) (.cells #[.int .i64 k, .int .i64 o, .int .i64 t, .int .i64 p, .int .i64 s, .string key, .string val] 43)).trans (hb0.mono (by simp))).trans (hb1.mono (by omega)))
  have hz1 : w.heap.size + 1 ≤ w1.heap.size := by have := hb1.size; omega
  clear ho1 hb1 hb0
  have R1' := R1
  obtain ⟨x0, x1, x2, x3, x4, x5, x6⟩ := (BX1.out).facts
  simp only at x0 x1 x2 x3 x4 x5 x6
  go_wp2_with fail
  refine (rnew_is w1).mono ?_
  rintro e w2 ⟨rfl, hw2⟩
  have V2 : Hid (Wr w1.heap.size w2 110 w1.heap.size (.slice none 0 0) []) := Lib.hid (by rw [hw2]; exact rnew_wr w1.heap.size w1 (Nat.le_refl _))
  have D2 : Hid (Below w1.heap.size w1 w2) := Lib.hid (by rw [hw2]; exact (Below.refl _ _).alloc (Nat.le_refl _) _)
  have hl2 : ([] : List Nat).length ≤ 0 := Nat.le_refl _
  clear hw2
  clear x0 x1 x2 x3 x4 x5 x6
  obtain ⟨x0, x1, x2, x3, x4, x5, x6⟩ := (BX1.out.below D2.out (by omega)).facts
  simp only at x0 x1 x2 x3 x4 x5 x6
  go_wp2_with fail
  refine (rbyte_is w1.heap.size w1.heap.size (.slice none 0 0) [] 2 w2 V2.out  (by omega) D2.out.size).mono ?_
  intro e w3 hw
  obtain ⟨v3, rfl, h, b⟩ := hw.to' V2.out
  have V3 := Lib.hid h
  have D3 := Lib.hid (D2.out.trans b)
  obtain ⟨X3, hX⟩ : ∃ X, X = [] ++ [2] := ⟨_, rfl⟩
  have hl3 : X3.length ≤ 1 := by rw [hX]; simp only [List.length_append, List.length_cons, List.length_nil, sb_length]; omega
  have HX3 := Lib.hid hX
  rw [← hX] at V3
  clear hw h b hX
  clear x0 x1 x2 x3 x4 x5 x6
  obtain ⟨x0, x1, x2, x3, x4, x5, x6⟩ := (BX1.out.below D3.out (by omega)).facts
  simp only at x0 x1 x2 x3 x4 x5 x6
  go_wp2_with fail
  refine (ruvarint_w w1.heap.size w1.heap.size v3 X3 o w3 V3.out (by omega) (by omega) D3.out.size).mono ?_
  intro e w4 hw
  obtain ⟨v4, rfl, h, b⟩ := hw.to' V3.out
  have V4 := Lib.hid h
  have D4 := Lib.hid (D3.out.trans b)
  obtain ⟨X4, hX⟩ : ∃ X, X = X3 ++ Uv.uv o := ⟨_, rfl⟩
  have hl4 : X4.length ≤ 11 := by rw [hX]; simp only [List.length_append, List.length_cons, List.length_nil, sb_length]; omega
  have HX4 := Lib.hid hX
  rw [← hX] at V4
  clear hw h b hX
  clear x0 x1 x2 x3 x4 x5 x6
  obtain ⟨x0, x1, x2, x3, x4, x5, x6⟩ := (BX1.out.below D4.out (by omega)).facts
  simp only at x0 x1 x2 x3 x4 x5 x6
  go_wp2_with fail
  refine (ruvarint_w w1.heap.size w1.heap.size v4 X4 t w4 V4.out (by omega) (by omega) D4.out.size).mono ?_
  intro e w5 hw
  obtain ⟨v5, rfl, h, b⟩ := hw.to' V4.out
  have V5 := Lib.hid h
  have D5 := Lib.hid (D4.out.trans b)
  obtain ⟨X5, hX⟩ : ∃ X, X = X4 ++ Uv.uv t := ⟨_, rfl⟩
  have hl5 : X5.length ≤ 21 := by rw [hX]; simp only [List.length_append, List.length_cons, List.length_nil, sb_length]; omega
  have HX5 := Lib.hid hX
  rw [← hX] at V5
  clear hw h b hX
  clear x0 x1 x2 x3 x4 x5 x6
  obtain ⟨x0, x1, x2, x3, x4, x5, x6⟩ := (BX1.out.below D5.out (by omega)).facts
  simp only at x0 x1 x2 x3 x4 x5 x6
  go_wp2_with fail
  refine (rtext_w w1.heap.size w1.heap.size v5 X5 key w5 V5.out  (by omega) D5.out.size).mono ?_
  intro e w6 hw
  obtain ⟨v6, rfl, h, b⟩ := hw.to' V5.out
  have V6 := Lib.hid h
  have D6 := Lib.hid (D5.out.trans b)
  obtain ⟨X6, hX⟩ : ∃ X, X = X5 ++ (Uv.uv key.size ++ sb key) := ⟨_, rfl⟩
  have hl6 : X6.length ≤ 95 := by rw [hX]; simp only [List.length_append, List.length_cons, List.length_nil, sb_length]; omega
  have HX6 := Lib.hid hX
  rw [List.append_assoc, ← hX] at V6
  clear hw h b hX
  clear x0 x1 x2 x3 x4 x5 x6
  obtain ⟨x0, x1, x2, x3, x4, x5, x6⟩ := (BX1.out.below D6.out (by omega)).facts
  simp only at x0 x1 x2 x3 x4 x5 x6
  go_wp2_with fail
  refine (rraw_is w1.heap.size w1.heap.size v6 X6 A1 ys.length c1 ys w6 V6.out (R1'.out.below D6.out) rfl (by omega) D6.out.size).mono ?_
  intro e w7 hw
  obtain ⟨v7, rfl, h, b⟩ := hw.to' V6.out
  have V7 := Lib.hid h
  have D7 := Lib.hid (D6.out.trans b)
  obtain ⟨X7, hX⟩ : ∃ X, X = X6 ++ ys := ⟨_, rfl⟩
  have hl7 : X7.length ≤ 1119 := by rw [hX]; simp only [List.length_append]; omega
  have HX7 := Lib.hid hX
  rw [← hX] at V7
  clear hw h b hX
  go_wp2_with fail
  refine (rbytes_w w1.heap.size w1.heap.size v7 X7 w7 V7.out (by omega)).mono ?_
  rintro e wz ⟨Az, cz, rfl, hoz, hbz⟩
  have OZ := Lib.hid hoz
  have BZ := Lib.hid hbz
  clear hoz hbz
  go_wp2_with fail
  go_ret
  exact got8_of (HD.out.trans (by rw [HX7.out, HX6.out, HX5.out, HX4.out, HX3.out]; simp only [List.nil_append, List.append_assoc, List.append_nil])) OZ.out (T1.out.trans (D7.out.mono (by omega))) BZ.out
theorem rrecbody_is (x : Rc) (w : World) (hm : May x) : Calls Tryz.prog 97 #[x.v] w fun e w' => Got8 w w' e (bdy x) := by
  have hsm : x.k = 2 → (shrt (sb x.val)).2 = false := fun h => by
    have h0 := hm.tomb h
    unfold shrt
    rw [sb_length, h0, if_neg (by omega)]
  by_cases kk : x.k = 2
  · by_cases hp : 0 < x.p
    · by_cases hez : (enc (sb x.val)).2 = 0
      · exact rrecbody_2ftt x w hm kk (hsm kk) hp hez
      · exact rrecbody_2ftf x w hm kk (hsm kk) hp hez
    · by_cases hez : (enc (sb x.val)).2 = 0
      · exact rrecbody_2fft x w hm kk (hsm kk) hp hez
      · exact rrecbody_2fff x w hm kk (hsm kk) hp hez
  · by_cases c2 : (shrt (sb x.val)).2 = true
    · by_cases hp : 0 < x.p
      · exact rrecbody_1tt x w hm kk c2 hp
      · exact rrecbody_1tf x w hm kk c2 hp
    · have c2 : (shrt (sb x.val)).2 = false := by simpa using c2
      by_cases hp : 0 < x.p
      · by_cases hez : (enc (sb x.val)).2 = 0
        · exact rrecbody_1ftt x w hm kk c2 hp hez
        · exact rrecbody_1ftf x w hm kk c2 hp hez
      · by_cases hez : (enc (sb x.val)).2 = 0
        · exact rrecbody_1fft x w hm kk c2 hp hez
        · exact rrecbody_1fff x w hm kk c2 hp hez
end Go.Proofs.YtljfmcgeiceagaaGreat

/- Encode and Size. -/
namespace Go.Proofs.YtljfmcgeiceagaaGreat
open Go Go.RowKit
set_option linter.unusedVariables false
set_option linter.unusedSimpArgs false

theorem ans8_of {w W W' : World} {A : Option Addr} {c n : Nat} {X : List Nat} {q : List Nat × Int} (hq : q = (X, 0)) (hn : n = X.length) (ho : W'.ownsRow W.heap.size 5 1 (.slice A X.length c) X.length (b8 X)) (hT : Below w.heap.size w W) (hb : Below W.heap.size W W') : Ans8 w q (.returned (.tuple #[.slice A n c, .int .i64 0])) W' := by
  subst hq hn
  exact ⟨A, c, rfl, own_lower ho hT.size, hT.trans (hb.mono hT.size)⟩
def rcObj (x : Rc) : Obj := .cells #[.int .i64 x.k, .int .i64 x.o, .int .i64 x.t, .int .i64 x.p, .int .i64 x.s, .string x.key, .string x.val] 43
theorem renc_bad {x : Rc} (h : ¬ chk x = 0) : renc x = ([], ((chk x : Nat) : Int)) := by unfold renc; rw [if_neg h]
theorem renc_ok {x : Rc} (h : chk x = 0) : renc x = (wrap 169 (bdy x), 0) := by unfold renc; rw [if_pos h]

set_option maxHeartbeats 400000 in
set_option maxRecDepth 100000 in
theorem rcencode4_is (x : Rc) (w : World) : Calls Tryz.prog 62 #[x.v] w (Ans8 w (renc x)) := by
  have PC := Lib.hid (fun W => rcheck_is x W)
  by_cases h0 : chk x = 0
  · have hm := chk_may h0
    have HQ := Lib.hid (renc_ok h0)
    have PB := Lib.hid (fun W => rrecbody_is x W hm)
    have hl := (bdy_len hm).2
    have PW := Lib.hid (fun A c W (hr : Rd W A (b8 (bdy x))) => rwrap_is 169 A (bdy x).length c (bdy x) W hr rfl (bdy_by hm) (by omega) (by omega))
    rw [h0] at PC
    obtain ⟨X, hX⟩ : ∃ X, X = bdy x := ⟨_, rfl⟩
    rw [← hX] at PB HQ PW hl
    clear hX hm h0
    obtain ⟨q, hq⟩ : ∃ q, q = renc x := ⟨_, rfl⟩
    rw [← hq] at HQ ⊢
    clear hq
    obtain ⟨k, o, t, p, s, key, val⟩ := x
    unfold Rc.v at PB PC ⊢
    simp only at PB PC ⊢
    have T0 := Lib.hid ((Below.refl w.heap.size w).alloc (Nat.le_refl _) (rcObj ⟨k, o, t, p, s, key, val⟩))
    have BX0 := Lib.hid (RBox.new w ⟨k, o, t, p, s, key, val⟩)
    obtain ⟨x0, x1, x2, x3, x4, x5, x6⟩ := BX0.out.facts
    simp only at x0 x1 x2 x3 x4 x5 x6
    go_enter Tryz.func62, Tryz.ntmps62
    go_wp2_with fail
    refine (PC.out _).mono ?_
    rintro e w1 ⟨rfl, hb1⟩
    have BX1 := Lib.hid (BX0.out.below hb1 (by simp))
    have T1 := Lib.hid (T0.out.trans (hb1.mono (by simp)))
    clear hb1 x0 x1 x2 x3 x4 x5 x6
    obtain ⟨x0, x1, x2, x3, x4, x5, x6⟩ := BX1.out.facts
    simp only at x0 x1 x2 x3 x4 x5 x6
    go_wp2_with fail
    refine (PB.out _).mono ?_
    rintro e w2 ⟨A2, c2, rfl, ho2, hb2⟩
    have HO2 := Lib.hid ho2
    have T2 := Lib.hid (T1.out.trans (hb2.mono T1.out.size))
    clear ho2 hb2
    go_wp2_with fail
    refine (PW.out A2 c2 w2 (rd_own HO2.out)).mono ?_
    rintro e w3 ⟨A3, c3, rfl, ho3, hb3⟩
    have HO3 := Lib.hid ho3
    have HB3 := Lib.hid hb3
    clear ho3 hb3
    go_wp2_with fail
    go_ret2
    exact ans8_of HQ.out rfl HO3.out T2.out HB3.out
  · have HQ := Lib.hid (renc_bad h0)
    have hz : (((chk x : Nat) : Int) != 0) = true := by rw [bne_iff_ne]; omega
    obtain ⟨z, hzz⟩ : ∃ z : Int, z = ((chk x : Nat) : Int) := ⟨_, rfl⟩
    rw [← hzz] at PC HQ hz
    clear hzz h0
    obtain ⟨q, hq⟩ : ∃ q, q = renc x := ⟨_, rfl⟩
    rw [← hq] at HQ ⊢
    clear hq
    obtain ⟨k, o, t, p, s, key, val⟩ := x
    unfold Rc.v at PC ⊢
    simp only at PC ⊢
    have T0 := Lib.hid ((Below.refl w.heap.size w).alloc (Nat.le_refl _) (rcObj ⟨k, o, t, p, s, key, val⟩))
    have BX0 := Lib.hid (RBox.new w ⟨k, o, t, p, s, key, val⟩)
    obtain ⟨x0, x1, x2, x3, x4, x5, x6⟩ := BX0.out.facts
    simp only at x0 x1 x2 x3 x4 x5 x6
    go_enter Tryz.func62, Tryz.ntmps62
    go_wp2_with fail
    refine (PC.out _).mono ?_
    rintro e w1 ⟨rfl, hb1⟩
    have T1 := Lib.hid (T0.out.trans (hb1.mono (by simp)))
    clear hb1 x0 x1 x2 x3 x4 x5 x6
    go_wp2_with fail
    go_ret2
    exact ans8_none w _ _ z HQ.out T1.out
set_option maxHeartbeats 1000000 in
set_option maxRecDepth 100000 in
theorem recencode_is (x : Rc) (w : World) : Calls Tryz.prog 46 #[x.v] w (Ans8 w (renc x)) := by
  have PC := Lib.hid (fun W => check_is x W)
  by_cases h0 : chk x = 0
  · have hm := chk_may h0
    have HQ := Lib.hid (renc_ok h0)
    have PB := Lib.hid (fun W => recbody_is x W hm)
    have hl := (bdy_len hm).2
    have hby := bdy_by hm
    rw [h0] at PC
    obtain ⟨X, hX⟩ : ∃ X, X = bdy x := ⟨_, rfl⟩
    rw [← hX] at PB HQ hl hby
    clear hX hm h0
    obtain ⟨q, hq⟩ : ∃ q, q = renc x := ⟨_, rfl⟩
    rw [← hq] at HQ ⊢
    clear hq
    obtain ⟨n, hn⟩ : ∃ n, X.length = n := ⟨_, rfl⟩
    have h2 : n ≤ 1115 := by omega
    clear hl
    have HN := Lib.hid hn
    have HY := Lib.hid hby
    obtain ⟨k, o, t, p, s, key, val⟩ := x
    unfold Rc.v at PB PC ⊢
    simp only at PB PC ⊢
    have T0 := Lib.hid ((Below.refl w.heap.size w).alloc (Nat.le_refl _) (rcObj ⟨k, o, t, p, s, key, val⟩))
    have BX0 := Lib.hid (RBox.new w ⟨k, o, t, p, s, key, val⟩)
    obtain ⟨x0, x1, x2, x3, x4, x5, x6⟩ := BX0.out.facts
    simp only at x0 x1 x2 x3 x4 x5 x6
    go_enter Tryz.func46, Tryz.ntmps46
    go_wp2_with fail
    refine (PC.out _).mono ?_
    rintro e wc ⟨rfl, hb1⟩
    have BX1 := Lib.hid (BX0.out.below hb1 (by simp))
    have T1 := Lib.hid (T0.out.trans (hb1.mono (by simp)))
    clear hb1 x0 x1 x2 x3 x4 x5 x6
    obtain ⟨x0, x1, x2, x3, x4, x5, x6⟩ := BX1.out.facts
    simp only at x0 x1 x2 x3 x4 x5 x6
    go_wp2_with fail
    refine (PB.out _).mono ?_
    rintro e wa ⟨Aa, ca, rfl, hoa, hba⟩
    rw [hn] at hoa ⊢
    have HR := Lib.hid (rd_own hoa)
    have TA := Lib.hid (T1.out.trans (hba.mono T1.out.size))
    clear hoa hba x0 x1 x2 x3 x4 x5 x6
    have hcl := crcOf_lt hby
    have hel := ext0_lt (fx_by 4 X.length)
    have HC : Hid (crcOf X = Crc.ext (Crc.ext 0 (fx X.length 4)) X) := Lib.hid rfl
    obtain ⟨z, hz⟩ : ∃ z, z = crcOf X := ⟨_, rfl⟩
    obtain ⟨y, hy⟩ : ∃ y, y = Crc.ext 0 (fx X.length 4) := ⟨_, rfl⟩
    rw [← hz] at hcl HC
    rw [← hy] at hel HC
    have HZ := Lib.hid hz
    have HE : Hid (Crc.ext 0 (fx n 4) = y) := Lib.hid (by rw [hy, hn])
    have PS := Lib.hid (fun A c W (h : Rd W A (b8 (fx n 4))) => sum_any A 4 c (fx n 4) W h (fx_by _ _) (fx_length 4 n) (by omega))
    rw [HE.out] at PS
    have PE := Lib.hid (fun W (h : Rd W Aa (b8 X)) => extend_any y Aa n ca X W hel h hby hn (by omega))
    rw [← HC.out] at PE
    have HW1 := Lib.hid (new_wr wa.heap.size wa (Nat.le_refl _))
    have B1 := Lib.hid ((Below.refl wa.heap.size wa).alloc (Nat.le_refl _) (.cells #[.slice none 0 0] 106))
    clear hn hby hy hz
    obtain ⟨ln, hln⟩ : ∃ ln, ln = fx n 4 := ⟨_, rfl⟩
    have hl4 : ln.length = 4 := by rw [hln, fx_length]
    have HL4 := Lib.hid hl4
    rw [← hln] at PS
    have PU := Lib.hid (fun W v (h : Wr wa.heap.size W 106 wa.heap.size v []) => u32_w wa.heap.size wa.heap.size v [] n W h (by omega) (by simp) h.hb)
    rw [List.nil_append, ← hln] at PU
    have HLN := Lib.hid hln
    clear hl4 hln
    go_wp2_with fail
    refine (new_is wa).mono ?_
    rintro e w' ⟨rfl, rfl⟩
    go_wp2_with fail
    refine (PU.out _ _ HW1.out).mono ?_
    intro e w2 hw
    obtain ⟨v2, rfl, hw2, hb2⟩ := hw.leaves HW1.out
    have HW2 := Lib.hid hw2
    have B2 := Lib.hid (B1.out.trans hb2)
    clear hw hw2 hb2
    go_wp2_with fail
    refine (new_is w2).mono ?_
    rintro e w' ⟨rfl, rfl⟩
    have HX3 := Lib.hid (new_wr w2.heap.size w2 (Nat.le_refl _))
    have B3 := Lib.hid ((Below.refl w2.heap.size w2).alloc (Nat.le_refl _) (.cells #[.slice none 0 0] 106))
    go_wp2_with fail
    refine (byte_is w2.heap.size w2.heap.size _ [] 169 _ HX3.out (by simp) B3.out.size).mono ?_
    intro e w4 hw
    obtain ⟨v4, rfl, hw4, hb4⟩ := hw.leaves HX3.out
    have HX4 := Lib.hid hw4
    have B4 := Lib.hid (B3.out.trans hb4)
    clear hw hw4 hb4
    go_wp2_with fail
    refine (bytes_w wa.heap.size wa.heap.size v2 ln w4 (HW2.out.below B4.out) (by have := HL4.out; omega)).mono ?_
    rintro e w5 ⟨A5, c5, rfl, ho5, hb5⟩
    have HO5 := Lib.hid ho5
    have HX5 := Lib.hid (HX4.out.below hb5)
    have B5 := Lib.hid (B4.out.trans (hb5.mono B4.out.size))
    clear ho5 hb5
    go_wp2_with fail
    refine (raw_is w2.heap.size w2.heap.size v4 ([] ++ [169]) A5 _ c5 ln w5 HX5.out (rd_own HO5.out) rfl (by rw [HL4.out]; simp) B5.out.size).mono ?_
    intro e w6 hw
    obtain ⟨v6, rfl, hw6, hb6⟩ := hw.leaves HX5.out
    have HX6 := Lib.hid hw6
    have B6 := Lib.hid (B5.out.trans hb6)
    clear hw hw6 hb6
    go_wp2_with fail
    refine (bytes_w wa.heap.size wa.heap.size v2 ln w6 (HW2.out.below B6.out) (by have := HL4.out; omega)).mono ?_
    rintro e w7 ⟨A7, c7, rfl, ho7, hb7⟩
    rw [HL4.out] at ho7 ⊢
    have HO7 := Lib.hid ho7
    have HX7 := Lib.hid (HX6.out.below hb7)
    have B7 := Lib.hid (B6.out.trans (hb7.mono B6.out.size))
    clear ho7 hb7
    go_wp2_with fail
    refine (PS.out A7 c7 w7 (rd_own HO7.out)).mono ?_
    rintro e w8 ⟨rfl, hb8⟩
    have HX8 := Lib.hid (HX7.out.below hb8)
    have B8 := Lib.hid (B7.out.trans (hb8.mono B7.out.size))
    clear hb8
    go_wp2_with fail
    refine (PE.out w8 ((HR.out.below (B2.out)).below B8.out)).mono ?_
    rintro e w9 ⟨rfl, hb9⟩
    have HX9 := Lib.hid (HX8.out.below hb9)
    have B9 := Lib.hid (B8.out.trans (hb9.mono B8.out.size))
    clear hb9
    go_wp2_with fail
    refine (u32_w w2.heap.size w2.heap.size v6 _ z w9 HX9.out hcl (by rw [List.length_append, HL4.out]; simp) B9.out.size).mono ?_
    intro e w10 hw
    obtain ⟨v10, rfl, hw10, hb10⟩ := hw.leaves HX9.out
    have HX10 := Lib.hid hw10
    have B10 := Lib.hid (B9.out.trans hb10)
    clear hw hw10 hb10
    go_wp2_with fail
    refine (raw_is w2.heap.size w2.heap.size v10 _ Aa n ca X w10 HX10.out ((HR.out.below (B2.out)).below B10.out) HN.out (by rw [List.length_append, List.length_append, HL4.out, fx_length]; simp; omega) B10.out.size).mono ?_
    intro e w11 hw
    obtain ⟨v11, rfl, hw11, hb11⟩ := hw.leaves HX10.out
    have HX11 := Lib.hid hw11
    have B11 := Lib.hid (B10.out.trans hb11)
    clear hw hw11 hb11
    go_wp2_with fail
    have hwr : ([] ++ [169] ++ ln ++ fx z 4 ++ X) = wrap 169 X := by
      rw [HZ.out, HLN.out, ← HN.out]
      rfl
    rw [hwr] at HX11
    refine (bytes_w w2.heap.size w2.heap.size v11 _ w11 HX11.out (by rw [wrap_length, HN.out]; omega)).mono ?_
    rintro e w12 ⟨A12, c12, rfl, ho12, hb12⟩
    have HO12 := Lib.hid ho12
    have B12 := Lib.hid (B11.out.trans (hb12.mono B11.out.size))
    clear ho12 hb12
    go_wp2_with fail
    go_ret2
    exact ans8_of HQ.out rfl (own_lower HO12.out (Nat.le_trans B2.out.size B11.out.size)) TA.out (B2.out.trans (B12.out.mono B2.out.size))
  · have HQ := Lib.hid (renc_bad h0)
    have hz : (((chk x : Nat) : Int) != 0) = true := by rw [bne_iff_ne]; omega
    obtain ⟨z, hzz⟩ : ∃ z : Int, z = ((chk x : Nat) : Int) := ⟨_, rfl⟩
    rw [← hzz] at PC HQ hz
    clear hzz h0
    obtain ⟨q, hq⟩ : ∃ q, q = renc x := ⟨_, rfl⟩
    rw [← hq] at HQ ⊢
    clear hq
    obtain ⟨k, o, t, p, s, key, val⟩ := x
    unfold Rc.v at PC ⊢
    simp only at PC ⊢
    have T0 := Lib.hid ((Below.refl w.heap.size w).alloc (Nat.le_refl _) (rcObj ⟨k, o, t, p, s, key, val⟩))
    have BX0 := Lib.hid (RBox.new w ⟨k, o, t, p, s, key, val⟩)
    obtain ⟨x0, x1, x2, x3, x4, x5, x6⟩ := BX0.out.facts
    simp only at x0 x1 x2 x3 x4 x5 x6
    go_enter Tryz.func46, Tryz.ntmps46
    go_wp2_with fail
    refine (PC.out _).mono ?_
    rintro e w1 ⟨rfl, hb1⟩
    have T1 := Lib.hid (T0.out.trans (hb1.mono (by simp)))
    clear hb1 x0 x1 x2 x3 x4 x5 x6
    go_wp2_with fail
    go_ret2
    exact ans8_none w _ _ z HQ.out T1.out
def rsize (x : Rc) : Nat := (renc x).1.length
end Go.Proofs.YtljfmcgeiceagaaGreat
