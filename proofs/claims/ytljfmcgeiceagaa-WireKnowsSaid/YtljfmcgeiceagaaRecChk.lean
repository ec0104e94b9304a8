/- Which records may be: the walks (printed by gen_rcchk.py). -/
import Derived.Test.YtljfmcgeiceagaaRecT
namespace Go.Proofs.Ytljfmcgeiceagaa
open Go Go.RowKit
set_option linter.unusedVariables false
set_option linter.unusedSimpArgs false

set_option maxHeartbeats 8000000 in
set_option maxRecDepth 100000 in
theorem check_is (x : Rc) (w : World) : Calls Try.prog 79 #[x.v] w fun e w' => e = .returned (.int .i64 ((chk x : Nat) : Int)) ∧ Below w.heap.size w w' := by
  obtain ⟨k, o, t, p, s, key, val⟩ := x
  unfold Rc.v
  simp only
  have HB : Hid (∀ b : Obj, Below w.heap.size w (w.alloc b)) := Lib.hid (fun b => (Below.refl _ _).alloc (Nat.le_refl _) b)
  by_cases k1 : k = 1
  · have f1 : (k != 1) = false := by rw [bne_eq_false_iff_eq]; exact k1
    have f2 : (k == 2) = false := by rw [beq_eq_false_iff_ne]; omega
    go_enter Try.func79, Try.ntmps79
    go_wp2_with fail
    by_cases ho : 0 ≤ o ∧ o < 1099511627776
    rotate_left
    · skip
      have HC : Hid (chk ⟨k, o, t, p, s, key, val⟩ = 45) := Lib.hid (by unfold chk; simp only; repeat (first | rw [if_pos (by omega)] | rw [if_neg (by omega)]))
      refine (within_no _ _ _ _ (by omega)).mono ?_
      rintro e w1 ⟨rfl, rfl⟩
      go_wp2_with fail
      go_ret
      exact ⟨by rw [HC.out]; rfl, HB.out _⟩
    refine (within_yes _ _ _ _ (by omega)).mono ?_
    rintro e w1 ⟨rfl, rfl⟩
    go_wp2_with fail
    by_cases ht : 0 ≤ t ∧ t < 1125899906842624
    rotate_left
    · skip
      have HC : Hid (chk ⟨k, o, t, p, s, key, val⟩ = 45) := Lib.hid (by unfold chk; simp only; repeat (first | rw [if_pos (by omega)] | rw [if_neg (by omega)]))
      refine (within_no _ _ _ _ (by omega)).mono ?_
      rintro e w1 ⟨rfl, rfl⟩
      go_wp2_with fail
      go_ret
      exact ⟨by rw [HC.out]; rfl, HB.out _⟩
    refine (within_yes _ _ _ _ (by omega)).mono ?_
    rintro e w1 ⟨rfl, rfl⟩
    go_wp2_with fail
    by_cases hp : 0 ≤ p ∧ p < 4294967296
    rotate_left
    · skip
      have HC : Hid (chk ⟨k, o, t, p, s, key, val⟩ = 45) := Lib.hid (by unfold chk; simp only; repeat (first | rw [if_pos (by omega)] | rw [if_neg (by omega)]))
      refine (within_no _ _ _ _ (by omega)).mono ?_
      rintro e w1 ⟨rfl, rfl⟩
      go_wp2_with fail
      go_ret
      exact ⟨by rw [HC.out]; rfl, HB.out _⟩
    refine (within_yes _ _ _ _ (by omega)).mono ?_
    rintro e w1 ⟨rfl, rfl⟩
    by_cases hp0 : p = 0
    · have p1 : (p == 0) = true := by rw [beq_iff_eq]; exact hp0
      have p2 : ¬ 0 < p := by omega
      by_cases hs0 : s = 0
      rotate_left
      · have s1 : (s != 0) = true := by rw [bne_iff_ne]; exact hs0
        have HC : Hid (chk ⟨k, o, t, p, s, key, val⟩ = 45) := Lib.hid (by unfold chk; simp only; repeat (first | rw [if_pos (by omega)] | rw [if_neg (by omega)]))
        go_wp2_with fail
        go_ret
        exact ⟨by rw [HC.out]; rfl, HB.out _⟩
      have s1 : (s != 0) = false := by rw [bne_eq_false_iff_eq]; exact hs0
      by_cases hy : key.size < 1
      · have y1 : (key.size : Int) < 1 := by omega
        have HC : Hid (chk ⟨k, o, t, p, s, key, val⟩ = 42) := Lib.hid (by unfold chk; simp only; repeat (first | rw [if_pos (by omega)] | rw [if_neg (by omega)]))
        go_wp2_with fail
        go_ret
        exact ⟨by rw [HC.out]; rfl, HB.out _⟩
      · have y1 : ¬ (key.size : Int) < 1 := by omega
        by_cases hz : 64 < key.size
        · have y2 : (64 : Int) < (key.size : Int) := by omega
          have HC : Hid (chk ⟨k, o, t, p, s, key, val⟩ = 42) := Lib.hid (by unfold chk; simp only; repeat (first | rw [if_pos (by omega)] | rw [if_neg (by omega)]))
          go_wp2_with fail
          go_ret
          exact ⟨by rw [HC.out]; rfl, HB.out _⟩
        · have y2 : ¬ (64 : Int) < (key.size : Int) := by omega
          by_cases hv : 1024 < val.size
          · have v1 : (1024 : Int) < (val.size : Int) := by omega
            have HC : Hid (chk ⟨k, o, t, p, s, key, val⟩ = 43) := Lib.hid (by unfold chk; simp only; repeat (first | rw [if_pos (by omega)] | rw [if_neg (by omega)]))
            go_wp2_with fail
            go_ret
            exact ⟨by rw [HC.out]; rfl, HB.out _⟩
          · have v1 : ¬ (1024 : Int) < (val.size : Int) := by omega
            have HC : Hid (chk ⟨k, o, t, p, s, key, val⟩ = 0) := Lib.hid (by unfold chk; simp only; repeat (first | rw [if_pos (by omega)] | rw [if_neg (by omega)]))
            go_wp2_with fail
            go_ret
            exact ⟨by rw [HC.out]; rfl, HB.out _⟩
    · have p1 : (p == 0) = false := by rw [beq_eq_false_iff_ne]; exact hp0
      have p2 : 0 < p := by omega
      go_wp2_with fail
      by_cases hs : 1 ≤ s ∧ s < 1099511627776
      rotate_left
      · skip
        have HC : Hid (chk ⟨k, o, t, p, s, key, val⟩ = 45) := Lib.hid (by unfold chk; simp only; repeat (first | rw [if_pos (by omega)] | rw [if_neg (by omega)]))
        refine (within_no _ _ _ _ (by omega)).mono ?_
        rintro e w1 ⟨rfl, rfl⟩
        go_wp2_with fail
        go_ret
        exact ⟨by rw [HC.out]; rfl, HB.out _⟩
      refine (within_yes _ _ _ _ (by omega)).mono ?_
      rintro e w1 ⟨rfl, rfl⟩
      by_cases hy : key.size < 1
      · have y1 : (key.size : Int) < 1 := by omega
        have HC : Hid (chk ⟨k, o, t, p, s, key, val⟩ = 42) := Lib.hid (by unfold chk; simp only; repeat (first | rw [if_pos (by omega)] | rw [if_neg (by omega)]))
        go_wp2_with fail
        go_ret
        exact ⟨by rw [HC.out]; rfl, HB.out _⟩
      · have y1 : ¬ (key.size : Int) < 1 := by omega
        by_cases hz : 64 < key.size
        · have y2 : (64 : Int) < (key.size : Int) := by omega
          have HC : Hid (chk ⟨k, o, t, p, s, key, val⟩ = 42) := Lib.hid (by unfold chk; simp only; repeat (first | rw [if_pos (by omega)] | rw [if_neg (by omega)]))
          go_wp2_with fail
          go_ret
          exact ⟨by rw [HC.out]; rfl, HB.out _⟩
        · have y2 : ¬ (64 : Int) < (key.size : Int) := by omega
          by_cases hv : 1024 < val.size
          · have v1 : (1024 : Int) < (val.size : Int) := by omega
            have HC : Hid (chk ⟨k, o, t, p, s, key, val⟩ = 43) := Lib.hid (by unfold chk; simp only; repeat (first | rw [if_pos (by omega)] | rw [if_neg (by omega)]))
            go_wp2_with fail
            go_ret
            exact ⟨by rw [HC.out]; rfl, HB.out _⟩
          · have v1 : ¬ (1024 : Int) < (val.size : Int) := by omega
            have HC : Hid (chk ⟨k, o, t, p, s, key, val⟩ = 0) := Lib.hid (by unfold chk; simp only; repeat (first | rw [if_pos (by omega)] | rw [if_neg (by omega)]))
            go_wp2_with fail
            go_ret
            exact ⟨by rw [HC.out]; rfl, HB.out _⟩
  · have f1 : (k != 1) = true := by rw [bne_iff_ne]; exact k1
    by_cases k2 : k = 2
    · have f2 : (k != 2) = false := by rw [bne_eq_false_iff_eq]; exact k2
      have f3 : (k == 2) = true := by rw [beq_iff_eq]; exact k2
      go_enter Try.func79, Try.ntmps79
      go_wp2_with fail
      by_cases ho : 0 ≤ o ∧ o < 1099511627776
      rotate_left
      · skip
        have HC : Hid (chk ⟨k, o, t, p, s, key, val⟩ = 45) := Lib.hid (by unfold chk; simp only; repeat (first | rw [if_pos (by omega)] | rw [if_neg (by omega)]))
        refine (within_no _ _ _ _ (by omega)).mono ?_
        rintro e w1 ⟨rfl, rfl⟩
        go_wp2_with fail
        go_ret
        exact ⟨by rw [HC.out]; rfl, HB.out _⟩
      refine (within_yes _ _ _ _ (by omega)).mono ?_
      rintro e w1 ⟨rfl, rfl⟩
      go_wp2_with fail
      by_cases ht : 0 ≤ t ∧ t < 1125899906842624
      rotate_left
      · skip
        have HC : Hid (chk ⟨k, o, t, p, s, key, val⟩ = 45) := Lib.hid (by unfold chk; simp only; repeat (first | rw [if_pos (by omega)] | rw [if_neg (by omega)]))
        refine (within_no _ _ _ _ (by omega)).mono ?_
        rintro e w1 ⟨rfl, rfl⟩
        go_wp2_with fail
        go_ret
        exact ⟨by rw [HC.out]; rfl, HB.out _⟩
      refine (within_yes _ _ _ _ (by omega)).mono ?_
      rintro e w1 ⟨rfl, rfl⟩
      go_wp2_with fail
      by_cases hp : 0 ≤ p ∧ p < 4294967296
      rotate_left
      · skip
        have HC : Hid (chk ⟨k, o, t, p, s, key, val⟩ = 45) := Lib.hid (by unfold chk; simp only; repeat (first | rw [if_pos (by omega)] | rw [if_neg (by omega)]))
        refine (within_no _ _ _ _ (by omega)).mono ?_
        rintro e w1 ⟨rfl, rfl⟩
        go_wp2_with fail
        go_ret
        exact ⟨by rw [HC.out]; rfl, HB.out _⟩
      refine (within_yes _ _ _ _ (by omega)).mono ?_
      rintro e w1 ⟨rfl, rfl⟩
      by_cases hp0 : p = 0
      · have p1 : (p == 0) = true := by rw [beq_iff_eq]; exact hp0
        have p2 : ¬ 0 < p := by omega
        by_cases hs0 : s = 0
        rotate_left
        · have s1 : (s != 0) = true := by rw [bne_iff_ne]; exact hs0
          have HC : Hid (chk ⟨k, o, t, p, s, key, val⟩ = 45) := Lib.hid (by unfold chk; simp only; repeat (first | rw [if_pos (by omega)] | rw [if_neg (by omega)]))
          go_wp2_with fail
          go_ret
          exact ⟨by rw [HC.out]; rfl, HB.out _⟩
        have s1 : (s != 0) = false := by rw [bne_eq_false_iff_eq]; exact hs0
        by_cases hy : key.size < 1
        · have y1 : (key.size : Int) < 1 := by omega
          have HC : Hid (chk ⟨k, o, t, p, s, key, val⟩ = 42) := Lib.hid (by unfold chk; simp only; repeat (first | rw [if_pos (by omega)] | rw [if_neg (by omega)]))
          go_wp2_with fail
          go_ret
          exact ⟨by rw [HC.out]; rfl, HB.out _⟩
        · have y1 : ¬ (key.size : Int) < 1 := by omega
          by_cases hz : 64 < key.size
          · have y2 : (64 : Int) < (key.size : Int) := by omega
            have HC : Hid (chk ⟨k, o, t, p, s, key, val⟩ = 42) := Lib.hid (by unfold chk; simp only; repeat (first | rw [if_pos (by omega)] | rw [if_neg (by omega)]))
            go_wp2_with fail
            go_ret
            exact ⟨by rw [HC.out]; rfl, HB.out _⟩
          · have y2 : ¬ (64 : Int) < (key.size : Int) := by omega
            by_cases hv : 1024 < val.size
            · have v1 : (1024 : Int) < (val.size : Int) := by omega
              have HC : Hid (chk ⟨k, o, t, p, s, key, val⟩ = 43) := Lib.hid (by unfold chk; simp only; repeat (first | rw [if_pos (by omega)] | rw [if_neg (by omega)]))
              go_wp2_with fail
              go_ret
              exact ⟨by rw [HC.out]; rfl, HB.out _⟩
            · have v1 : ¬ (1024 : Int) < (val.size : Int) := by omega
              by_cases hv0 : val.size = 0
              · have v2 : val.toList.isEmpty = true := by rw [isEmpty_size]; simpa using hv0
                have v3 : ¬ (0 : Int) < (val.size : Int) := by omega
                have HC : Hid (chk ⟨k, o, t, p, s, key, val⟩ = 0) := Lib.hid (by unfold chk; simp only; repeat (first | rw [if_pos (by omega)] | rw [if_neg (by omega)]))
                go_wp2_with fail
                go_ret
                exact ⟨by rw [HC.out]; rfl, HB.out _⟩
              · have v2 : val.toList.isEmpty = false := by rw [isEmpty_size]; simpa using hv0
                have v3 : (0 : Int) < (val.size : Int) := by omega
                have HC : Hid (chk ⟨k, o, t, p, s, key, val⟩ = 43) := Lib.hid (by unfold chk; simp only; repeat (first | rw [if_pos (by omega)] | rw [if_neg (by omega)]))
                go_wp2_with fail
                go_ret
                exact ⟨by rw [HC.out]; rfl, HB.out _⟩
      · have p1 : (p == 0) = false := by rw [beq_eq_false_iff_ne]; exact hp0
        have p2 : 0 < p := by omega
        go_wp2_with fail
        by_cases hs : 1 ≤ s ∧ s < 1099511627776
        rotate_left
        · skip
          have HC : Hid (chk ⟨k, o, t, p, s, key, val⟩ = 45) := Lib.hid (by unfold chk; simp only; repeat (first | rw [if_pos (by omega)] | rw [if_neg (by omega)]))
          refine (within_no _ _ _ _ (by omega)).mono ?_
          rintro e w1 ⟨rfl, rfl⟩
          go_wp2_with fail
          go_ret
          exact ⟨by rw [HC.out]; rfl, HB.out _⟩
        refine (within_yes _ _ _ _ (by omega)).mono ?_
        rintro e w1 ⟨rfl, rfl⟩
        by_cases hy : key.size < 1
        · have y1 : (key.size : Int) < 1 := by omega
          have HC : Hid (chk ⟨k, o, t, p, s, key, val⟩ = 42) := Lib.hid (by unfold chk; simp only; repeat (first | rw [if_pos (by omega)] | rw [if_neg (by omega)]))
          go_wp2_with fail
          go_ret
          exact ⟨by rw [HC.out]; rfl, HB.out _⟩
        · have y1 : ¬ (key.size : Int) < 1 := by omega
          by_cases hz : 64 < key.size
          · have y2 : (64 : Int) < (key.size : Int) := by omega
            have HC : Hid (chk ⟨k, o, t, p, s, key, val⟩ = 42) := Lib.hid (by unfold chk; simp only; repeat (first | rw [if_pos (by omega)] | rw [if_neg (by omega)]))
            go_wp2_with fail
            go_ret
            exact ⟨by rw [HC.out]; rfl, HB.out _⟩
          · have y2 : ¬ (64 : Int) < (key.size : Int) := by omega
            by_cases hv : 1024 < val.size
            · have v1 : (1024 : Int) < (val.size : Int) := by omega
              have HC : Hid (chk ⟨k, o, t, p, s, key, val⟩ = 43) := Lib.hid (by unfold chk; simp only; repeat (first | rw [if_pos (by omega)] | rw [if_neg (by omega)]))
              go_wp2_with fail
              go_ret
              exact ⟨by rw [HC.out]; rfl, HB.out _⟩
            · have v1 : ¬ (1024 : Int) < (val.size : Int) := by omega
              by_cases hv0 : val.size = 0
              · have v2 : val.toList.isEmpty = true := by rw [isEmpty_size]; simpa using hv0
                have v3 : ¬ (0 : Int) < (val.size : Int) := by omega
                have HC : Hid (chk ⟨k, o, t, p, s, key, val⟩ = 0) := Lib.hid (by unfold chk; simp only; repeat (first | rw [if_pos (by omega)] | rw [if_neg (by omega)]))
                go_wp2_with fail
                go_ret
                exact ⟨by rw [HC.out]; rfl, HB.out _⟩
              · have v2 : val.toList.isEmpty = false := by rw [isEmpty_size]; simpa using hv0
                have v3 : (0 : Int) < (val.size : Int) := by omega
                have HC : Hid (chk ⟨k, o, t, p, s, key, val⟩ = 43) := Lib.hid (by unfold chk; simp only; repeat (first | rw [if_pos (by omega)] | rw [if_neg (by omega)]))
                go_wp2_with fail
                go_ret
                exact ⟨by rw [HC.out]; rfl, HB.out _⟩
    · have f2 : (k != 2) = true := by rw [bne_iff_ne]; exact k2
      have HC : Hid (chk ⟨k, o, t, p, s, key, val⟩ = 44) := Lib.hid (by unfold chk; simp only; repeat (first | rw [if_pos (by omega)] | rw [if_neg (by omega)]))
      go_enter Try.func79, Try.ntmps79
      go_wp2_with fail
      go_ret
      exact ⟨by rw [HC.out]; rfl, HB.out _⟩
set_option maxHeartbeats 8000000 in
set_option maxRecDepth 100000 in
theorem rcheck_is (x : Rc) (w : World) : Calls Try.prog 81 #[x.v] w fun e w' => e = .returned (.int .i64 ((chk x : Nat) : Int)) ∧ Below w.heap.size w w' := by
  obtain ⟨k, o, t, p, s, key, val⟩ := x
  unfold Rc.v
  simp only
  have HB : Hid (∀ b : Obj, Below w.heap.size w (w.alloc b)) := Lib.hid (fun b => (Below.refl _ _).alloc (Nat.le_refl _) b)
  by_cases k1 : k = 1
  · have f1 : (k != 1) = false := by rw [bne_eq_false_iff_eq]; exact k1
    have f2 : (k == 2) = false := by rw [beq_eq_false_iff_ne]; omega
    go_enter Try.func81, Try.ntmps81
    go_wp2_with fail
    by_cases ho : 0 ≤ o ∧ o < 1099511627776
    rotate_left
    · skip
      have HC : Hid (chk ⟨k, o, t, p, s, key, val⟩ = 45) := Lib.hid (by unfold chk; simp only; repeat (first | rw [if_pos (by omega)] | rw [if_neg (by omega)]))
      refine (rbelow_no _ _ _ _ (by omega)).mono ?_
      rintro e w1 ⟨rfl, rfl⟩
      go_wp2_with fail
      go_ret
      exact ⟨by rw [HC.out]; rfl, HB.out _⟩
    refine (rbelow_yes _ _ _ _ (by omega)).mono ?_
    rintro e w1 ⟨rfl, rfl⟩
    go_wp2_with fail
    by_cases ht : 0 ≤ t ∧ t < 1125899906842624
    rotate_left
    · skip
      have HC : Hid (chk ⟨k, o, t, p, s, key, val⟩ = 45) := Lib.hid (by unfold chk; simp only; repeat (first | rw [if_pos (by omega)] | rw [if_neg (by omega)]))
      refine (rbelow_no _ _ _ _ (by omega)).mono ?_
      rintro e w1 ⟨rfl, rfl⟩
      go_wp2_with fail
      go_ret
      exact ⟨by rw [HC.out]; rfl, HB.out _⟩
    refine (rbelow_yes _ _ _ _ (by omega)).mono ?_
    rintro e w1 ⟨rfl, rfl⟩
    go_wp2_with fail
    by_cases hp : 0 ≤ p ∧ p < 4294967296
    rotate_left
    · skip
      have HC : Hid (chk ⟨k, o, t, p, s, key, val⟩ = 45) := Lib.hid (by unfold chk; simp only; repeat (first | rw [if_pos (by omega)] | rw [if_neg (by omega)]))
      refine (rbelow_no _ _ _ _ (by omega)).mono ?_
      rintro e w1 ⟨rfl, rfl⟩
      go_wp2_with fail
      go_ret
      exact ⟨by rw [HC.out]; rfl, HB.out _⟩
    refine (rbelow_yes _ _ _ _ (by omega)).mono ?_
    rintro e w1 ⟨rfl, rfl⟩
    by_cases hp0 : p = 0
    · have p1 : (p == 0) = true := by rw [beq_iff_eq]; exact hp0
      have p2 : ¬ 0 < p := by omega
      by_cases hs0 : s = 0
      rotate_left
      · have s1 : (s != 0) = true := by rw [bne_iff_ne]; exact hs0
        have HC : Hid (chk ⟨k, o, t, p, s, key, val⟩ = 45) := Lib.hid (by unfold chk; simp only; repeat (first | rw [if_pos (by omega)] | rw [if_neg (by omega)]))
        go_wp2_with fail
        go_ret
        exact ⟨by rw [HC.out]; rfl, HB.out _⟩
      have s1 : (s != 0) = false := by rw [bne_eq_false_iff_eq]; exact hs0
      by_cases hy : key.size < 1
      · have y1 : (key.size : Int) < 1 := by omega
        have HC : Hid (chk ⟨k, o, t, p, s, key, val⟩ = 42) := Lib.hid (by unfold chk; simp only; repeat (first | rw [if_pos (by omega)] | rw [if_neg (by omega)]))
        go_wp2_with fail
        go_ret
        exact ⟨by rw [HC.out]; rfl, HB.out _⟩
      · have y1 : ¬ (key.size : Int) < 1 := by omega
        by_cases hz : 64 < key.size
        · have y2 : (64 : Int) < (key.size : Int) := by omega
          have HC : Hid (chk ⟨k, o, t, p, s, key, val⟩ = 42) := Lib.hid (by unfold chk; simp only; repeat (first | rw [if_pos (by omega)] | rw [if_neg (by omega)]))
          go_wp2_with fail
          go_ret
          exact ⟨by rw [HC.out]; rfl, HB.out _⟩
        · have y2 : ¬ (64 : Int) < (key.size : Int) := by omega
          by_cases hv : 1024 < val.size
          · have v1 : (1024 : Int) < (val.size : Int) := by omega
            have HC : Hid (chk ⟨k, o, t, p, s, key, val⟩ = 43) := Lib.hid (by unfold chk; simp only; repeat (first | rw [if_pos (by omega)] | rw [if_neg (by omega)]))
            go_wp2_with fail
            go_ret
            exact ⟨by rw [HC.out]; rfl, HB.out _⟩
          · have v1 : ¬ (1024 : Int) < (val.size : Int) := by omega
            have HC : Hid (chk ⟨k, o, t, p, s, key, val⟩ = 0) := Lib.hid (by unfold chk; simp only; repeat (first | rw [if_pos (by omega)] | rw [if_neg (by omega)]))
            go_wp2_with fail
            go_ret
            exact ⟨by rw [HC.out]; rfl, HB.out _⟩
    · have p1 : (p == 0) = false := by rw [beq_eq_false_iff_ne]; exact hp0
      have p2 : 0 < p := by omega
      go_wp2_with fail
      by_cases hs : 1 ≤ s ∧ s < 1099511627776
      rotate_left
      · skip
        have HC : Hid (chk ⟨k, o, t, p, s, key, val⟩ = 45) := Lib.hid (by unfold chk; simp only; repeat (first | rw [if_pos (by omega)] | rw [if_neg (by omega)]))
        refine (rbelow_no _ _ _ _ (by omega)).mono ?_
        rintro e w1 ⟨rfl, rfl⟩
        go_wp2_with fail
        go_ret
        exact ⟨by rw [HC.out]; rfl, HB.out _⟩
      refine (rbelow_yes _ _ _ _ (by omega)).mono ?_
      rintro e w1 ⟨rfl, rfl⟩
      by_cases hy : key.size < 1
      · have y1 : (key.size : Int) < 1 := by omega
        have HC : Hid (chk ⟨k, o, t, p, s, key, val⟩ = 42) := Lib.hid (by unfold chk; simp only; repeat (first | rw [if_pos (by omega)] | rw [if_neg (by omega)]))
        go_wp2_with fail
        go_ret
        exact ⟨by rw [HC.out]; rfl, HB.out _⟩
      · have y1 : ¬ (key.size : Int) < 1 := by omega
        by_cases hz : 64 < key.size
        · have y2 : (64 : Int) < (key.size : Int) := by omega
          have HC : Hid (chk ⟨k, o, t, p, s, key, val⟩ = 42) := Lib.hid (by unfold chk; simp only; repeat (first | rw [if_pos (by omega)] | rw [if_neg (by omega)]))
          go_wp2_with fail
          go_ret
          exact ⟨by rw [HC.out]; rfl, HB.out _⟩
        · have y2 : ¬ (64 : Int) < (key.size : Int) := by omega
          by_cases hv : 1024 < val.size
          · have v1 : (1024 : Int) < (val.size : Int) := by omega
            have HC : Hid (chk ⟨k, o, t, p, s, key, val⟩ = 43) := Lib.hid (by unfold chk; simp only; repeat (first | rw [if_pos (by omega)] | rw [if_neg (by omega)]))
            go_wp2_with fail
            go_ret
            exact ⟨by rw [HC.out]; rfl, HB.out _⟩
          · have v1 : ¬ (1024 : Int) < (val.size : Int) := by omega
            have HC : Hid (chk ⟨k, o, t, p, s, key, val⟩ = 0) := Lib.hid (by unfold chk; simp only; repeat (first | rw [if_pos (by omega)] | rw [if_neg (by omega)]))
            go_wp2_with fail
            go_ret
            exact ⟨by rw [HC.out]; rfl, HB.out _⟩
  · have f1 : (k != 1) = true := by rw [bne_iff_ne]; exact k1
    by_cases k2 : k = 2
    · have f2 : (k != 2) = false := by rw [bne_eq_false_iff_eq]; exact k2
      have f3 : (k == 2) = true := by rw [beq_iff_eq]; exact k2
      go_enter Try.func81, Try.ntmps81
      go_wp2_with fail
      by_cases ho : 0 ≤ o ∧ o < 1099511627776
      rotate_left
      · skip
        have HC : Hid (chk ⟨k, o, t, p, s, key, val⟩ = 45) := Lib.hid (by unfold chk; simp only; repeat (first | rw [if_pos (by omega)] | rw [if_neg (by omega)]))
        refine (rbelow_no _ _ _ _ (by omega)).mono ?_
        rintro e w1 ⟨rfl, rfl⟩
        go_wp2_with fail
        go_ret
        exact ⟨by rw [HC.out]; rfl, HB.out _⟩
      refine (rbelow_yes _ _ _ _ (by omega)).mono ?_
      rintro e w1 ⟨rfl, rfl⟩
      go_wp2_with fail
      by_cases ht : 0 ≤ t ∧ t < 1125899906842624
      rotate_left
      · skip
        have HC : Hid (chk ⟨k, o, t, p, s, key, val⟩ = 45) := Lib.hid (by unfold chk; simp only; repeat (first | rw [if_pos (by omega)] | rw [if_neg (by omega)]))
        refine (rbelow_no _ _ _ _ (by omega)).mono ?_
        rintro e w1 ⟨rfl, rfl⟩
        go_wp2_with fail
        go_ret
        exact ⟨by rw [HC.out]; rfl, HB.out _⟩
      refine (rbelow_yes _ _ _ _ (by omega)).mono ?_
      rintro e w1 ⟨rfl, rfl⟩
      go_wp2_with fail
      by_cases hp : 0 ≤ p ∧ p < 4294967296
      rotate_left
      · skip
        have HC : Hid (chk ⟨k, o, t, p, s, key, val⟩ = 45) := Lib.hid (by unfold chk; simp only; repeat (first | rw [if_pos (by omega)] | rw [if_neg (by omega)]))
        refine (rbelow_no _ _ _ _ (by omega)).mono ?_
        rintro e w1 ⟨rfl, rfl⟩
        go_wp2_with fail
        go_ret
        exact ⟨by rw [HC.out]; rfl, HB.out _⟩
      refine (rbelow_yes _ _ _ _ (by omega)).mono ?_
      rintro e w1 ⟨rfl, rfl⟩
      by_cases hp0 : p = 0
      · have p1 : (p == 0) = true := by rw [beq_iff_eq]; exact hp0
        have p2 : ¬ 0 < p := by omega
        by_cases hs0 : s = 0
        rotate_left
        · have s1 : (s != 0) = true := by rw [bne_iff_ne]; exact hs0
          have HC : Hid (chk ⟨k, o, t, p, s, key, val⟩ = 45) := Lib.hid (by unfold chk; simp only; repeat (first | rw [if_pos (by omega)] | rw [if_neg (by omega)]))
          go_wp2_with fail
          go_ret
          exact ⟨by rw [HC.out]; rfl, HB.out _⟩
        have s1 : (s != 0) = false := by rw [bne_eq_false_iff_eq]; exact hs0
        by_cases hy : key.size < 1
        · have y1 : (key.size : Int) < 1 := by omega
          have HC : Hid (chk ⟨k, o, t, p, s, key, val⟩ = 42) := Lib.hid (by unfold chk; simp only; repeat (first | rw [if_pos (by omega)] | rw [if_neg (by omega)]))
          go_wp2_with fail
          go_ret
          exact ⟨by rw [HC.out]; rfl, HB.out _⟩
        · have y1 : ¬ (key.size : Int) < 1 := by omega
          by_cases hz : 64 < key.size
          · have y2 : (64 : Int) < (key.size : Int) := by omega
            have HC : Hid (chk ⟨k, o, t, p, s, key, val⟩ = 42) := Lib.hid (by unfold chk; simp only; repeat (first | rw [if_pos (by omega)] | rw [if_neg (by omega)]))
            go_wp2_with fail
            go_ret
            exact ⟨by rw [HC.out]; rfl, HB.out _⟩
          · have y2 : ¬ (64 : Int) < (key.size : Int) := by omega
            by_cases hv : 1024 < val.size
            · have v1 : (1024 : Int) < (val.size : Int) := by omega
              have HC : Hid (chk ⟨k, o, t, p, s, key, val⟩ = 43) := Lib.hid (by unfold chk; simp only; repeat (first | rw [if_pos (by omega)] | rw [if_neg (by omega)]))
              go_wp2_with fail
              go_ret
              exact ⟨by rw [HC.out]; rfl, HB.out _⟩
            · have v1 : ¬ (1024 : Int) < (val.size : Int) := by omega
              by_cases hv0 : val.size = 0
              · have v2 : val.toList.isEmpty = true := by rw [isEmpty_size]; simpa using hv0
                have v3 : ¬ (0 : Int) < (val.size : Int) := by omega
                have HC : Hid (chk ⟨k, o, t, p, s, key, val⟩ = 0) := Lib.hid (by unfold chk; simp only; repeat (first | rw [if_pos (by omega)] | rw [if_neg (by omega)]))
                go_wp2_with fail
                go_ret
                exact ⟨by rw [HC.out]; rfl, HB.out _⟩
              · have v2 : val.toList.isEmpty = false := by rw [isEmpty_size]; simpa using hv0
                have v3 : (0 : Int) < (val.size : Int) := by omega
                have HC : Hid (chk ⟨k, o, t, p, s, key, val⟩ = 43) := Lib.hid (by unfold chk; simp only; repeat (first | rw [if_pos (by omega)] | rw [if_neg (by omega)]))
                go_wp2_with fail
                go_ret
                exact ⟨by rw [HC.out]; rfl, HB.out _⟩
      · have p1 : (p == 0) = false := by rw [beq_eq_false_iff_ne]; exact hp0
        have p2 : 0 < p := by omega
        go_wp2_with fail
        by_cases hs : 1 ≤ s ∧ s < 1099511627776
        rotate_left
        · skip
          have HC : Hid (chk ⟨k, o, t, p, s, key, val⟩ = 45) := Lib.hid (by unfold chk; simp only; repeat (first | rw [if_pos (by omega)] | rw [if_neg (by omega)]))
          refine (rbelow_no _ _ _ _ (by omega)).mono ?_
          rintro e w1 ⟨rfl, rfl⟩
          go_wp2_with fail
          go_ret
          exact ⟨by rw [HC.out]; rfl, HB.out _⟩
        refine (rbelow_yes _ _ _ _ (by omega)).mono ?_
        rintro e w1 ⟨rfl, rfl⟩
        by_cases hy : key.size < 1
        · have y1 : (key.size : Int) < 1 := by omega
          have HC : Hid (chk ⟨k, o, t, p, s, key, val⟩ = 42) := Lib.hid (by unfold chk; simp only; repeat (first | rw [if_pos (by omega)] | rw [if_neg (by omega)]))
          go_wp2_with fail
          go_ret
          exact ⟨by rw [HC.out]; rfl, HB.out _⟩
        · have y1 : ¬ (key.size : Int) < 1 := by omega
          by_cases hz : 64 < key.size
          · have y2 : (64 : Int) < (key.size : Int) := by omega
            have HC : Hid (chk ⟨k, o, t, p, s, key, val⟩ = 42) := Lib.hid (by unfold chk; simp only; repeat (first | rw [if_pos (by omega)] | rw [if_neg (by omega)]))
            go_wp2_with fail
            go_ret
            exact ⟨by rw [HC.out]; rfl, HB.out _⟩
          · have y2 : ¬ (64 : Int) < (key.size : Int) := by omega
            by_cases hv : 1024 < val.size
            · have v1 : (1024 : Int) < (val.size : Int) := by omega
              have HC : Hid (chk ⟨k, o, t, p, s, key, val⟩ = 43) := Lib.hid (by unfold chk; simp only; repeat (first | rw [if_pos (by omega)] | rw [if_neg (by omega)]))
              go_wp2_with fail
              go_ret
              exact ⟨by rw [HC.out]; rfl, HB.out _⟩
            · have v1 : ¬ (1024 : Int) < (val.size : Int) := by omega
              by_cases hv0 : val.size = 0
              · have v2 : val.toList.isEmpty = true := by rw [isEmpty_size]; simpa using hv0
                have v3 : ¬ (0 : Int) < (val.size : Int) := by omega
                have HC : Hid (chk ⟨k, o, t, p, s, key, val⟩ = 0) := Lib.hid (by unfold chk; simp only; repeat (first | rw [if_pos (by omega)] | rw [if_neg (by omega)]))
                go_wp2_with fail
                go_ret
                exact ⟨by rw [HC.out]; rfl, HB.out _⟩
              · have v2 : val.toList.isEmpty = false := by rw [isEmpty_size]; simpa using hv0
                have v3 : (0 : Int) < (val.size : Int) := by omega
                have HC : Hid (chk ⟨k, o, t, p, s, key, val⟩ = 43) := Lib.hid (by unfold chk; simp only; repeat (first | rw [if_pos (by omega)] | rw [if_neg (by omega)]))
                go_wp2_with fail
                go_ret
                exact ⟨by rw [HC.out]; rfl, HB.out _⟩
    · have f2 : (k != 2) = true := by rw [bne_iff_ne]; exact k2
      have HC : Hid (chk ⟨k, o, t, p, s, key, val⟩ = 44) := Lib.hid (by unfold chk; simp only; repeat (first | rw [if_pos (by omega)] | rw [if_neg (by omega)]))
      go_enter Try.func81, Try.ntmps81
      go_wp2_with fail
      go_ret
      exact ⟨by rw [HC.out]; rfl, HB.out _⟩
end Go.Proofs.Ytljfmcgeiceagaa
