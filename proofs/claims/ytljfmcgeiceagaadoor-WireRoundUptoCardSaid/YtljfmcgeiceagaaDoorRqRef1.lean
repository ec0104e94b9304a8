/- The document's uses, has and CheckRequest (printed by gen_rqref.py). -/
import Derived.Test.YtljfmcgeiceagaaDoorQ1
import Derived.Deep.CutRange
namespace Go.Proofs.YtljfmcgeiceagaaDoor
open Go Go.RowKit
set_option linter.unusedVariables false
set_option linter.unusedSimpArgs false

/-- The letters of what an operation uses. -/
def usL (op : Int) : List Nat :=
  if op = 1 then [] else if op = 2 then [84, 78] else if op = 3 ∨ op = 15 then [84] else if op = 4 ∨ op = 12 then [75] else if op = 5 then [84, 75, 86, 80, 83] else if op = 6 then [84, 75, 80, 83]
  else if op = 7 ∨ op = 9 ∨ op = 14 then [84, 75] else if op = 8 ∨ op = 10 then [84, 79] else if op = 11 then [78] else if op = 13 then [84, 75, 79, 78] else [63]
def usS (op : Int) : ByteArray := strOf (usL op)
theorem usL_by (op : Int) : By (usL op) := by
  unfold usL
  repeat' split
  all_goals (intro b hb; simp only [List.mem_cons, List.not_mem_nil, or_false] at hb; try omega)
theorem sb_usS (op : Int) : sb (usS op) = usL op := sb_strOf (usL_by op)
theorem usL_len (op : Int) : (usL op).length ≤ 5 := by
  unfold usL
  repeat' split
  all_goals simp
theorem usS_size (op : Int) : (usS op).size = (usL op).length := strOf_size _
/-- The letters are the bits. -/
theorem usL_bits : ∀ k : Fin 16, 1 ≤ k.val → (decide (84 ∈ usL (k.val : Nat)) = hasb (useB k.val) 1 ∧ decide (75 ∈ usL (k.val : Nat)) = hasb (useB k.val) 2 ∧ decide (86 ∈ usL (k.val : Nat)) = hasb (useB k.val) 4 ∧ decide (79 ∈ usL (k.val : Nat)) = hasb (useB k.val) 8 ∧ decide (78 ∈ usL (k.val : Nat)) = hasb (useB k.val) 16 ∧ decide (80 ∈ usL (k.val : Nat)) = hasb (useB k.val) 32 ∧ decide (83 ∈ usL (k.val : Nat)) = hasb (useB k.val) 64) ∧ (usS (k.val : Nat)).toList ≠ [63] := by decide +kernel
theorem usL_none {op : Int} (h : ¬ (1 ≤ op ∧ op < 16)) : usL op = [63] := by
  unfold usL
  rw [if_neg (by omega), if_neg (by omega), if_neg (by omega), if_neg (by omega), if_neg (by omega), if_neg (by omega), if_neg (by omega), if_neg (by omega), if_neg (by omega), if_neg (by omega)]

set_option maxHeartbeats 2000000 in
set_option maxRecDepth 100000 in
theorem uses16_is (op : Int) (w : World) : Calls Tryd.prog 32 #[.int .i64 op] w fun e w' => e = .returned (.string (usS op)) ∧ w = w' := by
  by_cases h1 : op = 1
  · subst h1
    go_enter Tryd.func32, Tryd.ntmps32
    go_wp2
    go_ret
    exact ⟨rfl, rfl⟩
  have e1 : (op == 1) = false := beq_false_of_ne h1
  by_cases h2 : op = 2
  · subst h2
    go_enter Tryd.func32, Tryd.ntmps32
    go_wp2
    go_ret
    exact ⟨rfl, rfl⟩
  have e2 : (op == 2) = false := beq_false_of_ne h2
  by_cases h3 : op = 3
  · subst h3
    go_enter Tryd.func32, Tryd.ntmps32
    go_wp2
    go_ret
    exact ⟨rfl, rfl⟩
  have e3 : (op == 3) = false := beq_false_of_ne h3
  by_cases h15 : op = 15
  · subst h15
    go_enter Tryd.func32, Tryd.ntmps32
    go_wp2
    go_ret
    exact ⟨rfl, rfl⟩
  have e15 : (op == 15) = false := beq_false_of_ne h15
  by_cases h4 : op = 4
  · subst h4
    go_enter Tryd.func32, Tryd.ntmps32
    go_wp2
    go_ret
    exact ⟨rfl, rfl⟩
  have e4 : (op == 4) = false := beq_false_of_ne h4
  by_cases h12 : op = 12
  · subst h12
    go_enter Tryd.func32, Tryd.ntmps32
    go_wp2
    go_ret
    exact ⟨rfl, rfl⟩
  have e12 : (op == 12) = false := beq_false_of_ne h12
  by_cases h5 : op = 5
  · subst h5
    go_enter Tryd.func32, Tryd.ntmps32
    go_wp2
    go_ret
    exact ⟨rfl, rfl⟩
  have e5 : (op == 5) = false := beq_false_of_ne h5
  by_cases h6 : op = 6
  · subst h6
    go_enter Tryd.func32, Tryd.ntmps32
    go_wp2
    go_ret
    exact ⟨rfl, rfl⟩
  have e6 : (op == 6) = false := beq_false_of_ne h6
  by_cases h7 : op = 7
  · subst h7
    go_enter Tryd.func32, Tryd.ntmps32
    go_wp2
    go_ret
    exact ⟨rfl, rfl⟩
  have e7 : (op == 7) = false := beq_false_of_ne h7
  by_cases h9 : op = 9
  · subst h9
    go_enter Tryd.func32, Tryd.ntmps32
    go_wp2
    go_ret
    exact ⟨rfl, rfl⟩
  have e9 : (op == 9) = false := beq_false_of_ne h9
  by_cases h14 : op = 14
  · subst h14
    go_enter Tryd.func32, Tryd.ntmps32
    go_wp2
    go_ret
    exact ⟨rfl, rfl⟩
  have e14 : (op == 14) = false := beq_false_of_ne h14
  by_cases h8 : op = 8
  · subst h8
    go_enter Tryd.func32, Tryd.ntmps32
    go_wp2
    go_ret
    exact ⟨rfl, rfl⟩
  have e8 : (op == 8) = false := beq_false_of_ne h8
  by_cases h10 : op = 10
  · subst h10
    go_enter Tryd.func32, Tryd.ntmps32
    go_wp2
    go_ret
    exact ⟨rfl, rfl⟩
  have e10 : (op == 10) = false := beq_false_of_ne h10
  by_cases h11 : op = 11
  · subst h11
    go_enter Tryd.func32, Tryd.ntmps32
    go_wp2
    go_ret
    exact ⟨rfl, rfl⟩
  have e11 : (op == 11) = false := beq_false_of_ne h11
  by_cases h13 : op = 13
  · subst h13
    go_enter Tryd.func32, Tryd.ntmps32
    go_wp2
    go_ret
    exact ⟨rfl, rfl⟩
  have e13 : (op == 13) = false := beq_false_of_ne h13
  have hu : usS op = ⟨#[63]⟩ := by unfold usS; rw [usL_none (by omega)]; rfl
  rw [hu]
  clear h1 h2 h3 h15 h4 h12 h5 h6 h7 h9 h14 h8 h10 h11 h13 hu
  go_enter Tryd.func32, Tryd.ntmps32
  go_wp2
  go_ret
  exact ⟨rfl, rfl⟩
set_option maxRecDepth 100000 in
theorem has16_is (s : ByteArray) (c : Nat) (w : World) (hs : s.size ≤ 1000) : Calls Tryd.prog 52 #[.string s, .int .u8 (c : Int)] w fun e w' => e = .returned (.bool (decide (c ∈ sb s))) ∧ w = w' := by
  go_enter Tryd.func52, Tryd.ntmps52
  go_wp2
  go_loop [5] (fun i => ∃ k : Nat, k ≤ s.size ∧ i = .int .i64 k ∧ Hid (∀ j, j < k → (sb s)[j]? ≠ some c)) (fun i => s.size - (intOf i).toNat)
  case atStart => exact ⟨0, Nat.zero_le _, rfl, Lib.hid (fun j hj => by omega)⟩
  case round =>
    obtain ⟨k, hk, rfl, H⟩ := hrel
    by_cases hlt : k < s.size
    · have h1 : (0 : Int) ≤ (k : Int) := by omega
      have h2 : (k : Int) < (s.size : Int) := by omega
      have hg := Lib.hid (sb_get s k hlt)
      by_cases hc : s[k].toNat = c
      · have e1 : ((s[k].toNat : Int) == (c : Int)) = true := by rw [beq_iff_eq]; omega
        have HM : Hid (decide (c ∈ sb s) = true) := Lib.hid (decide_eq_true (List.mem_iff_getElem?.2 ⟨k, by rw [hg.out, hc]⟩))
        clear H hc
        go_wp2
        go_ret
        exact ⟨by rw [HM.out] <;> rfl, rfl⟩
      · have e1 : ((s[k].toNat : Int) == (c : Int)) = false := by rw [beq_eq_false_iff_ne]; omega
        have HN : Hid (∀ j, j < k + 1 → (sb s)[j]? ≠ some c) := Lib.hid (fun j hj => by
          rcases Nat.lt_or_eq_of_le (Nat.le_of_lt_succ hj) with h | rfl
          · exact H.out j h
          · rw [hg.out]; intro e; injection e with e; exact hc e)
        clear H hc
        go_wp2
        go_round
        case rel => exact ⟨k + 1, by omega, by go_num, HN⟩
        case measure => simp [intOf]; omega
    · have hk2 : k = s.size := by omega
      have HM : Hid (decide (c ∈ sb s) = false) := Lib.hid (decide_eq_false (fun h => by
        obtain ⟨j, hj⟩ := List.mem_iff_getElem?.1 h
        have hj2 := (List.getElem?_eq_some_iff.1 hj).1
        rw [sb_length] at hj2
        exact H.out j (by omega) hj))
      clear H hlt hk
      subst hk2
      go_wp2
      go_ret
      exact ⟨by rw [HM.out] <;> rfl, rfl⟩
end Go.Proofs.YtljfmcgeiceagaaDoor
