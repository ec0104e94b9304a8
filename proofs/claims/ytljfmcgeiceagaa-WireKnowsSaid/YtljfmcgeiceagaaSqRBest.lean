/- The document's best. -/
import Derived.Test.YtljfmcgeiceagaaSqMl
namespace Go.Proofs.Ytljfmcgeiceagaa
open Go Go.RowKit
set_option linter.unusedVariables false
set_option linter.unusedSimpArgs false

theorem best_fin {t : List Nat} {i a b : Nat} (h : bst t i (min i 2048) = (a, b)) : best t i = if a < 5 then (0, 0) else (a, b) := by unfold best; rw [h]
theorem bst_up {t : List Nat} {i D a b m : Nat} (h : bst t i D = (a, b)) (hm : m = ml t i (D + 1)) (hlt : a < m) : bst t i (D + 1) = (m, D + 1) := by subst hm; rw [bst, h, if_pos hlt]
theorem bst_no {t : List Nat} {i D a b m : Nat} (h : bst t i D = (a, b)) (hm : m = ml t i (D + 1)) (hlt : ¬ a < m) : bst t i (D + 1) = (a, b) := by subst hm; rw [bst, h, if_neg hlt]

set_option maxHeartbeats 2000000 in
set_option maxRecDepth 100000 in
theorem rbest_is (A : Option Addr) (n c i : Nat) (t : List Nat) (w : World) (hr : Rd w A (b8 t)) (hn : t.length = n) (hl : n ≤ 4096) (hi : i < n) :
    Calls Try.prog 106 #[.slice A n c, .int .i64 (i : Int)] w fun e w' => e = .returned (.tuple #[.int .i64 (((best t i).1 : Nat) : Int), .int .i64 (((best t i).2 : Nat) : Int)]) ∧ ∃ m, w' = w.drewN m := by
  have HN := Lib.hid hn
  have PL : Hid (∀ j d, 1 ≤ d → d ≤ i → Calls Try.prog 112 #[.slice A n c, .int .i64 (i : Int), .int .i64 (d : Int)] (w.drewN j) fun e w' => e = .returned (.int .i64 ((ml t i d : Nat) : Int)) ∧ ∃ m, w' = w.drewN m) :=
    Lib.hid (fun j d h1 h2 => (rlength_is A n c i d t (w.drewN j) (hr.below (below_drewN (Below.refl _ _) j)) hn (by omega) (by omega) h1 h2).mono (fun e w' h => ⟨h.1, by obtain ⟨m, hm⟩ := h.2; exact ⟨_, by rw [hm]; exact World.drewN_drewN ..⟩⟩))
  obtain ⟨q, hq⟩ : ∃ q, q = best t i := ⟨_, rfl⟩
  have HQ := Lib.hid hq
  rw [← hq]
  clear hr hn hq
  go_enter Try.func106, Try.ntmps106
  go_wp2
  go_loopw [6, 7, 8, 9] (fun u6 u7 u8 u9 wr => ∃ (D a b j : Nat), u6 = .int .i64 a ∧ u7 = .int .i64 b ∧ u8 = .int .i64 ((D : Int) + 1) ∧ D ≤ min i 2048 ∧ a ≤ 258 ∧ Hid (bst t i D = (a, b)) ∧ wr = w.drewN j) (fun _ _ u8 _ _ => 5000 - (intOf u8).toNat)
  case atStart => exact ⟨0, 0, 0, 0, rfl, rfl, rfl, Nat.zero_le _, by omega, Lib.hid rfl, rfl⟩
  case round =>
    obtain ⟨D, a, b, j, rfl, rfl, rfl, hD, ha, HB, rfl⟩ := hrel
    by_cases hd : D + 1 ≤ i
    · have hd1 : (D : Int) + 1 ≤ (i : Int) := by omega
      by_cases hw : D + 1 ≤ 2048
      · have hw1 : (D : Int) + 1 ≤ 2048 := by omega
        have P1 := Lib.hid (PL.out j (D + 1) (by omega) hd)
        have hm := ml_le t i (D + 1)
        have hml := ml_len (t := t) (i := i) (D + 1) (by rw [HN.out]; omega)
        rw [HN.out] at hml
        obtain ⟨m, hm'⟩ : ∃ m, m = ml t i (D + 1) := ⟨_, rfl⟩
        have HM := Lib.hid hm'
        rw [← hm'] at P1 hm hml
        rw [show ((D + 1 : Nat) : Int) = (D : Int) + 1 by omega] at P1
        clear hm'
        go_wp2_with fail
        refine P1.out.mono ?_
        rintro e w1 ⟨rfl, j1, rfl⟩
        by_cases hlt : a < m
        · have HBN := Lib.hid (bst_up HB.out HM.out hlt)
          clear HB
          by_cases hfull : m = 258
          · have HFIN := Lib.hid ((bst_stop (t := t) (i := i) (D' := min i 2048) (by rw [HN.out]; omega) (.inl (by rw [HBN.out]; exact hfull)) (by omega)).trans HBN.out)
            have HFU : Hid (q = (m, (D + 1))) := Lib.hid (by rw [HQ.out, best_fin HFIN.out, if_neg (by omega)])
            have hsub : ((258 : Nat) : Int) = 258 := rfl
            subst hfull
            go_wp2_with fail
            go_ret2
            exact ⟨by rw [HFU.out]; rfl, _, rfl⟩
          · have hfb : ((m : Int) == 258) = false := by rw [beq_eq_false_iff_ne]; omega
            by_cases hend : i + m = n
            · have heb : ((i : Int) + (m : Int) == (n : Int)) = true := by rw [beq_iff_eq]; omega
              have HFIN := Lib.hid ((bst_stop (t := t) (i := i) (D' := min i 2048) (by rw [HN.out]; omega) (.inr (by rw [HBN.out, HN.out]; exact hend)) (by omega)).trans HBN.out)
              clear hend hfull
              by_cases hs : m < 5
              · have HE : Hid (q = (0, 0)) := Lib.hid (by rw [HQ.out, best_fin HFIN.out, if_pos hs])
                go_wp2_with fail
                go_ret2
                exact ⟨by rw [HE.out]; rfl, _, rfl⟩
              · have HE : Hid (q = (m, (D + 1))) := Lib.hid (by rw [HQ.out, best_fin HFIN.out, if_neg hs])
                go_wp2_with fail
                go_ret2
                exact ⟨by rw [HE.out]; rfl, _, rfl⟩
            · have heb : ((i : Int) + (m : Int) == (n : Int)) = false := by rw [beq_eq_false_iff_ne]; omega
              clear hend hfull
              go_wp2_with fail
              go_roundw
              case rel => exact ⟨D + 1, m, (D + 1), _, rfl, by first | rfl | go_num, by go_num, by omega, by omega, HBN, rfl⟩
              case measure => simp [intOf]; omega
        · have HBN := Lib.hid (bst_no HB.out HM.out hlt)
          clear HB
          by_cases hfull : a = 258
          · have HFIN := Lib.hid ((bst_stop (t := t) (i := i) (D' := min i 2048) (by rw [HN.out]; omega) (.inl (by rw [HBN.out]; exact hfull)) (by omega)).trans HBN.out)
            have HFU : Hid (q = (a, b)) := Lib.hid (by rw [HQ.out, best_fin HFIN.out, if_neg (by omega)])
            have hsub : ((258 : Nat) : Int) = 258 := rfl
            subst hfull
            go_wp2_with fail
            go_ret2
            exact ⟨by rw [HFU.out]; rfl, _, rfl⟩
          · have hfb : ((a : Int) == 258) = false := by rw [beq_eq_false_iff_ne]; omega
            by_cases hend : i + a = n
            · have heb : ((i : Int) + (a : Int) == (n : Int)) = true := by rw [beq_iff_eq]; omega
              have HFIN := Lib.hid ((bst_stop (t := t) (i := i) (D' := min i 2048) (by rw [HN.out]; omega) (.inr (by rw [HBN.out, HN.out]; exact hend)) (by omega)).trans HBN.out)
              clear hend hfull
              by_cases hs : a < 5
              · have HE : Hid (q = (0, 0)) := Lib.hid (by rw [HQ.out, best_fin HFIN.out, if_pos hs])
                go_wp2_with fail
                go_ret2
                exact ⟨by rw [HE.out]; rfl, _, rfl⟩
              · have HE : Hid (q = (a, b)) := Lib.hid (by rw [HQ.out, best_fin HFIN.out, if_neg hs])
                go_wp2_with fail
                go_ret2
                exact ⟨by rw [HE.out]; rfl, _, rfl⟩
            · have heb : ((i : Int) + (a : Int) == (n : Int)) = false := by rw [beq_eq_false_iff_ne]; omega
              clear hend hfull
              go_wp2_with fail
              go_roundw
              case rel => exact ⟨D + 1, a, b, _, rfl, by first | rfl | go_num, by go_num, by omega, by omega, HBN, rfl⟩
              case measure => simp [intOf]; omega
      · have hw1 : ¬ (D : Int) + 1 ≤ 2048 := by omega
        have HFIN := Lib.hid (show bst t i (min i 2048) = (a, b) by rw [show min i 2048 = D by omega]; exact HB.out)
        by_cases hs : a < 5
        · have HE : Hid (q = (0, 0)) := Lib.hid (by rw [HQ.out, best_fin HFIN.out, if_pos hs])
          go_wp2_with fail
          go_ret2
          exact ⟨by rw [HE.out]; rfl, _, rfl⟩
        · have HE : Hid (q = (a, b)) := Lib.hid (by rw [HQ.out, best_fin HFIN.out, if_neg hs])
          go_wp2_with fail
          go_ret2
          exact ⟨by rw [HE.out]; rfl, _, rfl⟩
    · have hd1 : ¬ (D : Int) + 1 ≤ (i : Int) := by omega
      have HFIN := Lib.hid (show bst t i (min i 2048) = (a, b) by rw [show min i 2048 = D by omega]; exact HB.out)
      by_cases hs : a < 5
      · have HE : Hid (q = (0, 0)) := Lib.hid (by rw [HQ.out, best_fin HFIN.out, if_pos hs])
        go_wp2_with fail
        go_ret2
        exact ⟨by rw [HE.out]; rfl, _, rfl⟩
      · have HE : Hid (q = (a, b)) := Lib.hid (by rw [HQ.out, best_fin HFIN.out, if_neg hs])
        go_wp2_with fail
        go_ret2
        exact ⟨by rw [HE.out]; rfl, _, rfl⟩
end Go.Proofs.Ytljfmcgeiceagaa
