/- The reference's After. -/
import Derived.Test.YtfgjlplfpjfnoaaOctAft
namespace Go.Proofs.Ytfgjlplfpjfnoaa
open Go Go.RowKit
set_option linter.unusedVariables false

set_option maxHeartbeats 800000 in
set_option maxRecDepth 100000 in
theorem rafter_any (s : ByteArray) (w : World) (ls : s.size ≤ 140737488351232) :
    Calls Try.prog 31 #[.string s] w fun e w' => AftPost w s e w' := by
  go_enter Try.func31, Try.ntmps31
  go_wp2
  go_loop [4] (fun v => ∃ m : Nat, m ≤ s.size ∧ v = .int .i64 m ∧ Hid (lst (sb s) = lst ((sb s).take m))) (fun v => (intOf v).toNat)
  case atStart => exact ⟨s.size, Nat.le_refl _, rfl, by rw [List.take_of_length_le (by rw [sb_length]; omega)]; rfl⟩
  case round =>
    obtain ⟨m, hml, rfl, H⟩ := hrel
    by_cases h0 : m = 0
    · subst h0
      have hL : lst (sb s) = 0 := by rw [H.out]; simp [lst]
      have HL := Lib.hid hL
      clear hL H
      go_wp2
      go_ret2
      refine ⟨?_, Below.refl _ _⟩
      unfold aftS aftOk
      rw [HL.out]
      rfl
    · have hpos : 0 < m := by omega
      have hp1 : m - 1 < s.size := by omega
      have hget := sb_get s (m - 1) hp1
      have i0 : (0 : Int) ≤ (m : Int) - 1 := by omega
      have i1 : (m : Int) - 1 < (s.size : Int) := by omega
      have hne0 : ((m : Int) == 0) = false := by rw [beq_eq_false_iff_ne]; omega
      have hlst := lst_take_succ (sb s) (m - 1) _ hget
      rw [show m - 1 + 1 = m from by omega, ← H.out] at hlst
      by_cases hx : (s[m - 1]'hp1).toNat = 255
      · rw [if_pos hx] at hlst
        have hb : ((((s[m - 1]'hp1).toNat : Nat) : Int) == 255) = true := by rw [beq_iff_eq]; omega
        have HL := Lib.hid hlst
        clear hlst hget hx H
        go_wp2
        go_round
        case rel => exact ⟨m - 1, by omega, by go_num, HL⟩
        case measure => simp [intOf]; omega
      · rw [if_neg hx] at hlst
        have hb : ((((s[m - 1]'hp1).toNat : Nat) : Int) == 255) = false := by rw [beq_eq_false_iff_ne]; omega
        have HM := Lib.hid hlst
        clear hlst hget hx H h0
        by_cases hall : m = s.size
        · subst hall
          go_wp2_with (first
            | (refine wpList_bytes _ rfl (.tmp 23) 9 22 5 rfl Try.underlying9 Try.underlying22 Try.underlying5 s rfl ?_; intro c w1 zs hrow0 hcm hbel hzl; have hrow := row_ext hrow0; clear hrow0; obtain ⟨b, hc1, hf1, hb255, hrow2, hlen, hby⟩ := aft_row hrow HM.out (by omega) (by omega); clear hrow hzl; have hbb : (b : Int) < 255 := (by omega); have HR := Lib.hid hrow2; have HLEN := Lib.hid hlen; clear hrow2 hlen)
            | (refine wpList_str _ rfl (.tmp 32) 22 9 5 rfl Try.underlying22 Try.underlying5 Try.underlying9 (some ⟨_, 0, none⟩) _ c (aft (sb s)) rfl (aft_pre HR.out) (HLEN.out.trans (by first | rfl | omega | (simp <;> omega))) hby ?_))
          go_ret2
          refine ⟨?_, hbel.setCell (Nat.le_refl _) _⟩
          rw [aftS_yes HM.out (by omega), aftOk_yes HM.out (by omega)]
          rfl
        · have hms : m < s.size := by omega
          clear hall
          go_wp2_with (first
            | (refine wpList_bytes _ rfl (.tmp 23) 9 22 5 rfl Try.underlying9 Try.underlying22 Try.underlying5 (s.extract 0 m) rfl ?_; intro c w1 zs hrow hcm hbel hzl; obtain ⟨b, hc1, hf1, hb255, hrow2, hlen, hby⟩ := aft_row hrow HM.out (by omega) (by omega); clear hrow hzl; have hbb : (b : Int) < 255 := (by omega); have hmc : ((m : Nat) : Int) - 1 < ((s.extract 0 m).size : Int) := (by first | rfl | omega | (simp <;> omega)); have HR := Lib.hid hrow2; have HLEN := Lib.hid hlen; clear hrow2 hlen)
            | (refine wpList_str _ rfl (.tmp 32) 22 9 5 rfl Try.underlying22 Try.underlying5 Try.underlying9 (some ⟨_, 0, none⟩) _ c (aft (sb s)) rfl (aft_pre HR.out) (HLEN.out.trans (by first | rfl | omega | (simp <;> omega))) hby ?_))
          go_ret2
          refine ⟨?_, hbel.setCell (Nat.le_refl _) _⟩
          rw [aftS_yes HM.out (by omega), aftOk_yes HM.out (by omega)]
          rfl
end Go.Proofs.Ytfgjlplfpjfnoaa
