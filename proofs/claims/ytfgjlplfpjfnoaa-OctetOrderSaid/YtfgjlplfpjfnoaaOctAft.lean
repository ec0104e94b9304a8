/- octet.After and the reference's: what they return. -/
import Derived.Test.YtfgjlplfpjfnoaaAftPlain
import Derived.Test.YtfgjlplfpjfnoaaConv
namespace Go.Proofs.Ytfgjlplfpjfnoaa
open Go Go.RowKit
set_option linter.unusedVariables false

def aftS (s : ByteArray) : ByteArray := if lst (sb s) = 0 then ⟨#[]⟩ else strOf (aft (sb s))
def aftOk (s : ByteArray) : Bool := !decide (lst (sb s) = 0)

theorem aftS_yes {s : ByteArray} {m : Nat} (h : lst (sb s) = m) (hm : 0 < m) : aftS s = strOf (aft (sb s)) := by
  unfold aftS
  rw [if_neg (by omega)]
theorem aftOk_yes {s : ByteArray} {m : Nat} (h : lst (sb s) = m) (hm : 0 < m) : aftOk s = true := by
  unfold aftOk
  simp
  omega

def AftPost (w : World) (s : ByteArray) (e : Ending) (w' : World) : Prop := e = .returned (.tuple #[.string (aftS s), .bool (aftOk s)]) ∧ Below w.heap.size w w'

theorem aft_row {s : ByteArray} {m g : Nat} {w1 : World} {zs : List Value} {e : TypeId} (hrow : Row w1 g e (b8 (sb (s.extract 0 m)) ++ zs)) (HM : lst (sb s) = m) (hm : 0 < m) (hl : m ≤ s.size) :
    ∃ b : Nat, w1.cell? ⟨g, m - 1, none⟩ = some (.int .u8 (b : Int)) ∧ w1.frozen? ⟨g, m - 1, none⟩ = false ∧ b < 255 ∧ Row (w1.setCell ⟨g, m - 1, none⟩ (.int .u8 ((b : Int) + 1))) g e (b8 (aft (sb s)) ++ zs) ∧ (aft (sb s)).length = m ∧ By (aft (sb s)) := by
  obtain ⟨x, hx, hne⟩ := lst_spec (sb s) (by omega)
  rw [HM] at hx
  have hb := sb_by s x (List.mem_of_getElem? hx)
  rw [sb_take] at hrow
  have hlen : ((sb s).take m).length = m := by rw [List.length_take, sb_length]; omega
  have hi : (b8 ((sb s).take m) ++ zs)[m - 1]? = some (.int .u8 (x : Int)) := by
    rw [List.getElem?_append_left (by rw [b8_length]; omega), b8_get, List.getElem?_take, if_pos (by omega), hx]
    rfl
  refine ⟨x, (hrow.cell _).trans hi, hrow.frozen (by simp [b8_length, sb_length]; omega), by omega, ?_, ?_, aft_by (sb_by s) (by omega)⟩
  · have h2 := hrow.set_ (m - 1) (.int .u8 ((x : Int) + 1))
    have e1 : (b8 ((sb s).take m) ++ zs).set (m - 1) (.int .u8 ((x : Int) + 1)) = b8 (aft (sb s)) ++ zs := by
      rw [List.set_append_left _ _ (by rw [b8_length]; omega)]
      congr 1
      have e2 : ((x : Int) + 1) = ((x + 1 : Nat) : Int) := by omega
      rw [e2, b8_set', set_last (sb s) m (x + 1) hm (by rw [sb_length]; exact hl)]
      unfold aft
      rw [HM, List.getD_eq_getElem?_getD, hx]
      rfl
    rw [e1] at h2
    exact h2
  · unfold aft
    rw [HM]
    simp [sb_length]
    omega

theorem ext_all (s : ByteArray) : s.extract 0 s.size = s := sb_inj (by rw [sb_take, List.take_of_length_le (by rw [sb_length]; omega)])
theorem row_ext {s : ByteArray} {w : World} {g : Nat} {e : TypeId} {zs : List Value} (h : Row w g e (b8 (sb s) ++ zs)) : Row w g e (b8 (sb (s.extract 0 s.size)) ++ zs) := by
  rw [ext_all]; exact h
theorem iter_ge (w : World) (s : ByteArray) (p : Nat) : w.heap.size ≤ (w.iter s p).heap.size := by simp [World.iter]

theorem aft_pre {w : World} {g : Nat} {e : TypeId} {bs : List Nat} {zs : List Value} (h : Row w g e (b8 bs ++ zs)) : Rd w (some ⟨g, 0, none⟩) (b8 bs) := by
  have := h.rd.take_ (b8 bs).length
  rw [List.take_left' rfl] at this
  exact this

theorem wide_step {p d : Nat} {R : Prop} (h : d = 1 ∨ R) : p + d = p + 1 ∨ R := by
  rcases h with h | h
  · exact .inl (by omega)
  · exact .inr h

set_option maxHeartbeats 800000 in
set_option maxRecDepth 100000 in
theorem after_any (s : ByteArray) (w : World) (ls : s.size ≤ 140737488351232) :
    Calls Try.prog 30 #[.string s] w fun e w' => AftPost w s e w' := by
  go_enter Try.func30, Try.ntmps30
  go_wp2
  go_loopw [4] (fun v wr => ∃ p q : Nat, p ≤ s.size ∧ q ≤ p ∧ wr = w.iter s p ∧ v = .int .i64 ((lst ((sb s).take q) : Int) - 1) ∧ Hid ((p = 0 ∧ q = 0) ∨ (q < p ∧ (p = q + 1 ∨ ∃ x, (sb s)[p - 1]? = some x ∧ x ≠ 255)))) (fun _ wr => s.size - wr.iterPos w.heap.size)
  case atStart => exact ⟨0, 0, Nat.zero_le _, Nat.le_refl _, rfl, by simp [lst], .inl ⟨rfl, rfl⟩⟩
  case round =>
    obtain ⟨p, q, hp, hq, rfl, rfl, H⟩ := hrel
    by_cases hlt : p < s.size
    · have hnext := fun ty => run_next_any (P := Try.prog) w s p ty hlt
      obtain ⟨d1, d2, d3⟩ := decode_wide s p hlt
      obtain ⟨d, hd⟩ : ∃ d, d = (Utf8.decode s p).2 := ⟨_, rfl⟩
      rw [← hd] at d1 d2 d3
      obtain ⟨r, hr⟩ : ∃ r, r = (Utf8.decode s p).1 := ⟨_, rfl⟩
      simp only [← hd, ← hr] at hnext
      clear hd hr
      have D3 := Lib.hid d3
      clear d3
      by_cases h0 : p = 0
      · subst h0
        have hq0 : q = 0 := by omega
        subst hq0
        go_wp2
        go_roundw
        case rel => exact ⟨0 + d, 0, by omega, by omega, by simp, rfl, .inr ⟨by omega, wide_step D3.out⟩⟩
        case measure => simp; omega
      · have hpos : 0 < p := by omega
        have hp1 : p - 1 < s.size := by omega
        have hget := sb_get s (p - 1) hp1
        have i0 : (0 : Int) ≤ (p : Int) - 1 := by omega
        have i1 : (p : Int) - 1 < (s.size : Int) := by omega
        have hlst := lst_take_succ (sb s) (p - 1) _ hget
        rw [show p - 1 + 1 = p from by omega] at hlst
        by_cases hx : (s[p - 1]'hp1).toNat = 255
        · rw [if_pos hx] at hlst
          have hb : ((((s[p - 1]'hp1).toNat : Nat) : Int) != 255) = false := by rw [bne_eq_false_iff_eq]; omega
          have hq1 : p - 1 = q := by
            rcases H.out with ⟨h, _⟩ | ⟨_, h | ⟨x, h, hne⟩⟩
            · omega
            · omega
            · rw [hget] at h
              injection h with h
              omega
          rw [hq1] at hlst
          have HL := Lib.hid hlst
          clear hlst hget hx hq1
          go_wp2
          go_roundw
          case rel => exact ⟨p + d, p, by omega, by omega, rfl, by rw [HL.out], .inr ⟨by omega, wide_step D3.out⟩⟩
          case measure => simp; omega
        · rw [if_neg hx] at hlst
          have hb : ((((s[p - 1]'hp1).toNat : Nat) : Int) != 255) = true := by rw [bne_iff_ne]; omega
          have HL := Lib.hid hlst
          clear hlst hget hx
          go_wp2
          go_roundw
          case rel => exact ⟨p + d, p, by omega, by omega, rfl, by rw [HL.out], .inr ⟨by omega, wide_step D3.out⟩⟩
          case measure => simp; omega
    · have hps : p = s.size := by omega
      have hend := fun ty => run_next_end (P := Try.prog) w s p ty hlt
      have HP := Lib.hid hps
      have hall : lst (sb s) = lst ((sb s).take p) := by rw [List.take_of_length_le (by rw [sb_length]; omega)]
      by_cases h0 : p = 0
      · have hz : lst ((sb s).take q) = 0 := by rw [show q = 0 from by omega]; simp [lst]
        have hL : lst (sb s) = 0 := by rw [hall, h0]; simp [lst]
        have hs0 : s.size = 0 := by omega
        have HL := Lib.hid hL
        have hneg : ((lst ((sb s).take q) : Nat) : Int) - 1 < 0 := by omega
        have hn0 : ¬ (0 : Int) < (s.size : Int) := by omega
        clear hps hall hL hz hs0 h0
        go_wp2
        go_ret2
        refine ⟨?_, (Below.refl _ _).alloc (Nat.le_refl _) _⟩
        unfold aftS aftOk
        rw [HL.out]
        rfl
      · have hp1 : s.size - 1 < s.size := by omega
        have hget := sb_get s (s.size - 1) hp1
        have i0 : (0 : Int) ≤ (s.size : Int) - 1 := by omega
        have i1 : (s.size : Int) - 1 < (s.size : Int) := by omega
        have hn0 : (0 : Int) < (s.size : Int) := by omega
        have hlst := lst_take_succ (sb s) (s.size - 1) _ hget
        rw [show s.size - 1 + 1 = p from by omega, ← hall] at hlst
        by_cases hx : (s[s.size - 1]'hp1).toNat = 255
        · rw [if_pos hx] at hlst
          have hb : ((((s[s.size - 1]'hp1).toNat : Nat) : Int) != 255) = false := by rw [bne_eq_false_iff_eq]; omega
          have hq1 : s.size - 1 = q := by
            rcases H.out with ⟨h, _⟩ | ⟨_, h | ⟨x, h, hne⟩⟩
            · omega
            · omega
            · rw [show p - 1 = s.size - 1 from by omega, hget] at h
              injection h with h
              omega
          rw [hq1] at hlst
          obtain ⟨m, hm⟩ : ∃ m, m = lst ((sb s).take q) := ⟨_, rfl⟩
          rw [← hm] at hlst ⊢
          have hml : m ≤ s.size := by
            have := lst_le ((sb s).take q)
            rw [← hm] at this
            simp only [List.length_take, sb_length] at this
            omega
          have HM := Lib.hid hlst
          clear hlst hget hx hq1 hm hall hps
          by_cases hm0 : m = 0
          · subst hm0
            go_wp2
            go_ret2
            refine ⟨?_, (Below.refl _ _).alloc (Nat.le_refl _) _⟩
            unfold aftS aftOk
            rw [HM.out]
            rfl
          · have hm1 : 0 < m := by omega
            go_wp2_with (first
              | (refine wpList_bytes _ rfl (.tmp 42) 9 22 5 rfl Try.underlying9 Try.underlying22 Try.underlying5 (s.extract 0 m) rfl ?_; intro c w1 zs hrow hcm hbel hzl; obtain ⟨b, hc1, hf1, hb255, hrow2, hlen, hby⟩ := aft_row hrow HM.out (by omega) (by omega); clear hrow hzl; have hbb : (b : Int) < 255 := (by omega); have hmc : ((m : Nat) : Int) - 1 < ((s.extract 0 m).size : Int) := (by first | rfl | omega | (simp <;> omega)); have HR := Lib.hid hrow2; have HLEN := Lib.hid hlen; clear hrow2 hlen)
              | (refine wpList_str _ rfl (.tmp 50) 22 9 5 rfl Try.underlying22 Try.underlying5 Try.underlying9 (some ⟨_, 0, none⟩) _ c (aft (sb s)) rfl (aft_pre HR.out) (HLEN.out.trans (by first | rfl | omega | (simp <;> omega))) hby ?_))
            go_ret2
            refine ⟨?_, ((((Below.refl _ _).alloc (Nat.le_refl _) _).trans (hbel.mono (iter_ge _ _ _))).setCell (iter_ge _ _ _) _)⟩
            rw [aftS_yes HM.out (by omega), aftOk_yes HM.out (by omega)]
            rfl
        · rw [if_neg hx] at hlst
          have hb : ((((s[s.size - 1]'hp1).toNat : Nat) : Int) != 255) = true := by rw [bne_iff_ne]; omega
          rw [hps] at hlst
          have HM := Lib.hid hlst
          have hspos : 0 < s.size := by omega
          clear hlst hget hx hall hps
          go_wp2_with (first
            | (refine wpList_bytes _ rfl (.tmp 42) 9 22 5 rfl Try.underlying9 Try.underlying22 Try.underlying5 s rfl ?_; intro c w1 zs hrow0 hcm hbel hzl; have hrow := row_ext hrow0; clear hrow0; obtain ⟨b, hc1, hf1, hb255, hrow2, hlen, hby⟩ := aft_row hrow HM.out (by omega) (by omega); clear hrow hzl; have hbb : (b : Int) < 255 := (by omega); have hmc : ((s.size : Nat) : Int) - 1 < (s.size : Int) := (by first | rfl | omega | (simp <;> omega)); have HR := Lib.hid hrow2; have HLEN := Lib.hid hlen; clear hrow2 hlen)
            | (refine wpList_str _ rfl (.tmp 50) 22 9 5 rfl Try.underlying22 Try.underlying5 Try.underlying9 (some ⟨_, 0, none⟩) _ c (aft (sb s)) rfl (aft_pre HR.out) (HLEN.out.trans (by first | rfl | omega | (simp <;> omega))) hby ?_))
          go_ret2
          refine ⟨?_, ((((Below.refl _ _).alloc (Nat.le_refl _) _).trans (hbel.mono (iter_ge _ _ _))).setCell (iter_ge _ _ _) _)⟩
          rw [aftS_yes HM.out (by omega), aftOk_yes HM.out (by omega)]
          rfl
end Go.Proofs.Ytfgjlplfpjfnoaa
