/- chronicleref1.ReadUvarint, the reference's reading of a short number; zigzag, four times. -/
import Derived.Test.YtfgjlplfpjfnoaaApp8
import Derived.Test.YtfgjlplfpjfnoaaUv
namespace Go.Proofs.Ytfgjlplfpjfnoaa
open Go Go.RowKit

set_option maxHeartbeats 400000 in
set_option maxRecDepth 100000 in
theorem rreadUvarint_all (A : Option Addr) (c : Nat) (bs : List Nat) (w : World) (hr : Rd w A (b8 bs)) (hby : By bs) (hl : bs.length ≤ 140737488355328) :
    Calls Try.prog 24 #[.slice A bs.length c] w fun e w' =>
      e = .returned (.tuple #[.int .u64 ((Uv.ru 0 0 bs).1 : Int), .int .i64 ((Uv.ru 0 0 bs).2.1 : Int), .int .i64 ((Uv.ru 0 0 bs).2.2 : Int)]) ∧ w = w' := by
  go_enter Try.func24, Try.ntmps24
  go_wp2
  go_loop [5, 6, 7] (fun v t i => ∃ k a u : Nat, k ≤ bs.length ∧ k ≤ 9 ∧ Hid (a < 128 ^ k) ∧ Hid (u = 128 ^ k) ∧ i = .int .i64 k ∧ t = .int .u64 (u : Int) ∧ v = .int .u64 (a : Int) ∧ Hid (Uv.ru 0 0 bs = Uv.ru k a (bs.drop k))) (fun _ _ i => bs.length - (intOf i).toNat)
  case atStart => exact ⟨0, 0, 1, Nat.zero_le _, by omega, by simp [Hid], by simp [Hid], rfl, rfl, rfl, by simp [Hid]⟩
  case round =>
    obtain ⟨k, a, u, hk, hk9, HA, HU, rfl, rfl, rfl, H⟩ := hrel
    by_cases hlt : k < bs.length
    · obtain ⟨x, hx, hx256, hdr⟩ := hby.get hlt
      obtain ⟨g, off, rfl, hg, hcell⟩ := hr.at_ hx
      clear hr hx
      have HR : Hid (Uv.ru 0 0 bs = Uv.ru k a (x :: bs.drop (k + 1))) := by rw [← hdr]; exact H
      clear hdr H
      by_cases h9 : k = 9
      · have h9' : ((k : Int) == 9) = true := by rw [beq_iff_eq]; omega
        have h0 : 0 < k := by omega
        by_cases h1 : x = 1
        · have p9 : (128 : Nat) ^ 9 = 9223372036854775808 := by decide
          have hu := HU.out
          have ha := HA.out
          rw [h9, p9] at hu ha
          have hb : ¬ (1 : Int) < (x : Int) := by omega
          have hz : ((x : Int) == 0) = false := by rw [beq_eq_false_iff_ne]; omega
          have hF : Uv.ru 0 0 bs = (a + x % 128 * 128 ^ k, k + 1, 0) := by
            rw [HR.out]; simp only [Uv.ru]; rw [if_neg (by omega), if_neg (by omega), if_pos (by omega)]
          have hm : x % 128 * u = 9223372036854775808 := by rw [h1, hu]
          have hm1 : (x : Int) % 128 * (u : Int) ≤ 9223372036854775808 := by
            have : ((x % 128 * u : Nat) : Int) = (x : Int) % 128 * (u : Int) := by simp
            omega
          have hm0 : 0 ≤ (x : Int) % 128 * (u : Int) := by
            have : ((x % 128 * u : Nat) : Int) = (x : Int) % 128 * (u : Int) := by simp
            omega
          have ha' : a < 9223372036854775808 := ha
          have HF := Lib.hid hF
          have H9 := Lib.hid h9
          have H1 := Lib.hid h1
          have hx1 : x < 128 := by omega
          clear hF h9 h1 hu ha p9 hm
          go_wp2
          go_ret3
          exact ⟨by rw [HF.out, ← HU.out]; simp, rfl⟩
        · by_cases hxz : x = 0
          · have hb : ¬ (1 : Int) < (x : Int) := by omega
            have hb2 : ((x : Int) == 0) = true := by rw [beq_iff_eq]; omega
            have hF : Uv.ru 0 0 bs = (0, 0, 11) := by
              rw [HR.out]; simp only [Uv.ru]; rw [if_pos ⟨h9, h1⟩]
            have HF := Lib.hid hF
            have H9 := Lib.hid h9
            clear hF h9 h1 hxz
            go_wp2
            go_ret3
            exact ⟨by rw [HF.out]; rfl, rfl⟩
          · have hb : (1 : Int) < (x : Int) := by omega
            have hF : Uv.ru 0 0 bs = (0, 0, 11) := by
              rw [HR.out]; simp only [Uv.ru]; rw [if_pos ⟨h9, h1⟩]
            have HF := Lib.hid hF
            have H9 := Lib.hid h9
            clear hF h9 h1
            go_wp2
            go_ret3
            exact ⟨by rw [HF.out]; rfl, rfl⟩
      · have h9' : ((k : Int) == 9) = false := by rw [beq_eq_false_iff_ne]; omega
        have p8 : (128 : Nat) ^ 8 = 72057594037927936 := by decide
        have hp : (128 : Nat) ^ k ≤ 72057594037927936 := by rw [← p8]; exact Nat.pow_le_pow_right (by omega) (by omega)
        have hu1 : u ≤ 72057594037927936 := by rw [HU.out]; exact hp
        have ha1 : a < 72057594037927936 := Nat.lt_of_lt_of_le HA.out hp
        have hm := Nat.mul_le_mul (show x % 128 ≤ 127 by omega) hu1
        have hm1 : (x : Int) % 128 * (u : Int) ≤ 127 * 72057594037927936 := by
          have : ((x % 128 * u : Nat) : Int) = (x : Int) % 128 * (u : Int) := by simp
          omega
        have hm0 : 0 ≤ (x : Int) % 128 * (u : Int) := by
          have : ((x % 128 * u : Nat) : Int) = (x : Int) % 128 * (u : Int) := by simp
          omega
        clear hm hp p8
        by_cases hz : 0 < k ∧ x = 0
        · obtain ⟨hz0, hxz⟩ := hz
          have hb : ((x : Int) == 0) = true := by rw [beq_iff_eq]; omega
          have hF : Uv.ru 0 0 bs = (0, 0, 11) := by
            rw [HR.out]; simp only [Uv.ru]; rw [if_neg (by omega), if_pos ⟨hz0, hxz⟩]
          have HF := Lib.hid hF
          clear hF hxz
          go_wp2
          go_ret3
          exact ⟨by rw [HF.out]; rfl, rfl⟩
        · have hz' : 0 < k → ((x : Int) == 0) = false := fun h => by rw [beq_eq_false_iff_ne]; omega
          by_cases hs : x < 128
          · have hF : Uv.ru 0 0 bs = (a + x % 128 * 128 ^ k, k + 1, 0) := by
              rw [HR.out]; simp only [Uv.ru]; rw [if_neg (fun h => h9 h.1), if_neg hz, if_pos hs]
            have HF := Lib.hid hF
            clear hF
            by_cases h0 : 0 < k
            all_goals
              first | have hz1 := hz' h0 | skip
              clear hz hz'
              go_wp2
              go_ret3
              exact ⟨by rw [HF.out, ← HU.out]; simp, rfl⟩
          · have hF : Uv.ru 0 0 bs = Uv.ru (k + 1) (a + x % 128 * 128 ^ k) (bs.drop (k + 1)) := by
              rw [HR.out]; simp only [Uv.ru]; rw [if_neg (fun h => h9 h.1), if_neg hz, if_neg hs]
            have HF := Lib.hid hF
            clear hF
            have hB : a + x % 128 * 128 ^ k < 128 ^ (k + 1) := by
              have := HA.out
              have hq : (128 : Nat) ^ (k + 1) = 128 ^ k * 128 := Nat.pow_succ ..
              have hx : x % 128 * 128 ^ k ≤ 127 * 128 ^ k := Nat.mul_le_mul_right _ (by omega)
              omega
            have HB := Lib.hid hB
            have hV : u * 128 = 128 ^ (k + 1) := by rw [HU.out, Nat.pow_succ]
            have HV := Lib.hid hV
            clear hB hV
            by_cases h0 : 0 < k
            all_goals
              first | have hz1 := hz' h0 | skip
              clear hz hz'
              go_wp2
              go_round
              case rel => exact ⟨k + 1, _, _, by omega, by omega, HB, HV, by go_num, by go_num, by rw [← HU.out]; simp, HF⟩
              case measure => simp [intOf]; omega
    · have hF : Uv.ru 0 0 bs = (0, 0, 10) := by rw [H.out, List.drop_eq_nil_of_le (by omega)]; rfl
      have HF := Lib.hid hF
      clear hF
      go_wp2
      go_ret3
      exact ⟨by rw [HF.out]; rfl, rfl⟩

theorem rreadUvarint_is (A : Option Addr) (n c : Nat) (bs : List Nat) (w : World) (v k x : Nat) (hr : Rd w A (b8 bs)) (hby : By bs) (hn : bs.length = n) (hl : n ≤ 140737488355328) (h : Uv.ru 0 0 bs = (v, k, x)) :
    Calls Try.prog 24 #[.slice A n c] w fun e w' =>
      e = .returned (.tuple #[.int .u64 (v : Int), .int .i64 (k : Int), .int .i64 (x : Int)]) ∧ w = w' := by
  subst hn
  have := rreadUvarint_all A c bs w hr hby hl
  rw [h] at this
  exact this
end Go.Proofs.Ytfgjlplfpjfnoaa
