/- octet.ReadUvarint and the reference's: what they return. -/
import Derived.Test.YtmdpncjffikmiaaChecked
import Derived.Test.YtmdpncjffikmiaaMem
import Derived.Test.YtmdpncjffikmiaaUv
namespace Go.Proofs.Ytmdpncjffikmiaa
open Go Go.RowKit

theorem shl_or (a x k : Nat) (ha : a < 128 ^ k) (hx : x < 256) (hk : k ≤ 9) (h9 : k = 9 → x = 1) :
    bits .or .u64 (a : Int) (IntKind.u64.wrap (IntKind.u64.wrap (bits .and .u8 (x : Int) 127) * 2 ^ (7 * k))) = ((a + x % 128 * 128 ^ k : Nat) : Int) := by
  have p : (128 : Nat) ^ k = 2 ^ (7 * k) := by rw [Nat.pow_mul]
  have e1 : bits .and .u8 (x : Int) 127 = ((x % 128 : Nat) : Int) := by
    have := u8_and_nat x 127 hx (by omega)
    rw [nat_mask7] at this
    exact_mod_cast this
  have p9 : (2 : Nat) ^ (7 * 9) = 9223372036854775808 := by decide
  have hp : (2 : Nat) ^ (7 * k) ≤ 9223372036854775808 := by rw [← p9]; exact Nat.pow_le_pow_right (by omega) (by omega)
  have hm : x % 128 * 2 ^ (7 * k) < 18446744073709551616 := by
    by_cases h : k = 9
    · rw [h9 h, h, p9]; omega
    · have p8 : (2 : Nat) ^ (7 * 8) = 72057594037927936 := by decide
      have hp : (2 : Nat) ^ (7 * k) ≤ 72057594037927936 := by rw [← p8]; exact Nat.pow_le_pow_right (by omega) (by omega)
      have := Nat.mul_le_mul (show x % 128 ≤ 127 by omega) hp
      omega
  have ha' : a < 9223372036854775808 := by rw [p] at ha; omega
  rw [e1, IntWalk.u64_in ((x % 128 : Nat) : Int) (by omega)]
  have e2 : ((x % 128 : Nat) : Int) * 2 ^ (7 * k) = ((x % 128 * 2 ^ (7 * k) : Nat) : Int) := by
    rw [Int.natCast_mul, Int.natCast_pow]; rfl
  rw [e2, IntWalk.u64_in _ (by omega), u64_or_nat _ _ (by omega) hm, p, Nat.or_comm]
  rw [nat_join (7 * k) (x % 128 * 2 ^ (7 * k)) a (Nat.mul_mod_left _ _) (by rw [← p]; exact ha), Nat.add_comm]

set_option maxHeartbeats 400000 in
set_option maxRecDepth 100000 in
theorem readUvarint_all (A : Option Addr) (c : Nat) (bs : List Nat) (w : World) (hr : Rd w A (b8 bs)) (hby : By bs) (hl : bs.length ≤ 140737488355328) :
    Calls Try.prog 74 #[.slice A bs.length c] w fun e w' =>
      e = .returned (.tuple #[.int .u64 ((Uv.ru 0 0 bs).1 : Int), .int .i64 ((Uv.ru 0 0 bs).2.1 : Int), .int .i64 ((Uv.ru 0 0 bs).2.2 : Int)]) ∧ w = w' := by
  go_enter Try.func74, Try.ntmps74
  go_wp2
  go_loop [5, 10] (fun v i => ∃ k a : Nat, k ≤ bs.length ∧ k ≤ 9 ∧ Hid (a < 128 ^ k) ∧ i = .int .i64 k ∧ v = .int .u64 (a : Int) ∧ Hid (Uv.ru 0 0 bs = Uv.ru k a (bs.drop k))) (fun _ i => bs.length - (intOf i).toNat)
  case atStart => exact ⟨0, 0, Nat.zero_le _, by omega, by simp [Hid], rfl, rfl, by simp [Hid]⟩
  case round =>
    obtain ⟨k, a, hk, hk9, HA, rfl, rfl, H⟩ := hrel
    by_cases hlt : k < bs.length
    · obtain ⟨x, hx, hx256, hdr⟩ := hby.get hlt
      obtain ⟨g, off, rfl, hg, hcell⟩ := hr.at_ hx
      clear hr hx
      have HR : Hid (Uv.ru 0 0 bs = Uv.ru k a (x :: bs.drop (k + 1))) := by rw [← hdr]; exact H
      clear hdr H
      by_cases h9 : k = 9
      · have h9' : ((k : Int) == 9) = true := by rw [beq_iff_eq]; omega
        by_cases h1 : x = 1
        · have hb : ((x : Int) != 1) = false := by rw [bne_eq_false_iff_eq]; omega
          have hz : ((x : Int) == 0) = false := by rw [beq_eq_false_iff_ne]; omega
          have hF : Uv.ru 0 0 bs = (a + x % 128 * 128 ^ k, k + 1, 0) := by
            rw [HR.out]; simp only [Uv.ru]; rw [if_neg (by omega), if_neg (by omega), if_pos (by omega)]
          have HF := Lib.hid hF
          have HS := Lib.hid (shl_or a x k HA.out (by omega) (by omega) (by omega))
          have H9 := Lib.hid h9
          have H1 := Lib.hid h1
          have h0 : 0 < k := by omega
          have hx1 : x < 128 := by omega
          clear hF h9 h1
          go_wp2
          go_ret3
          exact ⟨by rw [HF.out, ← HS.out]; rfl, rfl⟩
        · have hb : ((x : Int) != 1) = true := by rw [bne_iff_ne]; omega
          have hF : Uv.ru 0 0 bs = (0, 0, 11) := by
            rw [HR.out]; simp only [Uv.ru]; rw [if_pos ⟨h9, h1⟩]
          have HF := Lib.hid hF
          have H9 := Lib.hid h9
          clear hF h9 h1
          go_wp2
          go_ret3
          exact ⟨by rw [HF.out]; rfl, rfl⟩
      · have HS := Lib.hid (shl_or a x k HA.out hx256 hk9 (fun h => absurd h h9))
        have h9' : ((k : Int) == 9) = false := by rw [beq_eq_false_iff_ne]; omega
        by_cases hz : 0 < k ∧ x = 0
        · obtain ⟨hz0, hxz⟩ := hz
          have hb : ((x : Int) == 0) = true := by rw [beq_iff_eq]; omega
          have hF : Uv.ru 0 0 bs = (0, 0, 11) := by
            rw [HR.out]; simp only [Uv.ru]; rw [if_neg (by omega), if_pos ⟨hz0, hxz⟩]
          have HF := Lib.hid hF
          clear hF hxz
          go_wp2
          go_ret3
          exact ⟨by rw [HF.out]; rfl, rfl⟩
        · have hz' : 0 < k → ((x : Int) == 0) = false := fun h => by rw [beq_eq_false_iff_ne]; omega
          by_cases hs : x < 128
          · have hF : Uv.ru 0 0 bs = (a + x % 128 * 128 ^ k, k + 1, 0) := by
              rw [HR.out]; simp only [Uv.ru]; rw [if_neg (fun h => h9 h.1), if_neg hz, if_pos hs]
            have HF := Lib.hid hF
            clear hF
            by_cases h0 : 0 < k
            all_goals
              first | have hz1 := hz' h0 | skip
              clear hz hz'
              go_wp2
              go_ret3
              exact ⟨by rw [HF.out, ← HS.out]; rfl, rfl⟩
          · have hF : Uv.ru 0 0 bs = Uv.ru (k + 1) (a + x % 128 * 128 ^ k) (bs.drop (k + 1)) := by
              rw [HR.out]; simp only [Uv.ru]; rw [if_neg (fun h => h9 h.1), if_neg hz, if_neg hs]
            have HF := Lib.hid hF
            clear hF
            have hB : a + x % 128 * 128 ^ k < 128 ^ (k + 1) := by
              have := HA.out
              have hq : (128 : Nat) ^ (k + 1) = 128 ^ k * 128 := Nat.pow_succ ..
              have hx : x % 128 * 128 ^ k ≤ 127 * 128 ^ k := Nat.mul_le_mul_right _ (by omega)
              omega
            have HB := Lib.hid hB
            clear hB
            by_cases h0 : 0 < k
            all_goals
              first | have hz1 := hz' h0 | skip
              clear hz hz'
              go_wp2
              go_round
              case rel => exact ⟨k + 1, _, by omega, by omega, HB, by go_num, by rw [← HS.out], HF⟩
              case measure => simp [intOf]; omega
    · have hF : Uv.ru 0 0 bs = (0, 0, 10) := by rw [H.out, List.drop_eq_nil_of_le (by omega)]; rfl
      have HF := Lib.hid hF
      clear hF
      go_wp2
      go_ret3
      exact ⟨by rw [HF.out]; rfl, rfl⟩

theorem readUvarint_any (A : Option Addr) (n c : Nat) (bs : List Nat) (w : World) (hr : Rd w A (b8 bs)) (hby : By bs) (hn : bs.length = n) (hl : n ≤ 140737488355328) :
    Calls Try.prog 74 #[.slice A n c] w fun e w' =>
      e = .returned (.tuple #[.int .u64 ((Uv.ru 0 0 bs).1 : Int), .int .i64 ((Uv.ru 0 0 bs).2.1 : Int), .int .i64 ((Uv.ru 0 0 bs).2.2 : Int)]) ∧ w = w' := by
  subst hn
  exact readUvarint_all A c bs w hr hby hl

/-- With what it comes to, told apart. -/
theorem readUvarint_is (A : Option Addr) (n c : Nat) (bs : List Nat) (w : World) (v k x : Nat) (hr : Rd w A (b8 bs)) (hby : By bs) (hn : bs.length = n) (hl : n ≤ 140737488355328) (h : Uv.ru 0 0 bs = (v, k, x)) :
    Calls Try.prog 74 #[.slice A n c] w fun e w' =>
      e = .returned (.tuple #[.int .u64 (v : Int), .int .i64 (k : Int), .int .i64 (x : Int)]) ∧ w = w' := by
  have := readUvarint_any A n c bs w hr hby hn hl
  rw [h] at this
  exact this
end Go.Proofs.Ytmdpncjffikmiaa
