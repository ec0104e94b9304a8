/- The reference's of, twice, Join: what they return. -/
import Derived.Test.YtfgjlplfpjfnoaaMat
import Derived.Test.YtfgjlplfpjfnoaaRefSums
namespace Go.Proofs.Ytfgjlplfpjfnoaa
open Go Go.RowKit
set_option linter.unusedVariables false

theorem shr_half (X i : Nat) : X / 2 ^ i / 2 = X / 2 ^ (i + 1) := by rw [Nat.div_div_eq_div_mul, Nat.pow_succ]

set_option maxHeartbeats 800000 in
set_option maxRecDepth 100000 in
theorem rof_any (K X z : Nat) (w : World) (hX : X < 4294967296) (hz : z = Crc.Mi K X) :
    Calls Try.prog 87 #[.agg (matv K).toArray, .int .u32 (X : Int)] w fun e w' => e = .returned (.int .u32 (z : Int)) ∧ Below w.heap.size w w' := by
  have HZ := Lib.hid hz
  clear hz
  go_enter Try.func87, Try.ntmps87
  go_wp2_with fail
  have hm : Mat (w.alloc (.cells (matv K).toArray 102)) w.heap.size 102 K := heap_alloc_new w _
  have hb0 : Below w.heap.size w (w.alloc (.cells (matv K).toArray 102)) := (Below.refl _ _).alloc (Nat.le_refl _) _
  obtain ⟨W, hW⟩ : ∃ W, W = w.alloc (.cells (matv K).toArray 102) := ⟨_, rfl⟩
  rw [← hW] at hm hb0 ⊢
  clear hW
  go_loop [5, 6] (fun vy vi => ∃ i y : Nat, i ≤ 32 ∧ vi = .int .i64 (i : Int) ∧ vy = .int .u32 (y : Int) ∧ y < 4294967296 ∧ Hid (z = y ^^^ Crc.Mi K (2 ^ i * (X / 2 ^ i)))) (fun _ vi => 32 - (intOf vi).toNat)
  case atStart => exact ⟨0, 0, by omega, rfl, rfl, by omega, by rw [HZ.out]; simp [Hid]⟩
  case round =>
    obtain ⟨i, y, hi, rfl, rfl, hy, H⟩ := hrel
    by_cases hlt : i < 32
    · have hS := Mi_step K i (X / 2 ^ i)
      rw [shr_half] at hS
      obtain ⟨x, hx⟩ : ∃ x, x = X / 2 ^ i := ⟨_, rfl⟩
      have hshr : (X : Int) / 2 ^ i = (x : Int) := by rw [hx]; simp
      have i0 : (0 : Int) ≤ (i : Int) := by omega
      have i1 : (i : Int) < 32 := by omega
      have hc := hm.cell hlt
      obtain ⟨t, ht⟩ : ∃ t, t = Crc.Mi K (2 ^ i) := ⟨_, rfl⟩
      have ht32 : t < 4294967296 := by rw [ht]; exact Crc.Mi_lt K (pow_lt_32 hlt)
      rw [← ht] at hc hS
      rw [← hx] at hS
      have HX := Lib.hid hx
      by_cases ho : x % 2 = 1
      · have hb2 : ((x : Int) % 2 == 1) = true := by rw [beq_iff_eq]; omega
        rw [if_pos ho] at hS
        obtain ⟨y1, hy1⟩ : ∃ y1, y1 = y ^^^ t := ⟨_, rfl⟩
        have hxy : bits .xor .u32 (y : Int) (t : Int) = (y1 : Int) := by rw [hy1]; exact u32_xor_nat y t hy ht32
        have hz32 : y1 < 4294967296 := by rw [hy1]; exact Crc.xor_lt (n := 32) hy ht32
        have hF : z = y1 ^^^ Crc.Mi K (2 ^ (i + 1) * (X / 2 ^ (i + 1))) := by rw [H.out, ← hx, hS, hy1, Nat.xor_assoc]
        have HF := Lib.hid hF
        clear hF hS H ho ht hy1 hx
        go_wp2_with fail
        go_round
        case rel => exact ⟨i + 1, y1, by omega, by go_num, rfl, hz32, HF⟩
        case measure => simp [intOf]; omega
      · have hb2 : ((x : Int) % 2 == 1) = false := by rw [beq_eq_false_iff_ne]; omega
        rw [if_neg ho, Nat.zero_xor] at hS
        have hF : z = y ^^^ Crc.Mi K (2 ^ (i + 1) * (X / 2 ^ (i + 1))) := by rw [H.out, ← hx, hS]
        have HF := Lib.hid hF
        clear hF hS H ho ht hx
        go_wp2_with fail
        go_round
        case rel => exact ⟨i + 1, y, by omega, by go_num, rfl, hy, HF⟩
        case measure => simp [intOf]; omega
    · have hi32 : i = 32 := by omega
      subst hi32
      have hF : z = y := by
        rw [H.out, show X / 2 ^ 32 = 0 from Nat.div_eq_of_lt hX, Nat.mul_zero, Crc.Mi_zero, Nat.xor_zero]
      have HF := Lib.hid hF
      clear hF H
      go_wp2_with fail
      go_ret
      exact ⟨ret_i (by rw [HF.out]), hb0⟩
end Go.Proofs.Ytfgjlplfpjfnoaa
