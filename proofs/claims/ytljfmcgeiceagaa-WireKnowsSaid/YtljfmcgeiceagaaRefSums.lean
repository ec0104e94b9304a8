/- The reference's M, through, Extend, Sum, back: what they return. -/
import Derived.Test.YtljfmcgeiceagaaSums
namespace Go.Proofs.Ytljfmcgeiceagaa
open Go Go.RowKit
set_option linter.unusedVariables false

theorem rM_any (x : Nat) (w : World) (h : x < 4294967296) :
    Calls Try.prog 89 #[.int .u32 (x : Int)] w fun e w' => e = .returned (.int .u32 ((Crc.M x : Nat) : Int)) ∧ w = w' := by
  by_cases hx : x % 2 = 1
  · have hb : ((x : Int) % 2 == 1) = true := by rw [beq_iff_eq]; omega
    have HM := Lib.hid (M_odd hx)
    clear hx
    go_enter Try.func89, Try.ntmps89
    go_wp2
    go_ret
    exact ⟨ret_i (by rw [HM.out]; exact xor_poly x h), rfl⟩
  · have hb : ((x : Int) % 2 == 1) = false := by rw [beq_eq_false_iff_ne]; omega
    have HM := Lib.hid (M_even hx)
    clear hx
    go_enter Try.func89, Try.ntmps89
    go_wp2
    go_ret
    exact ⟨ret_i (by rw [HM.out]; omega), rfl⟩

set_option maxHeartbeats 800000 in
set_option maxRecDepth 100000 in
theorem rthrough_any (x c : Nat) (w : World) (h : x < 4294967296) (hc : c < 256) :
    Calls Try.prog 78 #[.int .u32 (x : Int), .int .u8 (c : Int)] w fun e w' => e = .returned (.int .u32 ((Crc.Mi 8 (x ^^^ c) : Nat) : Int)) ∧ w = w' := by
  obtain ⟨y, hy⟩ : ∃ y, y = x ^^^ c := ⟨_, rfl⟩
  have hyx : bits .xor .u32 (x : Int) (c : Int) = (y : Int) := by rw [hy]; exact u32_xor_nat x c h (by omega)
  have hy32 : y < 4294967296 := by rw [hy]; exact Crc.xor_lt (n := 32) h (by omega)
  rw [← hy]
  clear hy
  go_enter Try.func78, Try.ntmps78
  go_wp2_with fail
  go_loop [0, 5] (fun x i => ∃ j z : Nat, j ≤ 8 ∧ i = .int .i64 j ∧ x = .int .u32 (z : Int) ∧ z < 4294967296 ∧ Hid (z = Crc.Mi j y)) (fun _ i => 8 - (intOf i).toNat)
  case atStart => exact ⟨0, y, by omega, rfl, by first | rfl | rw [hyx], hy32, by rw [Hid, Crc.Mi_none]⟩
  case round =>
    obtain ⟨j, z, hj, rfl, rfl, hz, HZ⟩ := hrel
    by_cases hj8 : j < 8
    · have hnext : Crc.M z = Crc.Mi (j + 1) y := by rw [HZ.out, Crc.Mi_add j 1 y, Crc.Mi_more, Crc.Mi_none]
      have hm32 : Crc.M z < 4294967296 := Crc.M_lt hz
      have HN := Lib.hid hnext
      clear hnext
      go_wp2_with fail
      refine (rM_any z _ hz).mono ?_
      rintro e w' ⟨rfl, rfl⟩
      go_wp2_with fail
      go_round
      case rel => exact ⟨j + 1, Crc.M z, by omega, by go_num, rfl, hm32, HN⟩
      case measure => simp [intOf]; omega
    · have hj88 : j = 8 := by omega
      subst hj88
      go_wp2_with fail
      go_ret
      exact ⟨ret_i (by rw [HZ.out]), rfl⟩

set_option maxHeartbeats 800000 in
set_option maxRecDepth 100000 in
theorem rextend_all (s : Nat) (A : Option Addr) (c : Nat) (bs : List Nat) (w : World) (hs : s < 4294967296) (hr : Rd w A (b8 bs)) (hby : By bs) (hl : bs.length ≤ 140737488355328) :
    Calls Try.prog 54 #[.int .u32 (s : Int), .slice A bs.length c] w fun e w' => e = .returned (.int .u32 ((Crc.ext s bs : Nat) : Int)) ∧ w = w' := by
  obtain ⟨s1, hs1⟩ : ∃ y, y = s ^^^ Crc.ones := ⟨_, rfl⟩
  have hsx : bits .xor .u32 IntKind.u32.max (s : Int) = (s1 : Int) := by rw [hs1]; exact xor_max s hs
  have hs132 : s1 < 4294967296 := by rw [hs1]; exact Crc.xor_lt (n := 32) hs Crc.ones_lt
  have HE := Lib.hid (show Crc.ext s bs = Crc.reg s1 bs ^^^ Crc.ones by rw [hs1]; rfl)
  have HR := Lib.hid hr
  clear hs1 hr
  go_enter Try.func54, Try.ntmps54
  go_wp2_with fail
  go_loop [5, 6] (fun v i => ∃ k x : Nat, k ≤ bs.length ∧ i = .int .i64 k ∧ v = .int .u32 (x : Int) ∧ x < 4294967296 ∧ Hid (Crc.reg s1 bs = Crc.reg x (bs.drop k))) (fun _ i => bs.length - (intOf i).toNat)
  case atStart => exact ⟨0, s1, Nat.zero_le _, rfl, by first | rfl | rw [hsx], hs132, by simp [Hid]⟩
  case round =>
    obtain ⟨k, x, hk, rfl, rfl, hx32, H⟩ := hrel
    by_cases hlt : k < bs.length
    · obtain ⟨b, hb, hb256, hdr⟩ := hby.get hlt
      obtain ⟨g, off, rfl, hg, hcell⟩ := HR.out.at_ hb
      have hN : Crc.reg s1 bs = Crc.reg (Crc.Mi 8 (x ^^^ b)) (bs.drop (k + 1)) := by rw [H.out, hdr, Crc.reg]
      obtain ⟨z, hz⟩ : ∃ z, z = Crc.Mi 8 (x ^^^ b) := ⟨_, rfl⟩
      have hz32 : z < 4294967296 := by rw [hz]; exact Crc.Mi_lt 8 (Crc.xor_lt (n := 32) hx32 (by omega))
      rw [← hz] at hN
      have HN := Lib.hid hN
      have HZ := Lib.hid hz
      have i0 : (0 : Int) ≤ (k : Int) := by omega
      have i1 : (k : Int) < (bs.length : Int) := by omega
      clear hN hz hb hdr H
      go_wp2_with fail
      refine (rthrough_any x b _ hx32 hb256).mono ?_
      rintro e w' ⟨rfl, rfl⟩
      rw [← HZ.out]
      go_wp2_with fail
      go_round
      case rel => exact ⟨k + 1, z, by omega, by go_num, rfl, hz32, HN⟩
      case measure => simp [intOf]; omega
    · have hN : Crc.ext s bs = x ^^^ Crc.ones := by rw [HE.out, H.out, List.drop_eq_nil_of_le (by omega), Crc.reg]
      have HN := Lib.hid hN
      clear hN H
      go_wp2_with fail
      go_ret
      exact ⟨ret_i (by rw [HN.out]; exact xor_max x hx32), rfl⟩

theorem rextend_is (s : Nat) (A : Option Addr) (n c : Nat) (bs : List Nat) (w : World) (z : Nat) (hs : s < 4294967296) (hr : Rd w A (b8 bs)) (hby : By bs) (hn : bs.length = n) (hl : n ≤ 140737488355328) (hz : z = Crc.ext s bs) :
    Calls Try.prog 54 #[.int .u32 (s : Int), .slice A n c] w fun e w' => e = .returned (.int .u32 (z : Int)) ∧ w = w' := by
  subst hn hz
  exact rextend_all s A c bs w hs hr hby hl

set_option maxRecDepth 100000 in
theorem rsum_is (A : Option Addr) (n c : Nat) (bs : List Nat) (w : World) (z : Nat) (hr : Rd w A (b8 bs)) (hby : By bs) (hn : bs.length = n) (hl : n ≤ 140737488355328) (hz : z = Crc.ext 0 bs) :
    Calls Try.prog 55 #[.slice A n c] w fun e w' => e = .returned (.int .u32 (z : Int)) ∧ w = w' := by
  go_enter Try.func55, Try.ntmps55
  go_wp2_with fail
  refine (rextend_is 0 A n c bs w z (by omega) hr hby hn hl hz).mono ?_
  rintro e w1 ⟨rfl, rfl⟩
  go_wp2_with fail
  go_ret
  exact ⟨ret_i (by rw [hz]), rfl⟩

/-- A step back. -/
def less1 (y : Nat) : Nat := if 2147483648 ≤ y then (y ^^^ Crc.poly) * 2 + 1 else y * 2
end Go.Proofs.Ytljfmcgeiceagaa
